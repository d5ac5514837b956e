/- A part of the proof of CodeTrainsAsSpecified: what the row's text reaches (packed by a program of this claim out of its texts). -/
import Derived.Test.YtgpdfalopdhjlaaKCodeTrainsAsSpecifiedd
section
namespace Go.Proofs.Ytgpdfalopdhjlaa.Q
open Go.RowKit Go.Proofs.YtgpdfalopdhjlaaW.PrintWords Go.Proofs.YtgpdfalopdhjlaaW.PrintLast Go.Proofs.YtgpdfalopdhjlaaW.PrintMore
attribute [local go_sem] max2_int min2_int max_two min_two max_three min_three max_four min_four   -- for this text's walks alone
set_option linter.unusedVariables false
set_option linter.unusedSimpArgs false
def r4_size.f (a0 : Int) : Option (Int) := if a0 < 0 then (some (wrap64 (-a0))) else (some a0)
set_option maxHeartbeats 8000000 in
set_option maxRecDepth 100000 in
theorem r4_size.calls (a0 : Int) (r : Int) (w : World) (h : r4_size.f a0 = some r) :
  Calls Try.prog 73 #[.int .i64 a0] w fun e w' => e = .returned (.int .i64 r) ∧ Drawn0 w w' := by
 have H : (if a0 < 0 then (some (wrap64 (-a0))) else (some a0)) = some r := h
 clear h
 by_cases c2 : a0 < 0
 ·rw [if_pos c2] at H
  have c2b0 : decide (a0 < 0) = true := decide_eq_true c2
  clear c2
  obtain rfl := Option.some.inj H
  go_enter Try.func73, Try.ntmps73
  go_wp2
  go_ret
  exact ⟨by first | rfl | (simp; done) | (simp [*]; done), by repeat (first | exact Drawn0.refl _ | apply Drawn0.step)⟩
 ·rw [if_neg c2] at H
  have c2b0 : decide (a0 < 0) = false := decide_eq_false c2
  clear c2
  obtain rfl := Option.some.inj H
  go_enter Try.func73, Try.ntmps73
  go_wp2
  go_ret
  exact ⟨by first | rfl | (simp; done) | (simp [*]; done), by repeat (first | exact Drawn0.refl _ | apply Drawn0.step)⟩
def r4_Norm.l0 : Nat → Int → List Int → Int → Int → Option (Int)
 | 0, _, _, _, _ => none
 | k + 1, x0, x1, x5, x6 => if x6 < (x1.length : Int) then (if x0 = 1 then (if 0 ≤ x6 then ((r4_size.f (rd x1 x6)).bind fun t305 => (r4_Norm.l0 k x0 x1 (wrap64 (x5 + t305)) (wrap64 (x6 + 1)))) else (none)) else (if x0 = 2 then (if 0 ≤ x6 then (r4_Norm.l0 k x0 x1 (wrap64 (x5 + (wrap64 ((rd x1 x6) * (rd x1 x6))))) (wrap64 (x6 + 1))) else (none)) else (if 0 ≤ x6 then ((r4_size.f (rd x1 x6)).bind fun t309 => (r4_Norm.l0 k x0 x1 (mx x5 t309) (wrap64 (x6 + 1)))) else (none)))) else (some x5)
def r4_Norm.f (k : Nat) (a0 : Int) (l1 : List Int) : Option (Int) := r4_Norm.l0 k a0 l1 0 0
set_option maxHeartbeats 8000000 in
set_option maxRecDepth 100000 in
theorem r4_Norm.calls (k : Nat) (a0 : Int) (A1 : Option Addr) (c1 : Nat) (l1 : List Int) (r : Int) (w : World) (hr1 : Kd.C (Kd.int .i64) w A1 l1.length l1) (hc1 : l1.length ≤ c1) (h : r4_Norm.f k a0 l1 = some r) :
  Calls Try.prog 56 #[.int .i64 a0, .slice A1 l1.length c1] w fun e w' => e = .returned (.int .i64 r) ∧ Below w.heap.size w w' := by
 have HR1 := Aside0.mk hr1
 have HC1 := Aside0.mk hc1
 clear hr1 hc1
 have HB := Aside0.mk (Below.refl w.heap.size w)
 have H : (r4_Norm.l0 k a0 l1 0 0) = some r := h
 clear h
 have H' := Aside0.mk H
 clear H
 go_enter Try.func56, Try.ntmps56
 go_wp2
 repeat (go_quiet (fail); try go_wp2)
 go_loopg [5, 6] k (fun kq v5 v6 w' => ∃ (x5_1 : Int) (x6_1 : Int), v5 = .int .i64 x5_1 ∧ v6 = .int .i64 x6_1 ∧ Aside0 (r4_Norm.l0 kq a0 l1 x5_1 x6_1 = some r) ∧ Aside0 (kq ≤ k) ∧ Aside0 (Below w.heap.size w w'))
 case atStart => exact ⟨(0), (0), (by first | rfl | (simp; done) | (simp [*]; done)), (by first | rfl | (simp; done) | (simp [*]; done)), H', ⟨Nat.le_refl _⟩, ⟨by repeat (first | (with_reducible first | exact HB.out | apply below_alloc | apply pw_below_drewN | apply below_drew1) | exact HB.out)⟩⟩
 case round =>
  clear H'
  try clear c1
  try clear p2
  obtain ⟨x5_1, x6_1, rfl, rfl, HA, HK1, HB⟩ := hrel
  cases gk with
  | zero => exact absurd HA.out (by simp [r4_Norm.l0])
  | succ k1 =>
   have H := HA.out
   clear HA
   simp only [r4_Norm.l0] at H
   by_cases c3 : x6_1 < (l1.length : Int)
   ·rw [if_pos c3] at H
    have c3b0 : decide (x6_1 < (l1.length : Int)) = true := decide_eq_true c3
    clear c3
    by_cases c4 : a0 = 1
    ·rw [if_pos c4] at H
     have c4b0 : (a0 == 1) = true := beq_iff_eq.mpr c4
     have c4b1 : (a0 != 1) = false := bne_eq_false_iff_eq.mpr c4
     clear c4
     by_cases c5 : 0 ≤ x6_1
     ·rw [if_pos c5] at H
      have c5b0 : decide (0 ≤ x6_1) = true := decide_eq_true c5
      clear c5
      replace H := Option.bind_eq_some_iff.mp H
      obtain ⟨t305, A60, H⟩ := H
      replace H : (r4_Norm.l0 k1 a0 l1 (wrap64 (x5_1 + t305)) (wrap64 (x6_1 + 1))) = some r := H
      have A6 := Aside0.mk A60
      clear A60
      have H' := Aside0.mk H
      clear H
      have p304 : 0 ≤ (x6_1 : Int) := of_decide_eq_true (by first | (with_reducible assumption) | assumption)
      have q304 : x6_1 < (l1.length : Int) := of_decide_eq_true (by first | (with_reducible assumption) | assumption)
      obtain ⟨ad304, e304, hx304_0⟩ := Kd.at_int HR1.out x6_1 p304 q304
      cases e304
      replace hx304_0 := (HB.out.cell (World.block_lt_of_cell? w _ hx304_0)).trans hx304_0
      replace p304 := eq_true p304
      replace q304 := eq_true q304
      go_wp2_with (first | (go_at_call 73; (with_reducible refine (r4_size.calls (rd l1 x6_1) t305 _ A6.out).mono ?_); rintro e w' ⟨rfl, ⟨nd, rfl⟩⟩; (try first | exact ⟨rfl, _, World.drewN_drewN _ _ _⟩ | exact ⟨rfl, _, Eq.trans (World.drewN_drewN _ _ _) (congrArg (World.drewN _) (Nat.add_assoc _ _ _))⟩)))
      repeat (go_quiet (first | (go_at_call 73; (with_reducible refine (r4_size.calls (rd l1 x6_1) t305 _ A6.out).mono ?_); rintro e w' ⟨rfl, ⟨nd, rfl⟩⟩; (try first | exact ⟨rfl, _, World.drewN_drewN _ _ _⟩ | exact ⟨rfl, _, Eq.trans (World.drewN_drewN _ _ _) (congrArg (World.drewN _) (Nat.add_assoc _ _ _))⟩))); try go_wp2_with (first | (go_at_call 73; (with_reducible refine (r4_size.calls (rd l1 x6_1) t305 _ A6.out).mono ?_); rintro e w' ⟨rfl, ⟨nd, rfl⟩⟩; (try first | exact ⟨rfl, _, World.drewN_drewN _ _ _⟩ | exact ⟨rfl, _, Eq.trans (World.drewN_drewN _ _ _) (congrArg (World.drewN _) (Nat.add_assoc _ _ _))⟩))))
      go_roundg k1
      case measure => have := HK1.out; omega
      case rel => exact ⟨(wrap64 (x5_1 + t305)), (wrap64 (x6_1 + 1)), (by first | rfl | (simp; done) | (simp [*]; done)), (by first | rfl | (simp; done) | (simp [*]; done)), H', ⟨by have := HK1.out; omega⟩, ⟨by repeat (first | (with_reducible first | exact HB.out | apply below_alloc | apply pw_below_drewN | apply below_drew1) | exact HB.out)⟩⟩
     ·rw [if_neg c5] at H
      exact absurd H (by simp)
    ·rw [if_neg c4] at H
     have c4b0 : (a0 == 1) = false := beq_eq_false_iff_ne.mpr c4
     have c4b1 : (a0 != 1) = true := bne_iff_ne.mpr c4
     by_cases c7 : a0 = 2
     ·rw [if_pos c7] at H
      have c7b0 : (a0 == 2) = true := beq_iff_eq.mpr c7
      have c7b1 : (a0 != 2) = false := bne_eq_false_iff_eq.mpr c7
      clear c7
      by_cases c8 : 0 ≤ x6_1
      ·rw [if_pos c8] at H
       have c8b0 : decide (0 ≤ x6_1) = true := decide_eq_true c8
       clear c8
       have H' := Aside0.mk H
       clear H
       have p306 : 0 ≤ (x6_1 : Int) := of_decide_eq_true (by first | (with_reducible assumption) | assumption)
       have q306 : x6_1 < (l1.length : Int) := of_decide_eq_true (by first | (with_reducible assumption) | assumption)
       obtain ⟨ad306, e306, hx306_0⟩ := Kd.at_int HR1.out x6_1 p306 q306
       cases e306
       replace hx306_0 := (HB.out.cell (World.block_lt_of_cell? w _ hx306_0)).trans hx306_0
       replace p306 := eq_true p306
       replace q306 := eq_true q306
       have p307 : 0 ≤ (x6_1 : Int) := of_decide_eq_true (by first | (with_reducible assumption) | assumption)
       have q307 : x6_1 < (l1.length : Int) := of_decide_eq_true (by first | (with_reducible assumption) | assumption)
       obtain ⟨ad307, e307, hx307_0⟩ := Kd.at_int HR1.out x6_1 p307 q307
       obtain rfl : ad306 = ad307 := (by injection e307)
       replace hx307_0 := (HB.out.cell (World.block_lt_of_cell? w _ hx307_0)).trans hx307_0
       replace p307 := eq_true p307
       replace q307 := eq_true q307
       go_wp2
       repeat (go_quiet (fail); try go_wp2)
       go_roundg k1
       case measure => have := HK1.out; omega
       case rel => exact ⟨(wrap64 (x5_1 + (wrap64 ((rd l1 x6_1) * (rd l1 x6_1))))), (wrap64 (x6_1 + 1)), (by first | rfl | (simp; done) | (simp [*]; done)), (by first | rfl | (simp; done) | (simp [*]; done)), H', ⟨by have := HK1.out; omega⟩, ⟨by repeat (first | (with_reducible first | exact HB.out | apply below_alloc | apply pw_below_drewN | apply below_drew1) | exact HB.out)⟩⟩
      ·rw [if_neg c8] at H
       exact absurd H (by simp)
     ·rw [if_neg c7] at H
      have c7b0 : (a0 == 2) = false := beq_eq_false_iff_ne.mpr c7
      have c7b1 : (a0 != 2) = true := bne_iff_ne.mpr c7
      by_cases c9 : 0 ≤ x6_1
      ·rw [if_pos c9] at H
       have c9b0 : decide (0 ≤ x6_1) = true := decide_eq_true c9
       clear c9
       replace H := Option.bind_eq_some_iff.mp H
       obtain ⟨t309, A100, H⟩ := H
       replace H : (r4_Norm.l0 k1 a0 l1 (mx x5_1 t309) (wrap64 (x6_1 + 1))) = some r := H
       have A10 := Aside0.mk A100
       clear A100
       obtain ⟨ji11, hji11⟩ : ∃ j_ : Int, (mx x5_1 t309) = j_ := ⟨_, rfl⟩
       replace H : (r4_Norm.l0 k1 a0 l1 ji11 (wrap64 (x6_1 + 1))) = some r := by first | (rw [hji11] at H; exact H) | (simp only [hji11] at H ⊢; exact H)
       (try rw [hji11] at A10)
       have hji11_ : (if x5_1 < t309 then t309 else x5_1) = ji11 := hji11
       have H' := Aside0.mk H
       clear H
       have p308 : 0 ≤ (x6_1 : Int) := of_decide_eq_true (by first | (with_reducible assumption) | assumption)
       have q308 : x6_1 < (l1.length : Int) := of_decide_eq_true (by first | (with_reducible assumption) | assumption)
       obtain ⟨ad308, e308, hx308_0⟩ := Kd.at_int HR1.out x6_1 p308 q308
       cases e308
       replace hx308_0 := (HB.out.cell (World.block_lt_of_cell? w _ hx308_0)).trans hx308_0
       replace p308 := eq_true p308
       replace q308 := eq_true q308
       go_wp2_with (first | (go_at_call 73; (with_reducible refine (r4_size.calls (rd l1 x6_1) t309 _ A10.out).mono ?_); rintro e w' ⟨rfl, ⟨nd, rfl⟩⟩; (try first | exact ⟨rfl, _, World.drewN_drewN _ _ _⟩ | exact ⟨rfl, _, Eq.trans (World.drewN_drewN _ _ _) (congrArg (World.drewN _) (Nat.add_assoc _ _ _))⟩)))
       repeat (go_quiet (first | (go_at_call 73; (with_reducible refine (r4_size.calls (rd l1 x6_1) t309 _ A10.out).mono ?_); rintro e w' ⟨rfl, ⟨nd, rfl⟩⟩; (try first | exact ⟨rfl, _, World.drewN_drewN _ _ _⟩ | exact ⟨rfl, _, Eq.trans (World.drewN_drewN _ _ _) (congrArg (World.drewN _) (Nat.add_assoc _ _ _))⟩))); try go_wp2_with (first | (go_at_call 73; (with_reducible refine (r4_size.calls (rd l1 x6_1) t309 _ A10.out).mono ?_); rintro e w' ⟨rfl, ⟨nd, rfl⟩⟩; (try first | exact ⟨rfl, _, World.drewN_drewN _ _ _⟩ | exact ⟨rfl, _, Eq.trans (World.drewN_drewN _ _ _) (congrArg (World.drewN _) (Nat.add_assoc _ _ _))⟩))))
       go_roundg k1
       case measure => have := HK1.out; omega
       case rel => exact ⟨(ji11), (wrap64 (x6_1 + 1)), (by first | rfl | (simp; done) | (simp only [← hji11] <;> (first | rfl | simp)) | (simp [*]; done)), (by first | rfl | (simp; done) | (simp [*]; done)), H', ⟨by have := HK1.out; omega⟩, ⟨by repeat (first | (with_reducible first | exact HB.out | apply below_alloc | apply pw_below_drewN | apply below_drew1) | exact HB.out)⟩⟩
      ·rw [if_neg c9] at H
       exact absurd H (by simp)
   ·rw [if_neg c3] at H
    have c3b0 : decide (x6_1 < (l1.length : Int)) = false := decide_eq_false c3
    clear c3
    obtain rfl := Option.some.inj H
    go_wp2
    repeat (go_quiet (fail); try go_wp2)
    go_ret
    exact ⟨by first | rfl | (simp [errW_none, errW_some] <;> rfl) | (simp [*, errW_none, errW_some] <;> rfl), by repeat (first | (with_reducible first | exact HB.out | apply below_alloc | apply pw_below_drewN | apply below_drew1) | exact HB.out)⟩
def r4_Sub.l0 : Nat → List Int → List Int → List Int → Int → Option (List Int)
 | 0, _, _, _, _ => none
 | k + 1, x0, x1, x5, x6 => if x6 < (x0.length : Int) then (if 0 ≤ x6 then (if x6 < (x1.length : Int) then (if x5.length < 17592186044416 then (r4_Sub.l0 k x0 x1 (x5 ++ [wrap64 ((rd x0 x6) - (rd x1 x6))]) (wrap64 (x6 + 1))) else (none)) else (none)) else (none)) else (some x5)
def r4_Sub.f (k : Nat) (l0 : List Int) (l1 : List Int) : Option (List Int) := r4_Sub.l0 k l0 l1 ([] : List Int) 0
def r4_Sub.T5 : Bool × List (List Nat × List Nat) := (true, [([], []), ([], []), ([], []), ([1, 2], [1, 2]), ([3], [3]), ([], []), ([], []), ([5, 6], [5, 6]), ([7], [7]), ([4, 8], [4, 8]), ([9], [9]), ([0, 10], [0, 10]), ([11, 11, 0, 1, 2, 3, 4, 5, 6, 7, 8, 9, 10, 11], [0, 11])])
def r4_Sub.B5 : List Nat := [0, 0, 0, 6, 14, 0, 0, 96, 224, 510, 1022, 2047, 4095]
theorem r4_Sub.tab5 : rtab .any (opsOf Try.f57 5) = r4_Sub.T5 := by kernel_rfl
theorem r4_Sub.bits5 : waitsOk r4_Sub.T5.2 r4_Sub.B5 = true := by kernel_rfl
set_option maxHeartbeats 8000000 in
set_option maxRecDepth 100000 in
theorem r4_Sub.calls (k : Nat) (A0 : Option Addr) (c0 : Nat) (l0 : List Int) (A1 : Option Addr) (c1 : Nat) (l1 : List Int) (r : List Int) (w : World) (hr0 : Kd.C (Kd.int .i64) w A0 l0.length l0) (hc0 : l0.length ≤ c0) (hr1 : Kd.C (Kd.int .i64) w A1 l1.length l1) (hc1 : l1.length ≤ c1) (h : r4_Sub.f k l0 l1 = some r) :
  Calls Try.prog 57 #[.slice A0 l0.length c0, .slice A1 l1.length c1] w fun e w' => ∃ v0_ : Value, e = .returned (v0_) ∧ Kd.R (Kd.int .i64) 3 w' w.heap.size (fun _ => True) v0_ r ∧ Below w.heap.size w w' := by
 have HR0 := Aside0.mk hr0
 have HC0 := Aside0.mk hc0
 clear hr0 hc0
 have HR1 := Aside0.mk hr1
 have HC1 := Aside0.mk hc1
 clear hr1 hc1
 have HB := Aside0.mk (Below.refl w.heap.size w)
 have H : (r4_Sub.l0 k l0 l1 ([] : List Int) 0) = some r := h
 clear h
 have H' := Aside0.mk H
 clear H
 go_enter Try.func57, Try.ntmps57
 go_wp2
 go_loopg [5, 6] k (fun kq v5 v6 w' => ∃ (x5_1 : List Int) (x6_1 : Int), v6 = .int .i64 x6_1 ∧ Aside0 (r4_Sub.l0 kq l0 l1 x5_1 x6_1 = some r) ∧ Aside0 (kq ≤ k) ∧ Aside0 (Kd.R (Kd.int .i64) 3 w' w.heap.size (fun _ => True) v5 x5_1) ∧ Aside0 (Below w.heap.size w w'))
 case atStart => exact ⟨(([] : List Int)), (0), (by first | rfl | (simp; done) | (simp [*]; done)), H', ⟨Nat.le_refl _⟩, ⟨by first | exact Kd.R_nil _ _ _ _ _ | exact Kd.N_nil _ _ _ _ _ | exact Kd.V_nil _ _ _ _ _ | exact Kd.Q_nil _ _ _ _ _ | exact Kd.S_nil _ _ _ _ _⟩, ⟨by repeat (first | (with_reducible first | exact HB.out | apply below_alloc | apply pw_below_drewN | apply below_drew1) | exact HB.out)⟩⟩
 case round =>
  clear H'
  try clear c1
  try clear p2
  obtain ⟨x5_1, x6_1, rfl, HA, HK1, HO_5, HB⟩ := hrel
  cases gk with
  | zero => exact absurd HA.out (by simp [r4_Sub.l0])
  | succ k1 =>
   have H := HA.out
   clear HA
   simp only [r4_Sub.l0] at H
   by_cases c3 : x6_1 < (l0.length : Int)
   ·rw [if_pos c3] at H
    have c3b0 : decide (x6_1 < (l0.length : Int)) = true := decide_eq_true c3
    clear c3
    by_cases c4 : 0 ≤ x6_1
    ·rw [if_pos c4] at H
     have c4b0 : decide (0 ≤ x6_1) = true := decide_eq_true c4
     clear c4
     by_cases c5 : x6_1 < (l1.length : Int)
     ·rw [if_pos c5] at H
      have c5b0 : decide (x6_1 < (l1.length : Int)) = true := decide_eq_true c5
      clear c5
      by_cases c6 : x5_1.length < 17592186044416
      ·rw [if_pos c6] at H
       have LMc6 := Aside0.mk c6
       clear c6
       obtain ⟨y312, hy312⟩ : ∃ y_ : List Int, y_ = (x5_1 ++ [wrap64 ((rd l0 x6_1) - (rd l1 x6_1))]) := ⟨_, rfl⟩
       replace H : (r4_Sub.l0 k1 l0 l1 y312 (wrap64 (x6_1 + 1))) = some r := by first | (rw [hy312]; with_reducible exact H) | (have H2_ := (Option.bind_some _ _).symm.trans H; rw [hy312]; with_reducible exact H2_) | (have H2_ := (Option.bind_some _ _).symm.trans H; with_reducible exact H2_) | with_reducible exact H | (rw [hy312]; exact H) | exact H
       have Ny312 := Aside0.mk hy312
       clear hy312
       have H' := Aside0.mk H
       clear H
       try go_wp2
       have n0_ := Aside0.mk (Kd.R_drew HO_5.out)
       have n1_ := Aside0.mk (below_drew1 HB.out)
       clear HO_5
       clear HB
       have HO_5 := n0_
       have HB := n1_
       clear n0_ n1_
       have p310 : 0 ≤ (x6_1 : Int) := of_decide_eq_true (by first | (with_reducible assumption) | assumption)
       have q310 : x6_1 < (l0.length : Int) := of_decide_eq_true (by first | (with_reducible assumption) | assumption)
       obtain ⟨ad310, e310, hx310_0⟩ := Kd.at_int HR0.out x6_1 p310 q310
       have hw310_0 := hx310_0
       cases e310
       replace hx310_0 := (HB.out.cell (World.block_lt_of_cell? w _ hx310_0)).trans hx310_0
       replace p310 := eq_true p310
       replace q310 := eq_true q310
       have p311 : 0 ≤ (x6_1 : Int) := of_decide_eq_true (by first | (with_reducible assumption) | assumption)
       have q311 : x6_1 < (l1.length : Int) := of_decide_eq_true (by first | (with_reducible assumption) | assumption)
       obtain ⟨ad311, e311, hx311_0⟩ := Kd.at_int HR1.out x6_1 p311 q311
       have hw311_0 := hx311_0
       cases e311
       replace hx311_0 := (HB.out.cell (World.block_lt_of_cell? w _ hx311_0)).trans hx311_0
       replace p311 := eq_true p311
       replace q311 := eq_true q311
       refine start_ (n := 13) (S := fun w' => w'.cell? (ad310.add (x6_1).toNat) = some (.int .i64 (rd l0 x6_1)) ∧ w'.cell? (ad311.add (x6_1).toNat) = some (.int .i64 (rd l1 x6_1))) (ds := []) #[false, false, false, false, false, false, false, false, false, false, false, false, false] (by kernel_rfl) rfl rfl ⟨((HB.out.cell (World.block_lt_of_cell? w _ hw310_0)).trans hw310_0), ((HB.out.cell (World.block_lt_of_cell? w _ hw311_0)).trans hw311_0)⟩ (fun hHeld => ?_); refine with_tabW r4_Sub.tab5 r4_Sub.bits5 (fun HT_ HW_ => ?_)
       generalize wr.drew = w7 at HO_5 HB hx310_0 hx311_0 hHeld ⊢
       refine pure_ (i := 0) (N := some 13) (v := ?_) (a' := ?_) #[true, false, false, false, false, false, false, false, false, false, false, false, false] rfl rfl (any_of HT_.out (by kernel_rfl)) (fun _ _ _ h => h) (Or.inl ⟨by rfl, ?_⟩) ?_ ?_
       rotate_left
       ·intro w'
        go_simp
        with_reducible rfl
       rotate_left
       ·simp only [Act.put, List.setIfInBounds_toArray, List.set_cons_zero, List.set_cons_succ, i64_w, i32_w]
        rfl
       refine pure_ (i := 1) (N := some 14) (v := ?_) (a' := ?_) #[true, true, false, false, false, false, false, false, false, false, false, false, false] rfl rfl (any_of HT_.out (by kernel_rfl)) (fun _ _ _ h => h) (Or.inl ⟨by rfl, ?_⟩) ?_ ?_
       rotate_left
       ·intro w'
        go_simp
        with_reducible rfl
       rotate_left
       ·simp only [Act.put, List.setIfInBounds_toArray, List.set_cons_zero, List.set_cons_succ, i64_w, i32_w]
        rfl
       refine pure_ (i := 2) (N := some 15) (v := ?_) (a' := ?_) #[true, true, true, false, false, false, false, false, false, false, false, false, false] rfl rfl (any_of HT_.out (by kernel_rfl)) (fun _ _ _ h => h) (Or.inl ⟨by rfl, ?_⟩) ?_ ?_
       rotate_left
       ·intro w'
        go_simp
        with_reducible rfl
       rotate_left
       ·simp only [Act.put, List.setIfInBounds_toArray, List.set_cons_zero, List.set_cons_succ, i64_w, i32_w]
        rfl
       refine pure_ (i := 3) (N := some 16) (v := ?_) (a' := ?_) #[true, true, true, true, false, false, false, false, false, false, false, false, false] rfl rfl (any_of HT_.out (by kernel_rfl)) (fun _ _ _ h => h) (Or.inl ⟨by rfl, ?_⟩) ?_ ?_
       rotate_left
       ·intro w'
        go_simp
        with_reducible rfl
       rotate_left
       ·simp only [Act.put, List.setIfInBounds_toArray, List.set_cons_zero, List.set_cons_succ, i64_w, i32_w]
        rfl
       refine pure_ (i := 5) (N := some 18) (v := ?_) (a' := ?_) #[true, true, true, true, false, true, false, false, false, false, false, false, false] rfl rfl (any_of HT_.out (by kernel_rfl)) (fun _ _ _ h => h) (Or.inl ⟨by rfl, ?_⟩) ?_ ?_
       rotate_left
       ·intro w'
        go_simp
        with_reducible rfl
       rotate_left
       ·simp only [Act.put, List.setIfInBounds_toArray, List.set_cons_zero, List.set_cons_succ, i64_w, i32_w]
        rfl
       refine pure_ (i := 6) (N := some 19) (v := ?_) (a' := ?_) #[true, true, true, true, false, true, true, false, false, false, false, false, false] rfl rfl (any_of HT_.out (by kernel_rfl)) (fun _ _ _ h => h) (Or.inl ⟨by rfl, ?_⟩) ?_ ?_
       rotate_left
       ·intro w'
        go_simp
        with_reducible rfl
       rotate_left
       ·simp only [Act.put, List.setIfInBounds_toArray, List.set_cons_zero, List.set_cons_succ, i64_w, i32_w]
        rfl
       refine pure_ (i := 7) (N := some 20) (v := ?_) (a' := ?_) #[true, true, true, true, false, true, true, true, false, false, false, false, false] rfl rfl (any_of HT_.out (by kernel_rfl)) (fun _ _ _ h => h) (Or.inl ⟨by rfl, ?_⟩) ?_ ?_
       rotate_left
       ·intro w'
        go_simp
        with_reducible rfl
       rotate_left
       ·simp only [Act.put, List.setIfInBounds_toArray, List.set_cons_zero, List.set_cons_succ, i64_w, i32_w]
        rfl
       refine take_ (i := 4) (N := some 17) (v := ?_) (a' := ?_) #[true, true, true, true, true, true, true, true, false, false, false, false, false] rfl rfl (take_ofW HT_.out HW_.out (by kernel_rfl)) (fun _ _ _ h => h) (Or.inl ⟨by rfl, ?_⟩) hHeld ?_ ?_
       rotate_left
       ·rintro w' ⟨s0, s1⟩
        go_simp
        with_reducible rfl
       rotate_left
       ·simp only [Act.put, List.setIfInBounds_toArray, List.set_cons_zero, List.set_cons_succ, i64_w, i32_w]
        rfl
       refine take_ (i := 8) (N := some 21) (v := ?_) (a' := ?_) #[true, true, true, true, true, true, true, true, true, false, false, false, false] rfl rfl (take_ofW HT_.out HW_.out (by kernel_rfl)) (fun _ _ _ h => h) (Or.inl ⟨by rfl, ?_⟩) hHeld ?_ ?_
       rotate_left
       ·rintro w' ⟨s0, s1⟩
        go_simp
        with_reducible rfl
       rotate_left
       ·simp only [Act.put, List.setIfInBounds_toArray, List.set_cons_zero, List.set_cons_succ, i64_w, i32_w]
        rfl
       refine pure_ (i := 9) (N := some 22) (v := ?_) (a' := ?_) #[true, true, true, true, true, true, true, true, true, true, false, false, false] rfl rfl (any_of HT_.out (by kernel_rfl)) (fun _ _ _ h => h) (Or.inl ⟨by rfl, ?_⟩) ?_ ?_
       rotate_left
       ·intro w'
        go_simp
        with_reducible rfl
       rotate_left
       ·simp only [Act.put, List.setIfInBounds_toArray, List.set_cons_zero, List.set_cons_succ, i64_w, i32_w]
        rfl
       refine one_ (i := 10) (N := some 23) #[true, true, true, true, true, true, true, true, true, true, true, false, false] rfl rfl (one_of HT_.out (by kernel_rfl)) (by decide) (fun K hK => ?_)
       refine value_ (w1 := ?_) (v := ?_) (by rfl) rfl ?_ ?_
       rotate_left 2
       ·go_simp
        constructor
        ·rfl
        ·rfl
       refine hK.out _ _ ⟨(World.cell?_alloc_lt _ _ _ (World.block_lt_of_cell? _ _ (((HB.out.cell (World.block_lt_of_cell? w _ hw310_0)).trans hw310_0)))).trans (((HB.out.cell (World.block_lt_of_cell? w _ hw310_0)).trans hw310_0)), (World.cell?_alloc_lt _ _ _ (World.block_lt_of_cell? _ _ (((HB.out.cell (World.block_lt_of_cell? w _ hw311_0)).trans hw311_0)))).trans (((HB.out.cell (World.block_lt_of_cell? w _ hw311_0)).trans hw311_0))⟩ (fun hHeld => ?_)
       clear hK K
       refine norm_ (a' := ?_) ?_ ?_
       rotate_left
       ·show Act.put _ (some 23) _ = _
        simp only [Act.put, List.setIfInBounds_toArray, List.set_cons_zero, List.set_cons_succ, i64_w, i32_w]
        rfl
       refine one_ (i := 11) (N := some 24) #[true, true, true, true, true, true, true, true, true, true, true, true, false] rfl rfl (one_of HT_.out (by kernel_rfl)) (by decide) (fun K hK => ?_)
       refine Kd.R_append_step (Kd.int .i64) (w0 := w) w.heap.size (by rfl) (.tmp 13) (.tmp 23) 22 3 (.int .i64 0) 8 rfl Try.underlying22 info3 rfl (by decide) (by omega) u5 x5_1 (wrap64 ((rd l0 x6_1) - (rd l1 x6_1))) [.int .i64 (wrap64 ((rd l0 x6_1) - (rd l1 x6_1)))] (fun _ => True) (fun _ => False) rfl rfl ?aP (fun _ hk => hk.elim) ?aF ?aO ?aB ?aS ?aL ?_
       (case aP => exact rfl)
       (case aB => exact (by repeat (first | (with_reducible first | exact HB.out | apply below_alloc | apply pw_below_drewN | apply below_drew1) | exact HB.out)))
       (case aF => exact (fun _ _ => trivial))
       (case aO => exact (by (with_reducible repeat (first | apply Kd.R_alloc | apply Kd.R_drewN | apply Kd.R_drew)); exact HO_5.out))
       (case aS => exact (below_size (by repeat (first | (with_reducible first | exact HB.out | apply below_alloc | apply pw_below_drewN | apply below_drew1) | exact HB.out))))
       (case aL => have := LMc6.out; omega)
       intro v313 w8 ho hb hg hat
       rw [← Ny312.out] at ho
       have n0_ := Aside0.mk (hb)
       have n1_ := Aside0.mk (ho)
       clear HB
       clear HO_5
       have HB := n0_
       have HO314 := n1_
       clear n0_ n1_
       clear ho hb hg hat
       refine hK.out _ _ ⟨((HB.out.cell (World.block_lt_of_cell? w _ hw310_0)).trans hw310_0), ((HB.out.cell (World.block_lt_of_cell? w _ hw311_0)).trans hw311_0)⟩ (fun hHeld => ?_)
       clear hK K
       refine norm_ (a' := ?_) ?_ ?_
       rotate_left
       ·show Act.put _ (some 24) _ = _
        simp only [Act.put, List.setIfInBounds_toArray, List.set_cons_zero, List.set_cons_succ, i64_w, i32_w]
        rfl
       refine pure_ (i := 12) (N := some 5) (v := ?_) (a' := ?_) #[true, true, true, true, true, true, true, true, true, true, true, true, true] rfl rfl (any_of HT_.out (by kernel_rfl)) (fun _ _ _ h => h) (Or.inl ⟨by rfl, ?_⟩) ?_ ?_
       rotate_left
       ·intro w'
        go_simp
        with_reducible rfl
       rotate_left
       ·simp only [Act.put, List.setIfInBounds_toArray, List.set_cons_zero, List.set_cons_succ, i64_w, i32_w]
        rfl
       refine done_ (done_of HT_.out (by kernel_rfl)) ?_
       try go_wp2
       go_roundg k1
       case measure => have := HK1.out; omega
       case rel => exact ⟨(y312), (wrap64 (x6_1 + 1)), (by first | rfl | (simp; done) | (simp [*]; done)), H', ⟨by have := HK1.out; omega⟩, ⟨by (with_reducible repeat (first | apply Kd.R_alloc | apply Kd.R_drewN | apply Kd.R_drew)); exact HO314.out⟩, ⟨by repeat (first | (with_reducible first | exact HB.out | apply below_alloc | apply pw_below_drewN | apply below_drew1) | exact HB.out)⟩⟩
      ·rw [if_neg c6] at H
       exact absurd H (by simp)
     ·rw [if_neg c5] at H
      exact absurd H (by simp)
    ·rw [if_neg c4] at H
     exact absurd H (by simp)
   ·rw [if_neg c3] at H
    have c3b0 : decide (x6_1 < (l0.length : Int)) = false := decide_eq_false c3
    clear c3
    obtain rfl := Option.some.inj H
    go_wp2
    go_ret
    exact ⟨_, by first | rfl | (simp [errW_none, errW_some] <;> rfl) | (simp [*, errW_none, errW_some] <;> rfl), by (with_reducible repeat (first | apply Kd.R_alloc | apply Kd.R_drewN | apply Kd.R_drew)); exact HO_5.out, by repeat (first | (with_reducible first | exact HB.out | apply below_alloc | apply pw_below_drewN | apply below_drew1) | exact HB.out)⟩
def r4_Key.f (k : Nat) (a0 : Int) (l1 : List Int) (l2 : List Int) : Option (Int) := (r4_Sub.f k l1 l2).bind fun t315 => ((r4_Norm.f k a0 t315).bind fun t318 => (some t318))
set_option maxHeartbeats 8000000 in
set_option maxRecDepth 100000 in
theorem r4_Key.calls (k : Nat) (a0 : Int) (A1 : Option Addr) (c1 : Nat) (l1 : List Int) (A2 : Option Addr) (c2 : Nat) (l2 : List Int) (r : Int) (w : World) (hr1 : Kd.C (Kd.int .i64) w A1 l1.length l1) (hc1 : l1.length ≤ c1) (hr2 : Kd.C (Kd.int .i64) w A2 l2.length l2) (hc2 : l2.length ≤ c2) (h : r4_Key.f k a0 l1 l2 = some r) :
  Calls Try.prog 29 #[.int .i64 a0, .slice A1 l1.length c1, .slice A2 l2.length c2] w fun e w' => e = .returned (.int .i64 r) ∧ Below w.heap.size w w' := by
 have HR1 := Aside0.mk hr1
 have HC1 := Aside0.mk hc1
 clear hr1 hc1
 have HR2 := Aside0.mk hr2
 have HC2 := Aside0.mk hc2
 clear hr2 hc2
 have HB := Aside0.mk (Below.refl w.heap.size w)
 have H : ((r4_Sub.f k l1 l2).bind fun t315 => ((r4_Norm.f k a0 t315).bind fun t318 => (some t318))) = some r := h
 clear h
 replace H := Option.bind_eq_some_iff.mp H
 obtain ⟨t315, A40, H⟩ := H
 replace H : ((r4_Norm.f k a0 t315).bind fun t318 => (some t318)) = some r := H
 have A4 := Aside0.mk A40
 clear A40
 replace H := Option.bind_eq_some_iff.mp H
 obtain ⟨t318, A50, H⟩ := H
 replace H : (some t318) = some r := H
 have A5 := Aside0.mk A50
 clear A50
 obtain rfl := Option.some.inj H
 go_enter Try.func29, Try.ntmps29
 go_wp2_with (first | ((with_reducible refine gate_callee (f := 57) rfl ?_); refine goesL_ (some 10) rfl rfl Try.func57 (by kernel_rfl) rfl #[.slice A1 l1.length c1, .slice A2 l2.length c2] rfl (by (try simp only [List.map_toArray, List.map_cons, List.map_nil]); first | done | rfl | (simp only [List.length_drop, List.length_take]; rfl)) ?_; (with_reducible refine (r4_Sub.calls k _ _ l1 _ _ l2 t315 _ ?side1 ?side2 ?side3 ?side4 A4.out).mono ?_); (case side1 => repeat (first | exact HR1.out | (with_reducible refine Kd.C_alloc ?_ _) | (with_reducible refine Kd.C_drewN ?_ _) | (with_reducible refine Kd.C_drew ?_))); (case side2 => exact HC1.out); (case side3 => repeat (first | exact HR2.out | (with_reducible refine Kd.C_alloc ?_ _) | (with_reducible refine Kd.C_drewN ?_ _) | (with_reducible refine Kd.C_drew ?_))); (case side4 => exact HC2.out); rintro e w6 ⟨v316, rfl, ho0, hb⟩; refine ⟨_, rfl, ?_⟩; have n0_ := Aside0.mk (Kd.R_lower ho0 (below_size (by repeat (first | (with_reducible first | exact HB.out | apply below_alloc | apply pw_below_drewN | apply below_drew1) | exact HB.out)))); have n1_ := Aside0.mk (below_step (by repeat (first | (with_reducible first | exact HB.out | apply below_alloc | apply pw_below_drewN | apply below_drew1) | exact HB.out)) hb); clear HB; have HO317 := n0_; have HB := n1_; clear n0_ n1_; (try clear hb); (try clear hb2); (try clear hk); (try clear hi); (try clear ho0); obtain ⟨Ao7, co7, eo7⟩ := Kd.R_slice HO317.out; subst eo7) | ((with_reducible refine gate_callee (f := 56) rfl ?_); refine goesL_ (some 11) rfl rfl Try.func56 (by kernel_rfl) rfl #[.int .i64 a0, .slice Ao7 t315.length co7] rfl (by (try simp only [List.map_toArray, List.map_cons, List.map_nil]); first | done | rfl | (simp only [List.length_drop, List.length_take]; rfl)) ?_; (with_reducible refine (r4_Norm.calls k a0 _ _ t315 t318 _ ?side1 ?side2 A5.out).mono ?_); (case side1 => repeat (first | exact (Kd.R_reads' HO317.out).2.2 | (with_reducible refine Kd.C_alloc ?_ _) | (with_reducible refine Kd.C_drewN ?_ _) | (with_reducible refine Kd.C_drew ?_))); (case side2 => exact (Kd.R_reads' HO317.out).2.1); rintro e w8 ⟨rfl, hb⟩; refine ⟨_, rfl, ?_⟩; have n0_ := Aside0.mk (Kd.R_below (by (with_reducible repeat (first | apply Kd.R_alloc | apply Kd.R_drewN | apply Kd.R_drew)); exact HO317.out) hb); have n1_ := Aside0.mk (below_step (by repeat (first | (with_reducible first | exact HB.out | apply below_alloc | apply pw_below_drewN | apply below_drew1) | exact HB.out)) hb); clear HO317; clear HB; have HO317 := n0_; have HB := n1_; clear n0_ n1_; (try clear hb); (try clear hb2); (try clear hk); (try clear hi)))
 go_ret
 exact ⟨by first | rfl | (simp [errW_none, errW_some] <;> rfl) | (simp [*, errW_none, errW_some] <;> rfl), by repeat (first | (with_reducible first | exact HB.out | apply below_alloc | apply pw_below_drewN | apply below_drew1) | exact HB.out)⟩
def r8_Part.f (a0_0 : Int) (l0_1 : List Int) (l0_2 : List (List (List Int))) (a1 : Int) (l2 : List Int) : Option (List Int) := if 0 ≤ a1 then (if a1 < (l0_1.length : Int) then ((r8_end.f l0_1 a0_0 a1).bind fun t321 => (if 0 ≤ (rd l0_1 a1) then (if (rd l0_1 a1) ≤ t321 then (if t321 ≤ (l2.length : Int) then (some ((l2.take (t321 : Int).toNat).drop ((rd l0_1 a1) : Int).toNat)) else (none)) else (none)) else (none))) else (none)) else (none)
set_option maxHeartbeats 8000000 in
set_option maxRecDepth 100000 in
theorem r8_Part.calls (a0_0 : Int) (A0_1 : Option Addr) (c0_1 : Nat) (l0_1 : List Int) (A0_2 : Option Addr) (c0_2 : Nat) (l0_2 : List (List (List Int))) (a1 : Int) (P2_ : Nat → Prop) (A2 : Option Addr) (c2 : Nat) (l2 : List Int) (r : List Int) (w : World) (hr0_1 : Kd.C (Kd.int .i64) w A0_1 l0_1.length l0_1) (hc0_1 : l0_1.length ≤ c0_1) (hr0_2 : Kd.C (Kd.slice 22 (Kd.slice 3 (Kd.int .i64))) w A0_2 l0_2.length l0_2) (hc0_2 : l0_2.length ≤ c0_2) (hs2 : Kd.V (Kd.int .i64) 3 w w.heap.size (fun k_ => P2_ k_) (.slice A2 l2.length c2) l2) (h : r8_Part.f a0_0 l0_1 l0_2 a1 l2 = some r) :
  Calls Try.prog 49 #[.agg #[.int .i64 a0_0, .slice A0_1 l0_1.length c0_1, .slice A0_2 l0_2.length c0_2], .int .i64 a1, .slice A2 l2.length c2] w fun e w' => ∃ v0_ : Value, e = .returned (v0_) ∧ Kd.V (Kd.int .i64) 3 w' w.heap.size (fun k_ => (P2_ k_ ∨ w.heap.size ≤ k_)) v0_ r ∧ Below w.heap.size w w' := by
 have hu25 := Try.underlying25
 have HR0_1 := Aside0.mk hr0_1
 have HC0_1 := Aside0.mk hc0_1
 clear hr0_1 hc0_1
 have HR0_2 := Aside0.mk hr0_2
 have HC0_2 := Aside0.mk hc0_2
 clear hr0_2 hc0_2
 have HO2 := Aside0.mk (show Kd.V (Kd.int .i64) 3 w w.heap.size (fun k_ => (P2_ k_ ∨ w.heap.size ≤ k_)) (.slice A2 l2.length c2) l2 from Kd.V_mono hs2 (fun k_ hk => .inl hk))
 have HB := Aside0.mk (Below.refl w.heap.size w)
 have H : (if 0 ≤ a1 then (if a1 < (l0_1.length : Int) then ((r8_end.f l0_1 a0_0 a1).bind fun t321 => (if 0 ≤ (rd l0_1 a1) then (if (rd l0_1 a1) ≤ t321 then (if t321 ≤ (l2.length : Int) then (some ((l2.take (t321 : Int).toNat).drop ((rd l0_1 a1) : Int).toNat)) else (none)) else (none)) else (none))) else (none)) else (none)) = some r := h
 clear h
 by_cases c4 : 0 ≤ a1
 ·rw [if_pos c4] at H
  have c4b0 : decide (0 ≤ a1) = true := decide_eq_true c4
  clear c4
  by_cases c5 : a1 < (l0_1.length : Int)
  ·rw [if_pos c5] at H
   have c5b0 : decide (a1 < (l0_1.length : Int)) = true := decide_eq_true c5
   clear c5
   replace H := Option.bind_eq_some_iff.mp H
   obtain ⟨t321, A60, H⟩ := H
   replace H : (if 0 ≤ (rd l0_1 a1) then (if (rd l0_1 a1) ≤ t321 then (if t321 ≤ (l2.length : Int) then (some ((l2.take (t321 : Int).toNat).drop ((rd l0_1 a1) : Int).toNat)) else (none)) else (none)) else (none)) = some r := H
   have A6 := Aside0.mk A60
   clear A60
   by_cases c7 : 0 ≤ (rd l0_1 a1)
   ·rw [if_pos c7] at H
    have c7b0 := eq_true c7
    have c7b1 : decide (0 ≤ (rd l0_1 a1)) = true := decide_eq_true c7
    clear c7
    by_cases c8 : (rd l0_1 a1) ≤ t321
    ·rw [if_pos c8] at H
     have c8b0 := eq_true c8
     have c8b1 : decide ((rd l0_1 a1) ≤ t321) = true := decide_eq_true c8
     clear c8
     by_cases c9 : t321 ≤ (l2.length : Int)
     ·rw [if_pos c9] at H
      have c9b0 := eq_true c9
      have c9b1 : decide (t321 ≤ (l2.length : Int)) = true := decide_eq_true c9
      clear c9
      obtain ⟨y322, hy322⟩ : ∃ y_ : List Int, y_ = ((l2.take (t321 : Int).toNat).drop ((rd l0_1 a1) : Int).toNat) := ⟨_, rfl⟩
      replace H : (some y322) = some r := by first | (rw [hy322]; with_reducible exact H) | (have H2_ := (Option.bind_some _ _).symm.trans H; rw [hy322]; with_reducible exact H2_) | (have H2_ := (Option.bind_some _ _).symm.trans H; with_reducible exact H2_) | with_reducible exact H | (rw [hy322]; exact H) | exact H
      have Ny322 := Aside0.mk hy322
      clear hy322
      obtain rfl := Option.some.inj H
      go_enter Try.func49, Try.ntmps49
      go_wp2_with (first | ((with_reducible refine gate_dst (N := 3) rfl ?_); refine box_event ?hg (N := 3) ?hd (cs := #[.int .i64 a0_0, .slice A0_1 l0_1.length c0_1, .slice A0_2 l0_2.length c0_2]) (t := 25) ?hr ?_; (case hd => rfl); (case hg => rfl); (case hr => first | (go_simp; done) | (go_simp; rfl)); intro gb319 hg w10 hbox hb; have n0_ := Aside0.mk (Kd.V_below (Kd.V_elderB (by (with_reducible repeat (first | apply Kd.V_alloc | apply Kd.V_drewN | apply Kd.V_drew)); exact HO2.out) gb319 (Nat.le_of_eq hg.symm)) hb); have n1_ := Aside0.mk (below_step (by repeat (first | (with_reducible first | exact HB.out | apply below_alloc | apply pw_below_drewN | apply below_drew1) | exact HB.out)) hb); have n2_ := Aside0.mk (hbox); have n3_ := Aside0.mk ((by rw [hg]; exact (below_size (by repeat (first | (with_reducible first | exact HB.out | apply below_alloc | apply pw_below_drewN | apply below_drew1) | exact HB.out))) : w.heap.size ≤ gb319)); have n4_ := Aside0.mk ((by rw [hg]; exact (below_size (by repeat (first | (with_reducible first | exact HB.out | apply below_alloc | apply pw_below_drewN | apply below_drew1) | exact HB.out))) : w.heap.size ≤ gb319)); clear HO2; clear HB; have HO2 := n0_; have HB := n1_; have BK319 := n2_; have GW319 := n3_; have GE319 := n4_; clear n0_ n1_ n2_ n3_ n4_; clear hb hbox hg; have hcz11_0 : w10.cell? ⟨gb319, 0, none⟩ = some (.int .i64 a0_0) := (blk_cell BK319.out 0).trans rfl; have hcz11_1 : w10.cell? ⟨gb319, 1, none⟩ = some (.slice A0_1 l0_1.length c0_1) := (blk_cell BK319.out 1).trans rfl; have hcz11_2 : w10.cell? ⟨gb319, 2, none⟩ = some (.slice A0_2 l0_2.length c0_2) := (blk_cell BK319.out 2).trans rfl; have hfz11_0 := blk_frozen BK319.out 0; have hfz11_1 := blk_frozen BK319.out 1; have hfz11_2 := blk_frozen BK319.out 2; have p320 : 0 ≤ (a1 : Int) := of_decide_eq_true (by first | (with_reducible assumption) | assumption); have q320 : a1 < (l0_1.length : Int) := of_decide_eq_true (by first | (with_reducible assumption) | assumption); obtain ⟨ad320, e320, hx320_0⟩ := Kd.at_int HR0_1.out a1 p320 q320; cases e320; replace hx320_0 := (HB.out.cell (World.block_lt_of_cell? w _ hx320_0)).trans hx320_0; replace p320 := eq_true p320; replace q320 := eq_true q320) | (go_at_call 45; (with_reducible refine (r8_end.calls _ _ l0_1 a0_0 a1 t321 _ ?side1 ?side2 A6.out).mono ?_); (case side1 => repeat (first | exact (Kd.C_below HR0_1.out HB.out) | (with_reducible refine Kd.C_alloc ?_ _) | (with_reducible refine Kd.C_drewN ?_ _) | (with_reducible refine Kd.C_drew ?_))); (case side2 => exact HC0_1.out); rintro e w' ⟨rfl, ⟨nd, rfl⟩⟩; (try first | exact ⟨rfl, _, World.drewN_drewN _ _ _⟩ | exact ⟨rfl, _, Eq.trans (World.drewN_drewN _ _ _) (congrArg (World.drewN _) (Nat.add_assoc _ _ _))⟩); have q12 : (t321 : Int) ≤ ((l2.length : Int) : Int) := of_decide_eq_true (by first | (with_reducible assumption) | assumption); obtain ⟨i012, hi012, _, hsz12, _⟩ := info_parts info3; have hroom12 : l2.length ≤ c2 := (Kd.V_reads' HO2.out).2.1; have hC12 : Kd.F (Kd.int .i64) _ _ A2 l2.length l2 := (Kd.V_at (base := w.heap.size) HO2.out).2.2; have ql12 : ((rd l0_1 a1) : Int) ≤ (t321 : Int) := of_decide_eq_true (by first | (with_reducible assumption) | assumption); have q012 : (0 : Int) ≤ ((rd l0_1 a1) : Int) := of_decide_eq_true (by first | (with_reducible assumption) | assumption); have hcut12 := cut_mid (P := Try.prog) 22 3 .i64 .i64 Try.underlying22 hi012 1 hsz12 A2 l2.length c2 (rd l0_1 a1) t321 q012 ql12 q12 hroom12; have hr12 := Kd.F_mid (lo := ((rd l0_1 a1) : Int).toNat) (hi := (t321 : Int).toNat) (c := c2) hC12 (by omega) (by omega) hroom12; obtain ⟨A12, hA12⟩ : ∃ A1, A1 = (if c2 = ((rd l0_1 a1) : Int).toNat then A2 else (A2 : Option Addr).map (·.add (((rd l0_1 a1) : Int).toNat * 1))) := ⟨_, rfl⟩; obtain ⟨c12, hc12⟩ : ∃ c1, c1 = c2 - ((rd l0_1 a1) : Int).toNat := ⟨_, rfl⟩; have hy12 : y322.length = (t321 : Int).toNat - ((rd l0_1 a1) : Int).toNat := (by rw [Ny322.out, List.length_drop, List.length_take] <;> omega); rw [show ((l2).take (t321 : Int).toNat).drop ((rd l0_1 a1) : Int).toNat = y322 from Ny322.out.symm] at hr12; replace hr12 : Kd.F (Kd.int .i64) _ _ A12 y322.length y322 := (by rw [hA12]; exact hr12); rw [← hy12, ← hA12, ← hc12] at hcut12; have HO326 := Aside0.mk (show Kd.V (Kd.int .i64) 3 _ w.heap.size _ (.slice A12 y322.length c12) y322 from Kd.V_mk (by rw [hy12, hc12]; exact Nat.sub_le_sub_right (Nat.le_trans (by omega) hroom12) _) hr12); have HC326 := Aside0.mk (show y322.length ≤ c12 from by rw [hy12, hc12]; exact Nat.sub_le_sub_right (Nat.le_trans (by omega) hroom12) _); clear hr12 hC12 hroom12 hi012 hsz12 hc12; have KY12 := Aside0.mk hy12; have KA12 := Aside0.mk hA12; clear hy12 hA12; replace q12 := eq_true q12))
      repeat (go_quiet (first | ((with_reducible refine gate_dst (N := 3) rfl ?_); refine box_event ?hg (N := 3) ?hd (cs := #[.int .i64 a0_0, .slice A0_1 l0_1.length c0_1, .slice A0_2 l0_2.length c0_2]) (t := 25) ?hr ?_; (case hd => rfl); (case hg => rfl); (case hr => first | (go_simp; done) | (go_simp; rfl)); intro gb319 hg w10 hbox hb; have n0_ := Aside0.mk (Kd.V_below (Kd.V_elderB (by (with_reducible repeat (first | apply Kd.V_alloc | apply Kd.V_drewN | apply Kd.V_drew)); exact HO2.out) gb319 (Nat.le_of_eq hg.symm)) hb); have n1_ := Aside0.mk (below_step (by repeat (first | (with_reducible first | exact HB.out | apply below_alloc | apply pw_below_drewN | apply below_drew1) | exact HB.out)) hb); have n2_ := Aside0.mk (hbox); have n3_ := Aside0.mk ((by rw [hg]; exact (below_size (by repeat (first | (with_reducible first | exact HB.out | apply below_alloc | apply pw_below_drewN | apply below_drew1) | exact HB.out))) : w.heap.size ≤ gb319)); have n4_ := Aside0.mk ((by rw [hg]; exact (below_size (by repeat (first | (with_reducible first | exact HB.out | apply below_alloc | apply pw_below_drewN | apply below_drew1) | exact HB.out))) : w.heap.size ≤ gb319)); clear HO2; clear HB; have HO2 := n0_; have HB := n1_; have BK319 := n2_; have GW319 := n3_; have GE319 := n4_; clear n0_ n1_ n2_ n3_ n4_; clear hb hbox hg; have hcz11_0 : w10.cell? ⟨gb319, 0, none⟩ = some (.int .i64 a0_0) := (blk_cell BK319.out 0).trans rfl; have hcz11_1 : w10.cell? ⟨gb319, 1, none⟩ = some (.slice A0_1 l0_1.length c0_1) := (blk_cell BK319.out 1).trans rfl; have hcz11_2 : w10.cell? ⟨gb319, 2, none⟩ = some (.slice A0_2 l0_2.length c0_2) := (blk_cell BK319.out 2).trans rfl; have hfz11_0 := blk_frozen BK319.out 0; have hfz11_1 := blk_frozen BK319.out 1; have hfz11_2 := blk_frozen BK319.out 2; have p320 : 0 ≤ (a1 : Int) := of_decide_eq_true (by first | (with_reducible assumption) | assumption); have q320 : a1 < (l0_1.length : Int) := of_decide_eq_true (by first | (with_reducible assumption) | assumption); obtain ⟨ad320, e320, hx320_0⟩ := Kd.at_int HR0_1.out a1 p320 q320; cases e320; replace hx320_0 := (HB.out.cell (World.block_lt_of_cell? w _ hx320_0)).trans hx320_0; replace p320 := eq_true p320; replace q320 := eq_true q320) | (go_at_call 45; (with_reducible refine (r8_end.calls _ _ l0_1 a0_0 a1 t321 _ ?side1 ?side2 A6.out).mono ?_); (case side1 => repeat (first | exact (Kd.C_below HR0_1.out HB.out) | (with_reducible refine Kd.C_alloc ?_ _) | (with_reducible refine Kd.C_drewN ?_ _) | (with_reducible refine Kd.C_drew ?_))); (case side2 => exact HC0_1.out); rintro e w' ⟨rfl, ⟨nd, rfl⟩⟩; (try first | exact ⟨rfl, _, World.drewN_drewN _ _ _⟩ | exact ⟨rfl, _, Eq.trans (World.drewN_drewN _ _ _) (congrArg (World.drewN _) (Nat.add_assoc _ _ _))⟩); have q12 : (t321 : Int) ≤ ((l2.length : Int) : Int) := of_decide_eq_true (by first | (with_reducible assumption) | assumption); obtain ⟨i012, hi012, _, hsz12, _⟩ := info_parts info3; have hroom12 : l2.length ≤ c2 := (Kd.V_reads' HO2.out).2.1; have hC12 : Kd.F (Kd.int .i64) _ _ A2 l2.length l2 := (Kd.V_at (base := w.heap.size) HO2.out).2.2; have ql12 : ((rd l0_1 a1) : Int) ≤ (t321 : Int) := of_decide_eq_true (by first | (with_reducible assumption) | assumption); have q012 : (0 : Int) ≤ ((rd l0_1 a1) : Int) := of_decide_eq_true (by first | (with_reducible assumption) | assumption); have hcut12 := cut_mid (P := Try.prog) 22 3 .i64 .i64 Try.underlying22 hi012 1 hsz12 A2 l2.length c2 (rd l0_1 a1) t321 q012 ql12 q12 hroom12; have hr12 := Kd.F_mid (lo := ((rd l0_1 a1) : Int).toNat) (hi := (t321 : Int).toNat) (c := c2) hC12 (by omega) (by omega) hroom12; obtain ⟨A12, hA12⟩ : ∃ A1, A1 = (if c2 = ((rd l0_1 a1) : Int).toNat then A2 else (A2 : Option Addr).map (·.add (((rd l0_1 a1) : Int).toNat * 1))) := ⟨_, rfl⟩; obtain ⟨c12, hc12⟩ : ∃ c1, c1 = c2 - ((rd l0_1 a1) : Int).toNat := ⟨_, rfl⟩; have hy12 : y322.length = (t321 : Int).toNat - ((rd l0_1 a1) : Int).toNat := (by rw [Ny322.out, List.length_drop, List.length_take] <;> omega); rw [show ((l2).take (t321 : Int).toNat).drop ((rd l0_1 a1) : Int).toNat = y322 from Ny322.out.symm] at hr12; replace hr12 : Kd.F (Kd.int .i64) _ _ A12 y322.length y322 := (by rw [hA12]; exact hr12); rw [← hy12, ← hA12, ← hc12] at hcut12; have HO326 := Aside0.mk (show Kd.V (Kd.int .i64) 3 _ w.heap.size _ (.slice A12 y322.length c12) y322 from Kd.V_mk (by rw [hy12, hc12]; exact Nat.sub_le_sub_right (Nat.le_trans (by omega) hroom12) _) hr12); have HC326 := Aside0.mk (show y322.length ≤ c12 from by rw [hy12, hc12]; exact Nat.sub_le_sub_right (Nat.le_trans (by omega) hroom12) _); clear hr12 hC12 hroom12 hi012 hsz12 hc12; have KY12 := Aside0.mk hy12; have KA12 := Aside0.mk hA12; clear hy12 hA12; replace q12 := eq_true q12)); try go_wp2_with (first | ((with_reducible refine gate_dst (N := 3) rfl ?_); refine box_event ?hg (N := 3) ?hd (cs := #[.int .i64 a0_0, .slice A0_1 l0_1.length c0_1, .slice A0_2 l0_2.length c0_2]) (t := 25) ?hr ?_; (case hd => rfl); (case hg => rfl); (case hr => first | (go_simp; done) | (go_simp; rfl)); intro gb319 hg w10 hbox hb; have n0_ := Aside0.mk (Kd.V_below (Kd.V_elderB (by (with_reducible repeat (first | apply Kd.V_alloc | apply Kd.V_drewN | apply Kd.V_drew)); exact HO2.out) gb319 (Nat.le_of_eq hg.symm)) hb); have n1_ := Aside0.mk (below_step (by repeat (first | (with_reducible first | exact HB.out | apply below_alloc | apply pw_below_drewN | apply below_drew1) | exact HB.out)) hb); have n2_ := Aside0.mk (hbox); have n3_ := Aside0.mk ((by rw [hg]; exact (below_size (by repeat (first | (with_reducible first | exact HB.out | apply below_alloc | apply pw_below_drewN | apply below_drew1) | exact HB.out))) : w.heap.size ≤ gb319)); have n4_ := Aside0.mk ((by rw [hg]; exact (below_size (by repeat (first | (with_reducible first | exact HB.out | apply below_alloc | apply pw_below_drewN | apply below_drew1) | exact HB.out))) : w.heap.size ≤ gb319)); clear HO2; clear HB; have HO2 := n0_; have HB := n1_; have BK319 := n2_; have GW319 := n3_; have GE319 := n4_; clear n0_ n1_ n2_ n3_ n4_; clear hb hbox hg; have hcz11_0 : w10.cell? ⟨gb319, 0, none⟩ = some (.int .i64 a0_0) := (blk_cell BK319.out 0).trans rfl; have hcz11_1 : w10.cell? ⟨gb319, 1, none⟩ = some (.slice A0_1 l0_1.length c0_1) := (blk_cell BK319.out 1).trans rfl; have hcz11_2 : w10.cell? ⟨gb319, 2, none⟩ = some (.slice A0_2 l0_2.length c0_2) := (blk_cell BK319.out 2).trans rfl; have hfz11_0 := blk_frozen BK319.out 0; have hfz11_1 := blk_frozen BK319.out 1; have hfz11_2 := blk_frozen BK319.out 2; have p320 : 0 ≤ (a1 : Int) := of_decide_eq_true (by first | (with_reducible assumption) | assumption); have q320 : a1 < (l0_1.length : Int) := of_decide_eq_true (by first | (with_reducible assumption) | assumption); obtain ⟨ad320, e320, hx320_0⟩ := Kd.at_int HR0_1.out a1 p320 q320; cases e320; replace hx320_0 := (HB.out.cell (World.block_lt_of_cell? w _ hx320_0)).trans hx320_0; replace p320 := eq_true p320; replace q320 := eq_true q320) | (go_at_call 45; (with_reducible refine (r8_end.calls _ _ l0_1 a0_0 a1 t321 _ ?side1 ?side2 A6.out).mono ?_); (case side1 => repeat (first | exact (Kd.C_below HR0_1.out HB.out) | (with_reducible refine Kd.C_alloc ?_ _) | (with_reducible refine Kd.C_drewN ?_ _) | (with_reducible refine Kd.C_drew ?_))); (case side2 => exact HC0_1.out); rintro e w' ⟨rfl, ⟨nd, rfl⟩⟩; (try first | exact ⟨rfl, _, World.drewN_drewN _ _ _⟩ | exact ⟨rfl, _, Eq.trans (World.drewN_drewN _ _ _) (congrArg (World.drewN _) (Nat.add_assoc _ _ _))⟩); have q12 : (t321 : Int) ≤ ((l2.length : Int) : Int) := of_decide_eq_true (by first | (with_reducible assumption) | assumption); obtain ⟨i012, hi012, _, hsz12, _⟩ := info_parts info3; have hroom12 : l2.length ≤ c2 := (Kd.V_reads' HO2.out).2.1; have hC12 : Kd.F (Kd.int .i64) _ _ A2 l2.length l2 := (Kd.V_at (base := w.heap.size) HO2.out).2.2; have ql12 : ((rd l0_1 a1) : Int) ≤ (t321 : Int) := of_decide_eq_true (by first | (with_reducible assumption) | assumption); have q012 : (0 : Int) ≤ ((rd l0_1 a1) : Int) := of_decide_eq_true (by first | (with_reducible assumption) | assumption); have hcut12 := cut_mid (P := Try.prog) 22 3 .i64 .i64 Try.underlying22 hi012 1 hsz12 A2 l2.length c2 (rd l0_1 a1) t321 q012 ql12 q12 hroom12; have hr12 := Kd.F_mid (lo := ((rd l0_1 a1) : Int).toNat) (hi := (t321 : Int).toNat) (c := c2) hC12 (by omega) (by omega) hroom12; obtain ⟨A12, hA12⟩ : ∃ A1, A1 = (if c2 = ((rd l0_1 a1) : Int).toNat then A2 else (A2 : Option Addr).map (·.add (((rd l0_1 a1) : Int).toNat * 1))) := ⟨_, rfl⟩; obtain ⟨c12, hc12⟩ : ∃ c1, c1 = c2 - ((rd l0_1 a1) : Int).toNat := ⟨_, rfl⟩; have hy12 : y322.length = (t321 : Int).toNat - ((rd l0_1 a1) : Int).toNat := (by rw [Ny322.out, List.length_drop, List.length_take] <;> omega); rw [show ((l2).take (t321 : Int).toNat).drop ((rd l0_1 a1) : Int).toNat = y322 from Ny322.out.symm] at hr12; replace hr12 : Kd.F (Kd.int .i64) _ _ A12 y322.length y322 := (by rw [hA12]; exact hr12); rw [← hy12, ← hA12, ← hc12] at hcut12; have HO326 := Aside0.mk (show Kd.V (Kd.int .i64) 3 _ w.heap.size _ (.slice A12 y322.length c12) y322 from Kd.V_mk (by rw [hy12, hc12]; exact Nat.sub_le_sub_right (Nat.le_trans (by omega) hroom12) _) hr12); have HC326 := Aside0.mk (show y322.length ≤ c12 from by rw [hy12, hc12]; exact Nat.sub_le_sub_right (Nat.le_trans (by omega) hroom12) _); clear hr12 hC12 hroom12 hi012 hsz12 hc12; have KY12 := Aside0.mk hy12; have KA12 := Aside0.mk hA12; clear hy12 hA12; replace q12 := eq_true q12)))
      go_ret
      exact ⟨_, by first | rfl | (simp [errW_none, errW_some] <;> rfl) | (simp [*, errW_none, errW_some] <;> rfl), by (with_reducible repeat (first | apply Kd.V_alloc | apply Kd.V_drewN | apply Kd.V_drew)); exact Kd.V_mono HO326.out (fun _ hk => hk.1), by repeat (first | (with_reducible first | exact HB.out | apply below_alloc | apply pw_below_drewN | apply below_drew1 | refine below_set ?_ GE319.out) | exact HB.out)⟩
     ·rw [if_neg c9] at H
      exact absurd H (by simp)
    ·rw [if_neg c8] at H
     exact absurd H (by simp)
   ·rw [if_neg c7] at H
    exact absurd H (by simp)
  ·rw [if_neg c5] at H
   exact absurd H (by simp)
 ·rw [if_neg c4] at H
  exact absurd H (by simp)
end Go.Proofs.Ytgpdfalopdhjlaa.Q
end
section
namespace Go.Proofs.Ytgpdfalopdhjlaa.Q
open Go.RowKit Go.Proofs.YtgpdfalopdhjlaaW.PrintWords Go.Proofs.YtgpdfalopdhjlaaW.PrintLast Go.Proofs.YtgpdfalopdhjlaaW.PrintMore
attribute [local go_sem] max2_int min2_int max_two min_two max_three min_three max_four min_four   -- for this text's walks alone
set_option linter.unusedVariables false
set_option linter.unusedSimpArgs false
def r4_Alike.f (k : Nat) (l0 : List Int) (l1 : List Int) : Option (Bool) := (r4_Valid.f k l0).bind fun t473 => (if t473 = true then ((r4_Valid.f k l1).bind fun t474 => (if t474 = true then (some ((l0.length : Int) == (l1.length : Int))) else (some false))) else (some false))
set_option maxHeartbeats 8000000 in
set_option maxRecDepth 100000 in
theorem r4_Alike.calls (k : Nat) (A0 : Option Addr) (c0 : Nat) (l0 : List Int) (A1 : Option Addr) (c1 : Nat) (l1 : List Int) (r : Bool) (w : World) (hr0 : Kd.C (Kd.int .i64) w A0 l0.length l0) (hc0 : l0.length ≤ c0) (hr1 : Kd.C (Kd.int .i64) w A1 l1.length l1) (hc1 : l1.length ≤ c1) (h : r4_Alike.f k l0 l1 = some r) :
  Calls Try.prog 58 #[.slice A0 l0.length c0, .slice A1 l1.length c1] w fun e w' => e = .returned (.bool r) ∧ Drawn0 w w' := by
 have HR0 := Aside0.mk hr0
 have HC0 := Aside0.mk hc0
 clear hr0 hc0
 have HR1 := Aside0.mk hr1
 have HC1 := Aside0.mk hc1
 clear hr1 hc1
 have H : ((r4_Valid.f k l0).bind fun t473 => (if t473 = true then ((r4_Valid.f k l1).bind fun t474 => (if t474 = true then (some ((l0.length : Int) == (l1.length : Int))) else (some false))) else (some false))) = some r := h
 clear h
 replace H := Option.bind_eq_some_iff.mp H
 obtain ⟨t473, A30, H⟩ := H
 replace H : (if t473 = true then ((r4_Valid.f k l1).bind fun t474 => (if t474 = true then (some ((l0.length : Int) == (l1.length : Int))) else (some false))) else (some false)) = some r := H
 have A3 := Aside0.mk A30
 clear A30
 by_cases c4 : t473 = true
 ·subst c4
  have H1 : ((r4_Valid.f k l1).bind fun t474 => (if t474 = true then (some ((l0.length : Int) == (l1.length : Int))) else (some false))) = some r := by rw [if_pos rfl] at H; exact H
  clear H
  have H := H1
  clear H1
  replace H := Option.bind_eq_some_iff.mp H
  obtain ⟨t474, A50, H⟩ := H
  replace H : (if t474 = true then (some ((l0.length : Int) == (l1.length : Int))) else (some false)) = some r := H
  have A5 := Aside0.mk A50
  clear A50
  by_cases c6 : t474 = true
  ·subst c6
   have H1 : (some ((l0.length : Int) == (l1.length : Int))) = some r := by rw [if_pos rfl] at H; exact H
   clear H
   have H := H1
   clear H1
   obtain rfl := Option.some.inj H
   go_enter Try.func58, Try.ntmps58
   go_wp2_with (first | ((with_reducible refine gate_callee (f := 44) rfl ?_); refine goesL_ (some 6) rfl rfl Try.func44 (by kernel_rfl) rfl #[.slice A0 l0.length c0] rfl (by (try simp only [List.map_toArray, List.map_cons, List.map_nil]); first | done | rfl | (simp only [List.length_drop, List.length_take]; rfl)) ?_; (with_reducible refine (r4_Valid.calls k _ _ l0 true _ ?side1 ?side2 A3.out).mono ?_); (case side1 => repeat (first | exact HR0.out | (with_reducible refine Kd.C_alloc ?_ _) | (with_reducible refine Kd.C_drewN ?_ _) | (with_reducible refine Kd.C_drew ?_))); (case side2 => exact HC0.out); rintro e w' ⟨rfl, ⟨nd, rfl⟩⟩; refine ⟨_, rfl, ?_⟩) | (go_at_call 44; (with_reducible refine (r4_Valid.calls k _ _ l1 true _ ?side1 ?side2 A5.out).mono ?_); (case side1 => repeat (first | exact HR1.out | (with_reducible refine Kd.C_alloc ?_ _) | (with_reducible refine Kd.C_drewN ?_ _) | (with_reducible refine Kd.C_drew ?_))); (case side2 => exact HC1.out); rintro e w' ⟨rfl, ⟨nd, rfl⟩⟩))
   go_ret
   exact ⟨by first | rfl | (simp; done) | (simp [*]; done), by repeat (first | exact Drawn0.refl _ | apply Drawn0.step)⟩
  ·replace c6 := Bool.eq_false_iff.mpr c6
   subst c6
   have H1 : (some false) = some r := by rw [if_neg (show ¬ (false = true) by decide)] at H; exact H
   clear H
   have H := H1
   clear H1
   obtain rfl := Option.some.inj H
   go_enter Try.func58, Try.ntmps58
   go_wp2_with (first | ((with_reducible refine gate_callee (f := 44) rfl ?_); refine goesL_ (some 6) rfl rfl Try.func44 (by kernel_rfl) rfl #[.slice A0 l0.length c0] rfl (by (try simp only [List.map_toArray, List.map_cons, List.map_nil]); first | done | rfl | (simp only [List.length_drop, List.length_take]; rfl)) ?_; (with_reducible refine (r4_Valid.calls k _ _ l0 true _ ?side1 ?side2 A3.out).mono ?_); (case side1 => repeat (first | exact HR0.out | (with_reducible refine Kd.C_alloc ?_ _) | (with_reducible refine Kd.C_drewN ?_ _) | (with_reducible refine Kd.C_drew ?_))); (case side2 => exact HC0.out); rintro e w' ⟨rfl, ⟨nd, rfl⟩⟩; refine ⟨_, rfl, ?_⟩) | (go_at_call 44; (with_reducible refine (r4_Valid.calls k _ _ l1 false _ ?side1 ?side2 A5.out).mono ?_); (case side1 => repeat (first | exact HR1.out | (with_reducible refine Kd.C_alloc ?_ _) | (with_reducible refine Kd.C_drewN ?_ _) | (with_reducible refine Kd.C_drew ?_))); (case side2 => exact HC1.out); rintro e w' ⟨rfl, ⟨nd, rfl⟩⟩))
   go_ret
   exact ⟨by first | rfl | (simp; done) | (simp [*]; done), by repeat (first | exact Drawn0.refl _ | apply Drawn0.step)⟩
 ·replace c4 := Bool.eq_false_iff.mpr c4
  subst c4
  have H1 : (some false) = some r := by rw [if_neg (show ¬ (false = true) by decide)] at H; exact H
  clear H
  have H := H1
  clear H1
  obtain rfl := Option.some.inj H
  go_enter Try.func58, Try.ntmps58
  go_wp2_with (first | ((with_reducible refine gate_callee (f := 44) rfl ?_); refine goesL_ (some 6) rfl rfl Try.func44 (by kernel_rfl) rfl #[.slice A0 l0.length c0] rfl (by (try simp only [List.map_toArray, List.map_cons, List.map_nil]); first | done | rfl | (simp only [List.length_drop, List.length_take]; rfl)) ?_; (with_reducible refine (r4_Valid.calls k _ _ l0 false _ ?side1 ?side2 A3.out).mono ?_); (case side1 => repeat (first | exact HR0.out | (with_reducible refine Kd.C_alloc ?_ _) | (with_reducible refine Kd.C_drewN ?_ _) | (with_reducible refine Kd.C_drew ?_))); (case side2 => exact HC0.out); rintro e w' ⟨rfl, ⟨nd, rfl⟩⟩; refine ⟨_, rfl, ?_⟩))
  go_ret
  exact ⟨by first | rfl | (simp; done) | (simp [*]; done), by repeat (first | exact Drawn0.refl _ | apply Drawn0.step)⟩
def r4_All.l0 : Nat → List (List Int) → Int → Int → Option (Bool)
 | 0, _, _, _ => none
 | k + 1, x0, x1, x5 => if x5 < (x0.length : Int) then (if 0 < (x0.length : Int) then (if 0 ≤ x5 then ((r4_Alike.f k (rd_L1 x0 0) (rd_L1 x0 x5)).bind fun t477 => (if t477 = true then (r4_All.l0 k x0 x1 (wrap64 (x5 + 1))) else (some false))) else (none)) else (none)) else (if (x0.length : Int) ≥ 1 then (some (decide ((x0.length : Int) ≤ x1))) else (some false))
def r4_All.f (k : Nat) (l0 : List (List Int)) (a1 : Int) : Option (Bool) := r4_All.l0 k l0 a1 0
set_option maxHeartbeats 8000000 in
set_option maxRecDepth 100000 in
theorem r4_All.calls (k : Nat) (A0 : Option Addr) (c0 : Nat) (l0 : List (List Int)) (a1 : Int) (r : Bool) (w : World) (hr0 : Kd.C (Kd.slice 3 (Kd.int .i64)) w A0 l0.length l0) (hc0 : l0.length ≤ c0) (h : r4_All.f k l0 a1 = some r) :
  Calls Try.prog 30 #[.slice A0 l0.length c0, .int .i64 a1] w fun e w' => e = .returned (.bool r) ∧ Drawn0 w w' := by
 have HR0 := Aside0.mk hr0
 have HC0 := Aside0.mk hc0
 clear hr0 hc0
 have H : (r4_All.l0 k l0 a1 0) = some r := h
 clear h
 have H' := Aside0.mk H
 clear H
 go_enter Try.func30, Try.ntmps30
 go_wp2
 repeat (go_quiet (fail); try go_wp2)
 go_loopg [5] k (fun kq v5 w' => ∃ (x5_1 : Int), v5 = .int .i64 x5_1 ∧ Aside0 (r4_All.l0 kq l0 a1 x5_1 = some r) ∧ Aside0 (kq ≤ k) ∧ Drawn0 w w')
 case atStart => exact ⟨(0), (by first | rfl | (simp; done) | (simp [*]; done)), H', ⟨Nat.le_refl _⟩, by repeat (first | exact Drawn0.refl _ | apply Drawn0.step)⟩
 case round =>
  clear H'
  try clear p2
  obtain ⟨x5_1, rfl, HA, HK1, ⟨m1, rfl⟩⟩ := hrel
  cases gk with
  | zero => exact absurd HA.out (by simp [r4_All.l0])
  | succ k1 =>
   have H := HA.out
   clear HA
   simp only [r4_All.l0] at H
   by_cases c3 : x5_1 < (l0.length : Int)
   ·rw [if_pos c3] at H
    have c3b0 : decide (x5_1 < (l0.length : Int)) = true := decide_eq_true c3
    clear c3
    by_cases c4 : 0 < (l0.length : Int)
    ·rw [if_pos c4] at H
     have c4b0 : decide (0 < (l0.length : Int)) = true := decide_eq_true c4
     have c4b1 : decide (0 < l0.length) = true := decide_eq_true (by omega)
     clear c4
     by_cases c5 : 0 ≤ x5_1
     ·rw [if_pos c5] at H
      have c5b0 : decide (0 ≤ x5_1) = true := decide_eq_true c5
      clear c5
      replace H := Option.bind_eq_some_iff.mp H
      obtain ⟨t477, A60, H⟩ := H
      replace H : (if t477 = true then (r4_All.l0 k1 l0 a1 (wrap64 (x5_1 + 1))) else (some false)) = some r := H
      have A6 := Aside0.mk A60
      clear A60
      by_cases c7 : t477 = true
      ·subst c7
       have H1 : (r4_All.l0 k1 l0 a1 (wrap64 (x5_1 + 1))) = some r := by rw [if_pos rfl] at H; exact H
       clear H
       have H := H1
       clear H1
       have H' := Aside0.mk H
       clear H
       have p475 : 0 ≤ (0 : Int) := (by omega)
       have q475 : 0 < (l0.length : Int) := of_decide_eq_true (by first | (with_reducible assumption) | assumption)
       obtain ⟨ad475, A475_0, c475_0, e475, hx475_0, hl475_0, hi475_0⟩ := at_L1 HR0.out 0 p475 q475
       cases e475
       have qi475 : (0 < l0.length) = True := eq_true (by omega)
       (try rw [show ((0 : Int)).toNat = 0 from rfl] at hx475_0)
       (try rw [Addr.add_zero'] at hx475_0)
       have HR475_0 := Aside0.mk hi475_0
       have HC475_0 := Aside0.mk hl475_0
       clear hi475_0 hl475_0
       replace p475 := eq_true p475
       replace q475 := eq_true q475
       have p476 : 0 ≤ (x5_1 : Int) := of_decide_eq_true (by first | (with_reducible assumption) | assumption)
       have q476 : x5_1 < (l0.length : Int) := of_decide_eq_true (by first | (with_reducible assumption) | assumption)
       obtain ⟨ad476, A476_0, c476_0, e476, hx476_0, hl476_0, hi476_0⟩ := at_L1 HR0.out x5_1 p476 q476
       obtain rfl : ad475 = ad476 := (by injection e476)
       have HR476_0 := Aside0.mk hi476_0
       have HC476_0 := Aside0.mk hl476_0
       clear hi476_0 hl476_0
       replace p476 := eq_true p476
       replace q476 := eq_true q476
       go_wp2_with (first | (go_at_call 58; (with_reducible refine (r4_Alike.calls k1 _ _ (rd_L1 l0 0) _ _ (rd_L1 l0 x5_1) true _ ?side1 ?side2 ?side3 ?side4 A6.out).mono ?_); (case side1 => repeat (first | exact HR475_0.out | (with_reducible refine Kd.C_alloc ?_ _) | (with_reducible refine Kd.C_drewN ?_ _) | (with_reducible refine Kd.C_drew ?_))); (case side2 => exact HC475_0.out); (case side3 => repeat (first | exact HR476_0.out | (with_reducible refine Kd.C_alloc ?_ _) | (with_reducible refine Kd.C_drewN ?_ _) | (with_reducible refine Kd.C_drew ?_))); (case side4 => exact HC476_0.out); rintro e w' ⟨rfl, ⟨nd, rfl⟩⟩; (try first | exact ⟨rfl, _, World.drewN_drewN _ _ _⟩ | exact ⟨rfl, _, Eq.trans (World.drewN_drewN _ _ _) (congrArg (World.drewN _) (Nat.add_assoc _ _ _))⟩)))
       repeat (go_quiet (first | (go_at_call 58; (with_reducible refine (r4_Alike.calls k1 _ _ (rd_L1 l0 0) _ _ (rd_L1 l0 x5_1) true _ ?side1 ?side2 ?side3 ?side4 A6.out).mono ?_); (case side1 => repeat (first | exact HR475_0.out | (with_reducible refine Kd.C_alloc ?_ _) | (with_reducible refine Kd.C_drewN ?_ _) | (with_reducible refine Kd.C_drew ?_))); (case side2 => exact HC475_0.out); (case side3 => repeat (first | exact HR476_0.out | (with_reducible refine Kd.C_alloc ?_ _) | (with_reducible refine Kd.C_drewN ?_ _) | (with_reducible refine Kd.C_drew ?_))); (case side4 => exact HC476_0.out); rintro e w' ⟨rfl, ⟨nd, rfl⟩⟩; (try first | exact ⟨rfl, _, World.drewN_drewN _ _ _⟩ | exact ⟨rfl, _, Eq.trans (World.drewN_drewN _ _ _) (congrArg (World.drewN _) (Nat.add_assoc _ _ _))⟩))); try go_wp2_with (first | (go_at_call 58; (with_reducible refine (r4_Alike.calls k1 _ _ (rd_L1 l0 0) _ _ (rd_L1 l0 x5_1) true _ ?side1 ?side2 ?side3 ?side4 A6.out).mono ?_); (case side1 => repeat (first | exact HR475_0.out | (with_reducible refine Kd.C_alloc ?_ _) | (with_reducible refine Kd.C_drewN ?_ _) | (with_reducible refine Kd.C_drew ?_))); (case side2 => exact HC475_0.out); (case side3 => repeat (first | exact HR476_0.out | (with_reducible refine Kd.C_alloc ?_ _) | (with_reducible refine Kd.C_drewN ?_ _) | (with_reducible refine Kd.C_drew ?_))); (case side4 => exact HC476_0.out); rintro e w' ⟨rfl, ⟨nd, rfl⟩⟩; (try first | exact ⟨rfl, _, World.drewN_drewN _ _ _⟩ | exact ⟨rfl, _, Eq.trans (World.drewN_drewN _ _ _) (congrArg (World.drewN _) (Nat.add_assoc _ _ _))⟩))))
       go_roundg k1
       case measure => have := HK1.out; omega
       case rel => exact ⟨(wrap64 (x5_1 + 1)), (by first | rfl | (simp; done) | (simp [*]; done)), H', ⟨by have := HK1.out; omega⟩, by repeat (first | exact Drawn0.refl _ | apply Drawn0.step)⟩
      ·replace c7 := Bool.eq_false_iff.mpr c7
       subst c7
       have H1 : (some false) = some r := by rw [if_neg (show ¬ (false = true) by decide)] at H; exact H
       clear H
       have H := H1
       clear H1
       obtain rfl := Option.some.inj H
       have p475 : 0 ≤ (0 : Int) := (by omega)
       have q475 : 0 < (l0.length : Int) := of_decide_eq_true (by first | (with_reducible assumption) | assumption)
       obtain ⟨ad475, A475_0, c475_0, e475, hx475_0, hl475_0, hi475_0⟩ := at_L1 HR0.out 0 p475 q475
       cases e475
       have qi475 : (0 < l0.length) = True := eq_true (by omega)
       (try rw [show ((0 : Int)).toNat = 0 from rfl] at hx475_0)
       (try rw [Addr.add_zero'] at hx475_0)
       have HR475_0 := Aside0.mk hi475_0
       have HC475_0 := Aside0.mk hl475_0
       clear hi475_0 hl475_0
       replace p475 := eq_true p475
       replace q475 := eq_true q475
       have p476 : 0 ≤ (x5_1 : Int) := of_decide_eq_true (by first | (with_reducible assumption) | assumption)
       have q476 : x5_1 < (l0.length : Int) := of_decide_eq_true (by first | (with_reducible assumption) | assumption)
       obtain ⟨ad476, A476_0, c476_0, e476, hx476_0, hl476_0, hi476_0⟩ := at_L1 HR0.out x5_1 p476 q476
       obtain rfl : ad475 = ad476 := (by injection e476)
       have HR476_0 := Aside0.mk hi476_0
       have HC476_0 := Aside0.mk hl476_0
       clear hi476_0 hl476_0
       replace p476 := eq_true p476
       replace q476 := eq_true q476
       go_wp2_with (first | (go_at_call 58; (with_reducible refine (r4_Alike.calls k1 _ _ (rd_L1 l0 0) _ _ (rd_L1 l0 x5_1) false _ ?side1 ?side2 ?side3 ?side4 A6.out).mono ?_); (case side1 => repeat (first | exact HR475_0.out | (with_reducible refine Kd.C_alloc ?_ _) | (with_reducible refine Kd.C_drewN ?_ _) | (with_reducible refine Kd.C_drew ?_))); (case side2 => exact HC475_0.out); (case side3 => repeat (first | exact HR476_0.out | (with_reducible refine Kd.C_alloc ?_ _) | (with_reducible refine Kd.C_drewN ?_ _) | (with_reducible refine Kd.C_drew ?_))); (case side4 => exact HC476_0.out); rintro e w' ⟨rfl, ⟨nd, rfl⟩⟩; (try first | exact ⟨rfl, _, World.drewN_drewN _ _ _⟩ | exact ⟨rfl, _, Eq.trans (World.drewN_drewN _ _ _) (congrArg (World.drewN _) (Nat.add_assoc _ _ _))⟩)))
       repeat (go_quiet (first | (go_at_call 58; (with_reducible refine (r4_Alike.calls k1 _ _ (rd_L1 l0 0) _ _ (rd_L1 l0 x5_1) false _ ?side1 ?side2 ?side3 ?side4 A6.out).mono ?_); (case side1 => repeat (first | exact HR475_0.out | (with_reducible refine Kd.C_alloc ?_ _) | (with_reducible refine Kd.C_drewN ?_ _) | (with_reducible refine Kd.C_drew ?_))); (case side2 => exact HC475_0.out); (case side3 => repeat (first | exact HR476_0.out | (with_reducible refine Kd.C_alloc ?_ _) | (with_reducible refine Kd.C_drewN ?_ _) | (with_reducible refine Kd.C_drew ?_))); (case side4 => exact HC476_0.out); rintro e w' ⟨rfl, ⟨nd, rfl⟩⟩; (try first | exact ⟨rfl, _, World.drewN_drewN _ _ _⟩ | exact ⟨rfl, _, Eq.trans (World.drewN_drewN _ _ _) (congrArg (World.drewN _) (Nat.add_assoc _ _ _))⟩))); try go_wp2_with (first | (go_at_call 58; (with_reducible refine (r4_Alike.calls k1 _ _ (rd_L1 l0 0) _ _ (rd_L1 l0 x5_1) false _ ?side1 ?side2 ?side3 ?side4 A6.out).mono ?_); (case side1 => repeat (first | exact HR475_0.out | (with_reducible refine Kd.C_alloc ?_ _) | (with_reducible refine Kd.C_drewN ?_ _) | (with_reducible refine Kd.C_drew ?_))); (case side2 => exact HC475_0.out); (case side3 => repeat (first | exact HR476_0.out | (with_reducible refine Kd.C_alloc ?_ _) | (with_reducible refine Kd.C_drewN ?_ _) | (with_reducible refine Kd.C_drew ?_))); (case side4 => exact HC476_0.out); rintro e w' ⟨rfl, ⟨nd, rfl⟩⟩; (try first | exact ⟨rfl, _, World.drewN_drewN _ _ _⟩ | exact ⟨rfl, _, Eq.trans (World.drewN_drewN _ _ _) (congrArg (World.drewN _) (Nat.add_assoc _ _ _))⟩))))
       go_ret
       exact ⟨by first | rfl | (simp; done) | (simp [*]; done), by repeat (first | exact Drawn0.refl _ | apply Drawn0.step)⟩
     ·rw [if_neg c5] at H
      exact absurd H (by simp)
    ·rw [if_neg c4] at H
     exact absurd H (by simp)
   ·rw [if_neg c3] at H
    have c3b0 : decide (x5_1 < (l0.length : Int)) = false := decide_eq_false c3
    clear c3
    by_cases c8 : (l0.length : Int) ≥ 1
    ·rw [if_pos c8] at H
     have c8b0 : decide (1 ≤ (l0.length : Int)) = true := decide_eq_true c8
     have c8b1 : decide (1 ≤ l0.length) = true := decide_eq_true (by omega)
     clear c8
     obtain rfl := Option.some.inj H
     go_wp2
     repeat (go_quiet (fail); try go_wp2)
     go_ret
     exact ⟨by first | rfl | (simp; done) | (simp [*]; done), by repeat (first | exact Drawn0.refl _ | apply Drawn0.step)⟩
    ·rw [if_neg c8] at H
     have c8b0 : decide (1 ≤ (l0.length : Int)) = false := decide_eq_false c8
     have c8b1 : decide (1 ≤ l0.length) = false := decide_eq_false (by omega)
     clear c8
     obtain rfl := Option.some.inj H
     go_wp2
     repeat (go_quiet (fail); try go_wp2)
     go_ret
     exact ⟨by first | rfl | (simp; done) | (simp [*]; done), by repeat (first | exact Drawn0.refl _ | apply Drawn0.step)⟩
def r8_least.l0 : Nat → List (List Int) → List Int → Int → Int → Option (Int)
 | 0, _, _, _, _ => none
 | k + 1, x0, x1, x5, x6 => if x6 < (x0.length : Int) then (if 0 ≤ x6 then ((r4_Key.f k 2 (rd_L1 x0 x6) x1).bind fun t479 => (if t479 < x5 then (r8_least.l0 k x0 x1 t479 (wrap64 (x6 + 1))) else (r8_least.l0 k x0 x1 x5 (wrap64 (x6 + 1))))) else (none)) else (some x5)
def r8_least.f (k : Nat) (l0 : List (List Int)) (l1 : List Int) : Option (Int) := r8_least.l0 k l0 l1 268435456 0
set_option maxHeartbeats 8000000 in
set_option maxRecDepth 100000 in
theorem r8_least.calls (k : Nat) (A0 : Option Addr) (c0 : Nat) (l0 : List (List Int)) (A1 : Option Addr) (c1 : Nat) (l1 : List Int) (r : Int) (w : World) (hr0 : Kd.C (Kd.slice 3 (Kd.int .i64)) w A0 l0.length l0) (hc0 : l0.length ≤ c0) (hr1 : Kd.C (Kd.int .i64) w A1 l1.length l1) (hc1 : l1.length ≤ c1) (h : r8_least.f k l0 l1 = some r) :
  Calls Try.prog 62 #[.slice A0 l0.length c0, .slice A1 l1.length c1] w fun e w' => e = .returned (.int .i64 r) ∧ Below w.heap.size w w' := by
 have HR0 := Aside0.mk hr0
 have HC0 := Aside0.mk hc0
 clear hr0 hc0
 have HR1 := Aside0.mk hr1
 have HC1 := Aside0.mk hc1
 clear hr1 hc1
 have HB := Aside0.mk (Below.refl w.heap.size w)
 have H : (r8_least.l0 k l0 l1 268435456 0) = some r := h
 clear h
 have H' := Aside0.mk H
 clear H
 go_enter Try.func62, Try.ntmps62
 go_wp2
 go_loopg [5, 6] k (fun kq v5 v6 w' => ∃ (x5_1 : Int) (x6_1 : Int), v5 = .int .i64 x5_1 ∧ v6 = .int .i64 x6_1 ∧ Aside0 (r8_least.l0 kq l0 l1 x5_1 x6_1 = some r) ∧ Aside0 (kq ≤ k) ∧ Aside0 (Below w.heap.size w w'))
 case atStart => exact ⟨(268435456), (0), (by first | rfl | (simp; done) | (simp [*]; done)), (by first | rfl | (simp; done) | (simp [*]; done)), H', ⟨Nat.le_refl _⟩, ⟨by repeat (first | (with_reducible first | exact HB.out | apply below_alloc | apply pw_below_drewN | apply below_drew1) | exact HB.out)⟩⟩
 case round =>
  clear H'
  try clear c1
  try clear p2
  obtain ⟨x5_1, x6_1, rfl, rfl, HA, HK1, HB⟩ := hrel
  cases gk with
  | zero => exact absurd HA.out (by simp [r8_least.l0])
  | succ k1 =>
   have H := HA.out
   clear HA
   simp only [r8_least.l0] at H
   by_cases c3 : x6_1 < (l0.length : Int)
   ·rw [if_pos c3] at H
    have c3b0 : decide (x6_1 < (l0.length : Int)) = true := decide_eq_true c3
    clear c3
    by_cases c4 : 0 ≤ x6_1
    ·rw [if_pos c4] at H
     have c4b0 : decide (0 ≤ x6_1) = true := decide_eq_true c4
     clear c4
     replace H := Option.bind_eq_some_iff.mp H
     obtain ⟨t479, A50, H⟩ := H
     replace H : (if t479 < x5_1 then (r8_least.l0 k1 l0 l1 t479 (wrap64 (x6_1 + 1))) else (r8_least.l0 k1 l0 l1 x5_1 (wrap64 (x6_1 + 1)))) = some r := H
     have A5 := Aside0.mk A50
     clear A50
     by_cases c6 : t479 < x5_1
     ·rw [if_pos c6] at H
      have c6b0 : decide (t479 < x5_1) = true := decide_eq_true c6
      clear c6
      have H' := Aside0.mk H
      clear H
      have p478 : 0 ≤ (x6_1 : Int) := of_decide_eq_true (by first | (with_reducible assumption) | assumption)
      have q478 : x6_1 < (l0.length : Int) := of_decide_eq_true (by first | (with_reducible assumption) | assumption)
      obtain ⟨ad478, A478_0, c478_0, e478, hx478_0, hl478_0, hi478_0⟩ := at_L1 HR0.out x6_1 p478 q478
      cases e478
      replace hx478_0 := (HB.out.cell (World.block_lt_of_cell? w _ hx478_0)).trans hx478_0
      have HR478_0 := Aside0.mk hi478_0
      have HC478_0 := Aside0.mk hl478_0
      clear hi478_0 hl478_0
      replace p478 := eq_true p478
      replace q478 := eq_true q478
      go_wp2_with (first | ((with_reducible refine gate_callee (f := 29) rfl ?_); refine goesL_ (some 19) rfl rfl Try.func29 (by kernel_rfl) rfl #[.int .i64 2, .slice A478_0 (rd_L1 l0 x6_1).length c478_0, .slice A1 l1.length c1] rfl (by (try simp only [List.map_toArray, List.map_cons, List.map_nil]); first | done | rfl | (simp only [List.length_drop, List.length_take]; rfl)) ?_; (with_reducible refine (r4_Key.calls k1 2 _ _ (rd_L1 l0 x6_1) _ _ l1 t479 _ ?side1 ?side2 ?side3 ?side4 A5.out).mono ?_); (case side1 => repeat (first | exact (Kd.C_below HR478_0.out HB.out) | (with_reducible refine Kd.C_alloc ?_ _) | (with_reducible refine Kd.C_drewN ?_ _) | (with_reducible refine Kd.C_drew ?_))); (case side2 => exact HC478_0.out); (case side3 => repeat (first | exact (Kd.C_below HR1.out HB.out) | (with_reducible refine Kd.C_alloc ?_ _) | (with_reducible refine Kd.C_drewN ?_ _) | (with_reducible refine Kd.C_drew ?_))); (case side4 => exact HC1.out); rintro e w7 ⟨rfl, hb⟩; refine ⟨_, rfl, ?_⟩; have n0_ := Aside0.mk (below_step (by repeat (first | (with_reducible first | exact HB.out | apply below_alloc | apply pw_below_drewN | apply below_drew1) | exact HB.out)) hb); clear HB; have HB := n0_; clear n0_; (try clear hb); (try clear hb2); (try clear hk); (try clear hi)))
      go_roundg k1
      case measure => have := HK1.out; omega
      case rel => exact ⟨(t479), (wrap64 (x6_1 + 1)), (by first | rfl | (simp; done) | (simp [*]; done)), (by first | rfl | (simp; done) | (simp [*]; done)), H', ⟨by have := HK1.out; omega⟩, ⟨by repeat (first | (with_reducible first | exact HB.out | apply below_alloc | apply pw_below_drewN | apply below_drew1) | exact HB.out)⟩⟩
     ·rw [if_neg c6] at H
      have c6b0 : decide (t479 < x5_1) = false := decide_eq_false c6
      clear c6
      have H' := Aside0.mk H
      clear H
      have p478 : 0 ≤ (x6_1 : Int) := of_decide_eq_true (by first | (with_reducible assumption) | assumption)
      have q478 : x6_1 < (l0.length : Int) := of_decide_eq_true (by first | (with_reducible assumption) | assumption)
      obtain ⟨ad478, A478_0, c478_0, e478, hx478_0, hl478_0, hi478_0⟩ := at_L1 HR0.out x6_1 p478 q478
      cases e478
      replace hx478_0 := (HB.out.cell (World.block_lt_of_cell? w _ hx478_0)).trans hx478_0
      have HR478_0 := Aside0.mk hi478_0
      have HC478_0 := Aside0.mk hl478_0
      clear hi478_0 hl478_0
      replace p478 := eq_true p478
      replace q478 := eq_true q478
      go_wp2_with (first | ((with_reducible refine gate_callee (f := 29) rfl ?_); refine goesL_ (some 19) rfl rfl Try.func29 (by kernel_rfl) rfl #[.int .i64 2, .slice A478_0 (rd_L1 l0 x6_1).length c478_0, .slice A1 l1.length c1] rfl (by (try simp only [List.map_toArray, List.map_cons, List.map_nil]); first | done | rfl | (simp only [List.length_drop, List.length_take]; rfl)) ?_; (with_reducible refine (r4_Key.calls k1 2 _ _ (rd_L1 l0 x6_1) _ _ l1 t479 _ ?side1 ?side2 ?side3 ?side4 A5.out).mono ?_); (case side1 => repeat (first | exact (Kd.C_below HR478_0.out HB.out) | (with_reducible refine Kd.C_alloc ?_ _) | (with_reducible refine Kd.C_drewN ?_ _) | (with_reducible refine Kd.C_drew ?_))); (case side2 => exact HC478_0.out); (case side3 => repeat (first | exact (Kd.C_below HR1.out HB.out) | (with_reducible refine Kd.C_alloc ?_ _) | (with_reducible refine Kd.C_drewN ?_ _) | (with_reducible refine Kd.C_drew ?_))); (case side4 => exact HC1.out); rintro e w8 ⟨rfl, hb⟩; refine ⟨_, rfl, ?_⟩; have n0_ := Aside0.mk (below_step (by repeat (first | (with_reducible first | exact HB.out | apply below_alloc | apply pw_below_drewN | apply below_drew1) | exact HB.out)) hb); clear HB; have HB := n0_; clear n0_; (try clear hb); (try clear hb2); (try clear hk); (try clear hi)))
      go_roundg k1
      case measure => have := HK1.out; omega
      case rel => exact ⟨(x5_1), (wrap64 (x6_1 + 1)), (by first | rfl | (simp; done) | (simp [*]; done)), (by first | rfl | (simp; done) | (simp [*]; done)), H', ⟨by have := HK1.out; omega⟩, ⟨by repeat (first | (with_reducible first | exact HB.out | apply below_alloc | apply pw_below_drewN | apply below_drew1) | exact HB.out)⟩⟩
    ·rw [if_neg c4] at H
     exact absurd H (by simp)
   ·rw [if_neg c3] at H
    have c3b0 : decide (x6_1 < (l0.length : Int)) = false := decide_eq_false c3
    clear c3
    obtain rfl := Option.some.inj H
    go_wp2
    go_ret
    exact ⟨by first | rfl | (simp [errW_none, errW_some] <;> rfl) | (simp [*, errW_none, errW_some] <;> rfl), by repeat (first | (with_reducible first | exact HB.out | apply below_alloc | apply pw_below_drewN | apply below_drew1) | exact HB.out)⟩
end Go.Proofs.Ytgpdfalopdhjlaa.Q
end
section
namespace Go.Proofs.Ytgpdfalopdhjlaa.Q
open Go.RowKit Go.Proofs.YtgpdfalopdhjlaaW.PrintWords Go.Proofs.YtgpdfalopdhjlaaW.PrintLast Go.Proofs.YtgpdfalopdhjlaaW.PrintMore
attribute [local go_sem] max2_int min2_int max_two min_two max_three min_three max_four min_four   -- for this text's walks alone
set_option linter.unusedVariables false
set_option linter.unusedSimpArgs false
section
open Plain
theorem r4_count {β : Type} {G : Nat → Nat → Option β} {n : Nat} {r : β} (Inv : Nat → Prop) (h0 : Inv 0) (hstep : ∀ i, i < n → Inv i → (Inv (i + 1) → Ev (G (i + 1)) r) → Ev (G i) r) (hend : Inv n → Ev (G n) r) : Ev (G 0) r := by
 have key : ∀ d i, i + d = n → Inv i → Ev (G i) r := by
  intro d
  induction d with
  | zero =>
   intro i h hi
   obtain rfl : i = n := by omega
   exact hend hi
  | succ d ih => exact fun i h hi => hstep i (by omega) hi (fun h2 => ih (i + 1) (by omega) h2)
 exact key n 0 (by omega) h0
theorem r4_wsuc (n : Nat) (h : n < 9223372036854775807) : Go.RowKit.wrap64 ((n : Int) + 1) = ((n + 1 : Nat) : Int) := by unfold Go.RowKit.wrap64; omega
theorem r4_rd_mid (pre : List Int) (x : Int) (v : List Int) : rd (pre ++ x :: v) (pre.length : Int) = x := by
 unfold rd
 simp
theorem r4_len_cast (pre : List Int) (x : Int) (v : List Int) : ((pre ++ x :: v).length : Int) = pre.length + 1 + v.length := by
 simp; omega
theorem r4_snoc_len (pre : List Int) (x : Int) : ((pre ++ [x]).length : Int) = pre.length + 1 := by simp
theorem r4_snoc_eq (pre : List Int) (x : Int) (v : List Int) : pre ++ x :: v = (pre ++ [x]) ++ v := by simp
theorem r4_wsucc (n : Nat) (h : (n : Int) ≤ 4611686018427387904) : wrap64 ((n : Int) + 1) = (n : Int) + 1 := by unfold wrap64; omega
theorem r4_valid_l (v : List Int) : ∀ pre : List Int, ((pre ++ v).length : Int) ≤ 4611686018427387904 →
  Ev (fun k => r4_Valid.l0 k (pre ++ v) pre.length) (decide ((∀ x ∈ v, -1000 ≤ x ∧ x ≤ 1000) ∧ 1 ≤ (pre ++ v).length ∧ (pre ++ v).length ≤ 32)) := by
 induction v with
 | nil =>
  intro pre hl
  refine ev_succ ?_
  simp only [r4_Valid.l0, List.append_nil]
  refine ev_neg (by omega) ?_
  by_cases h1 : (pre.length : Int) ≥ 1
  ·exact ev_pos h1 (ev_some (by rw [Bool.eq_iff_iff]; simp; omega))
  ·exact ev_neg h1 (ev_some (by rw [Bool.eq_iff_iff]; simp; omega))
 | cons x v ih =>
  intro pre hl
  have hlen := r4_len_cast pre x v
  refine ev_succ ?_
  simp only [r4_Valid.l0]
  refine ev_pos (by omega) (ev_pos (by omega) ?_)
  rw [r4_rd_mid]
  by_cases h1 : x < -1000
  ·refine ev_pos h1 (ev_some ?_)
   symm
   rw [decide_eq_false_iff_not]
   rintro ⟨h, _⟩
   have := h x List.mem_cons_self
   omega
  ·refine ev_neg h1 ?_
   by_cases h2 : x > 1000
   ·refine ev_pos h2 (ev_some ?_)
    symm
    rw [decide_eq_false_iff_not]
    rintro ⟨h, _⟩
    have := h x List.mem_cons_self
    omega
   ·refine ev_neg h2 ?_
    have := ih (pre ++ [x]) (by rw [← r4_snoc_eq]; exact hl)
    rw [r4_snoc_len, ← r4_snoc_eq] at this
    rw [r4_wsucc _ (by omega)]
    refine ev_cast this ?_
    rw [Bool.eq_iff_iff, decide_eq_true_eq, decide_eq_true_eq]
    refine and_congr_left (fun _ => ⟨fun h y hy => ?_, fun h y hy => h y (List.mem_cons_of_mem _ hy)⟩)
    rcases List.mem_cons.mp hy with rfl | hy
    ·omega
    ·exact h y hy
theorem r4_valid_ev (v : List Int) (hl : v.length * 8 ≤ 140737488351232) : Ev (fun k => r4_Valid.f k v) (decide (isVec v)) := by
 have h : Ev (fun k => r4_Valid.f k v) _ := r4_valid_l v [] (by simp; omega)
 exact ev_cast h (by rw [Bool.eq_iff_iff, decide_eq_true_eq, decide_eq_true_eq]; exact Iff.rfl)
theorem r4_alike_ev (p q : List Int) (hp : p.length * 8 ≤ 140737488351232) (hq : q.length * 8 ≤ 140737488351232) : Ev (fun k => r4_Alike.f k p q) (decide (alike p q)) := by
 unfold r4_Alike.f
 refine ev_bind (r4_valid_ev p hp) ?_
 by_cases h1 : isVec p
 ·refine ev_pos (by simpa using h1) (ev_bind (r4_valid_ev q hq) ?_)
  by_cases h2 : isVec q
  ·refine ev_pos (by simpa using h2) (ev_some ?_)
   rw [Bool.eq_iff_iff, beq_iff_eq, decide_eq_true_eq]
   exact ⟨fun h => ⟨h1, h2, by omega⟩, fun h => by have := h.2.2; omega⟩
  ·refine ev_neg (by simpa using h2) (ev_some ?_)
   symm
   rw [decide_eq_false_iff_not]
   exact fun h => h2 h.2.1
 ·refine ev_neg (by simpa using h1) (ev_some ?_)
  symm
  rw [decide_eq_false_iff_not]
  exact fun h => h1 h.1
theorem r4_mag_f {x : Int} (h : -2000 ≤ x ∧ x ≤ 2000) : r4_size.f x = some (Plain.mag x) := by
 unfold r4_size.f Plain.mag
 split
 ·rw [w64 (by omega) (by omega)]
 ·rfl
theorem r4_norm_l (m : Int) (v : List Int) : ∀ (pre : List Int) (acc : Int), (∀ x ∈ v, -2000 ≤ x ∧ x ≤ 2000) → 0 ≤ acc → acc + 4000000 * v.length ≤ 4611686018427387904 → ((pre ++ v).length : Int) ≤ 4611686018427387904 →
  Ev (fun k => r4_Norm.l0 k m (pre ++ v) acc pre.length) (join m acc (norm m v)) := by
 induction v with
 | nil =>
  intro pre acc _ h0 _ hl
  refine ev_succ ?_
  simp only [r4_Norm.l0, List.append_nil]
  refine ev_neg (by omega) (ev_some ?_)
  exact (join_zero m h0).symm
 | cons x v ih =>
  intro pre acc hv h0 hb hl
  have hlen := r4_len_cast pre x v
  have hx := hv x List.mem_cons_self
  have hp0 := ptl_nonneg m x
  have hp1 := ptl_le m hx
  have hn := ih (pre ++ [x]) (join m acc (ptl m x)) (fun y hy => hv y (List.mem_cons_of_mem _ hy)) (join_nonneg m h0 hp0)
   (by have := join_le_add m h0 hp0; simp only [List.length_cons] at hb; omega) (by rw [← r4_snoc_eq]; exact hl)
  rw [r4_snoc_len, ← r4_snoc_eq, join_assoc] at hn
  simp only [List.length_cons] at hb
  refine ev_succ ?_
  simp only [r4_Norm.l0]
  refine ev_pos (by omega) ?_
  rw [r4_rd_mid, r4_wsucc _ (by omega)]
  by_cases h1 : m = 1
  ·refine ev_pos h1 (ev_pos (by omega) (ev_ob (r4_mag_f hx) ?_))
   have e : join m acc (ptl m x) = wrap64 (acc + Plain.mag x) := by
    have e1 : ptl m x = Plain.mag x := by unfold ptl; rw [if_neg (by omega)]
    rw [w64 (by omega) (by omega), e1]
    unfold join; rw [if_pos (.inl h1)]
   rw [e] at hn
   exact hn
  ·refine ev_neg h1 ?_
   by_cases h2 : m = 2
   ·refine ev_pos h2 (ev_pos (by omega) ?_)
    have e1 : ptl m x = x * x := by unfold ptl; rw [if_pos h2]
    have e : join m acc (ptl m x) = wrap64 (acc + wrap64 (x * x)) := by
     rw [w64 (x := x * x) (by omega) (by omega), w64 (by omega) (by omega), e1]
     unfold join; rw [if_pos (.inr h2)]
    rw [e] at hn
    exact hn
   ·refine ev_neg h2 (ev_pos (by omega) (ev_ob (r4_mag_f hx) ?_))
    have e : join m acc (ptl m x) = mx acc (Plain.mag x) := by
     unfold join ptl mx; rw [if_neg (by omega), if_neg h2]
    rw [e] at hn
    exact hn
theorem r4_norm_ev (m : Int) (v : List Int) (hv : ∀ x ∈ v, -2000 ≤ x ∧ x ≤ 2000) (hl : v.length ≤ 1000000) : Ev (fun k => r4_Norm.f k m v) (norm m v) := by
 have h : Ev (fun k => r4_Norm.f k m v) _ := r4_norm_l m v [] 0 hv (by omega) (by omega) (by simp; omega)
 exact ev_cast h (zero_join m (norm_nonneg m v))
theorem r4_sub_l (p : List Int) : ∀ (q p0 q0 acc : List Int), p.length = q.length → p0.length = q0.length → acc.length = p0.length → (p0 ++ p).length ≤ 1000000 → (∀ x ∈ p, -1000 ≤ x ∧ x ≤ 1000) → (∀ x ∈ q, -1000 ≤ x ∧ x ≤ 1000) →
  Ev (fun k => r4_Sub.l0 k (p0 ++ p) (q0 ++ q) acc p0.length) (acc ++ diffs p q) := by
 induction p with
 | nil =>
  intro q p0 q0 acc h1 h2 h3 hl _ _
  obtain rfl : q = [] := List.eq_nil_of_length_eq_zero (by simpa using h1.symm)
  refine ev_succ ?_
  simp only [r4_Sub.l0, List.append_nil]
  refine ev_neg (by omega) (ev_some ?_)
  simp [diffs]
 | cons x p ih =>
  intro q p0 q0 acc h1 h2 h3 hl hp hq
  obtain ⟨y, q, rfl⟩ : ∃ y t, q = y :: t := by
   cases q with
   | nil => simp at h1
   | cons y t => exact ⟨y, t, rfl⟩
  have hlen := r4_len_cast p0 x p
  have hlen2 := r4_len_cast q0 y q
  have h1' : p.length = q.length := by simpa using h1
  have hx := hp x List.mem_cons_self
  have hy := hq y List.mem_cons_self
  have hn := ih q (p0 ++ [x]) (q0 ++ [y]) (acc ++ [x - y]) h1' (by simp [h2]) (by simp [h3]) (by simpa using hl) (fun z hz => hp z (List.mem_cons_of_mem _ hz)) (fun z hz => hq z (List.mem_cons_of_mem _ hz))
  rw [r4_snoc_len, ← r4_snoc_eq, ← r4_snoc_eq] at hn
  have hl' : (p0 ++ x :: p).length ≤ 1000000 := hl
  refine ev_succ ?_
  simp only [r4_Sub.l0]
  refine ev_pos (by omega) (ev_pos (by omega) (ev_pos (by omega) (ev_pos (by omega) ?_)))
  rw [r4_rd_mid, show (p0.length : Int) = (q0.length : Int) by omega, r4_rd_mid, ← show (p0.length : Int) = (q0.length : Int) by omega, r4_wsucc _ (by omega), w64 (by omega) (by omega)]
  refine ev_cast hn ?_
  simp [diffs]
theorem r4_sub_ev {p q : List Int} (h : alike p q) : Ev (fun k => r4_Sub.f k p q) (diffs p q) := by
 have h : Ev (fun k => r4_Sub.f k p q) _ := r4_sub_l p q [] [] [] h.2.2 rfl rfl (by have := h.1.2.2; simp; omega) h.1.1 h.2.1.1
 exact h
theorem r4_key_ev (m : Int) {p q : List Int} (h : alike p q) : Ev (fun k => r4_Key.f k m p q) (key m p q) := by
 unfold r4_Key.f
 refine ev_bind (r4_sub_ev h) (ev_bind (r4_norm_ev m _ (diffs_range p q h.1.1 h.2.1.1) ?_) (ev_some rfl))
 rw [diffs_length p q h.2.2]
 have := h.1.2.2
 omega
theorem r8_cut.ev (cuts : List Int) (dims : Int) (hl : cuts.length ≤ 4611686018427387904) : Ev (fun k => r8_cut.f k cuts dims) (decide (cutOk cuts dims)) := by
 have no : ¬ cutOk cuts dims → Ev (fun k => r8_cut.j0 k cuts dims true) (decide (cutOk cuts dims)) := fun h => by
  refine ev_succ ?_
  simp only [r8_cut.j0]
  exact ev_pos trivial (ev_some (decide_eq_false h).symm)
 have bad : ∀ j, j < cuts.length → ¬ cutGood cuts dims j → false = decide (cutOk cuts dims) := fun j hj h => by
  symm
  rw [decide_eq_false_iff_not, cutOk_iff]
  exact fun h2 => h (h2.2.2 j hj)
 unfold r8_cut.f
 by_cases h1 : dims < 1
 ·exact ev_pos h1 (no (fun h => by have := h.1.1; omega))
 refine ev_neg h1 ?_
 by_cases h2 : dims > 32
 ·exact ev_pos h2 (no (fun h => by have := h.1.2; omega))
 refine ev_neg h2 ?_
 by_cases h3 : (cuts.length : Int) < 1
 ·exact ev_pos h3 (no (fun h => by have := h.2.1.1; omega))
 refine ev_neg h3 ?_
 by_cases h4 : (cuts.length : Int) > 8
 ·exact ev_pos h4 (no (fun h => by have := h.2.1.2; omega))
 refine ev_neg h4 (ev_pos (by omega) ?_)
 by_cases h5 : rd cuts 0 = 0
 rotate_left
 ·rw [show (rd cuts 0 != 0) = true by simpa using h5]
  exact no (fun h => h5 h.2.2.1)
 rw [show (rd cuts 0 != 0) = false by simpa using h5]
 refine ev_succ ?_
 simp only [r8_cut.j0]
 refine ev_neg (by simp) ?_
 refine r4_count (G := fun i k => r8_cut.l0 k cuts dims (i : Int)) (n := cuts.length) (fun i => ∀ j, j < i → cutGood cuts dims j) (fun j hj => by omega) (fun i hi hI h => ?_) (fun hI => ?_)
 ·have next : cutGood cuts dims i → Ev (fun k => r8_cut.l0 k cuts dims (wrap64 ((i : Int) + 1))) (decide (cutOk cuts dims)) := fun hg => by
   rw [r4_wsuc i (by omega)]
   exact h (fun j hj => by
    rcases Nat.lt_or_ge j i with h4 | h4
    ·exact hI j h4
    ·obtain rfl : j = i := by omega
     exact hg)
  refine ev_succ ?_
  simp only [r8_cut.l0]
  refine ev_pos (by omega) (ev_pos (by omega) ?_)
  by_cases c1 : rd cuts (i : Int) ≥ dims
  ·exact ev_pos c1 (ev_some (bad i hi (fun h => by have := h.1; omega)))
  refine ev_neg c1 ?_
  by_cases c2 : (i : Int) > 0
  ·obtain ⟨m, rfl⟩ : ∃ m, i = m + 1 := ⟨i - 1, by omega⟩
   rw [show wrap64 (((m + 1 : Nat) : Int) - 1) = (m : Int) by rw [Plain.w64 (by omega) (by omega)]; omega]
   refine ev_pos c2 (ev_pos (by omega) (ev_pos (by omega) ?_))
   by_cases c3 : rd cuts ((m + 1 : Nat) : Int) ≤ rd cuts (m : Int)
   ·exact ev_pos c3 (ev_some (bad _ hi (fun h => by have := h.2.2 m rfl; omega)))
   ·refine ev_neg c3 (next ⟨by omega, fun e => by omega, fun m' hm' => ?_⟩)
    obtain rfl : m' = m := by omega
    exact Int.not_le.1 c3
  ·obtain rfl : i = 0 := by omega
   exact ev_neg c2 (next ⟨by omega, fun _ => h5, fun m' hm' => by omega⟩)
 ·refine ev_succ ?_
  simp only [r8_cut.l0]
  refine ev_neg (by omega) (ev_some ?_)
  symm
  rw [decide_eq_true_eq, cutOk_iff]
  exact ⟨⟨by omega, by omega⟩, ⟨by omega, by omega⟩, hI⟩
/-- the least key of a part and words -/
def leastOf (out : List (List Int)) (u : List Int) : Int := out.foldl (fun a w => mn a (Plain.key 2 w u)) 268435456
theorem leastOf_snoc (out : List (List Int)) (w u : List Int) : leastOf (out ++ [w]) u = mn (leastOf out u) (Plain.key 2 w u) := by unfold leastOf; rw [List.foldl_append]; rfl
theorem r8_least.ev {out : List (List Int)} {u : List Int} (hl : out.length ≤ 4096) (ha : ∀ w ∈ out, Plain.alike w u) : Ev (fun k => r8_least.f k out u) (leastOf out u) := by
 have h := r4_count (G := fun i k => r8_least.l0 k out u (leastOf (out.take i) u) (i : Int)) (n := out.length) (r := leastOf out u) (fun _ => True) trivial (fun i hi _ h => ?_) (fun _ => ?_)
 ·exact h
 ·have h := h trivial
  have e : out.take (i + 1) = out.take i ++ [out[i]] := List.take_succ_eq_append_getElem hi
  rw [e, leastOf_snoc] at h
  refine ev_succ ?_
  simp only [r8_least.l0]
  rw [rd_L1_at out i hi]
  refine ev_pos (by omega) (ev_pos (by omega) (ev_bind (r4_key_ev 2 (ha _ (List.getElem_mem hi))) ?_))
  rw [r4_wsuc i (by omega)]
  unfold mn at h
  by_cases c : Plain.key 2 out[i] u < leastOf (out.take i) u
  ·rw [if_pos c] at h
   exact ev_pos c h
  ·rw [if_neg c] at h
   exact ev_neg c h
 ·refine ev_succ ?_
  simp only [r8_least.l0]
  exact ev_neg (by omega) (ev_some (by rw [List.take_of_length_le (Nat.le_refl _)]))
/-- how far all parts are from the words -/
def lessOf (l : List (List Int)) (x : Int × Int × Int) (out : List (List Int)) : List Int := l.map (fun v => leastOf out (partOf v x))
theorem lessOf_length (l : List (List Int)) (x : Int × Int × Int) (out : List (List Int)) : (lessOf l x out).length = l.length := by unfold lessOf; rw [List.length_map]
theorem lessOf_at (l : List (List Int)) (x : Int × Int × Int) (out : List (List Int)) (k : Nat) (h : k < l.length) : rd (lessOf l x out) (k : Int) = leastOf out (partOf (rd_L1 l (k : Int)) x) := by
 rw [rd_at _ k (by rw [lessOf_length]; exact h), rd_L1_at l k h]
 unfold lessOf
 rw [List.getElem_map]
theorem nearer_less (l : List (List Int)) (x : Int × Int × Int) (w : List Int) (out : List (List Int)) : nearer l x w (lessOf l x out) = lessOf l x (out ++ [w]) := by
 unfold nearer lessOf
 induction l with
 | nil => rfl
 | cons v l ih => rw [List.map_cons, List.map_cons, List.zipWith_cons_cons, ih, leastOf_snoc]
theorem nearer_first (l : List (List Int)) (x : Int × Int × Int) (w : List Int) (h : ∀ v ∈ l, Plain.key 2 w (partOf v x) ≤ 134217728) : nearer l x w (List.replicate l.length 134217729) = lessOf l x [w] := by
 unfold nearer lessOf
 induction l with
 | nil => rfl
 | cons v l ih =>
  have hv := h v List.mem_cons_self
  rw [List.length_cons, List.replicate_succ, List.zipWith_cons_cons, List.map_cons, ih (fun v hv => h v (List.mem_cons_of_mem _ hv))]
  congr 1
  unfold leastOf
  simp only [List.foldl_cons, List.foldl_nil]
  unfold mn
  rw [if_pos (by omega), if_pos (by omega)]
theorem best_same (n : Nat) (c : Int) : ∀ k, k ≤ n → bestUpTo (List.replicate n c) k = 0
 | 0, _ => rfl
 | k + 1, h => by
  rw [bestUpTo, best_same n c k (by omega)]
  have e : ∀ i, i < n → rd (List.replicate n c) (i : Int) = c := fun i hi => by rw [rd_at _ i (by simpa using hi)]; simp
  rw [e k (by omega), e 0 (by omega), if_neg (by omega)]
theorem train_start {l : List (List Int)} {x : Int × Int × Int} (hl : 0 < l.length) (h : ∀ v ∈ l, Plain.key 2 (partOf (rd_L1 l 0) x) (partOf v x) ≤ 134217728) (n : Nat) : trainOf l x (n + 1) = trainRun l x n [partOf (rd_L1 l 0) x] (lessOf l x [partOf (rd_L1 l 0) x]) := by
 have e : bestOf (List.replicate l.length 134217729) = 0 := by unfold bestOf; exact best_same _ _ _ (by simp)
 unfold trainOf
 rw [trainRun, e]
 have e2 : rd (List.replicate l.length (134217729 : Int)) ((0 : Nat) : Int) = 134217729 := by rw [rd_at _ 0 (by simpa using hl)]; simp
 rw [e2, if_neg (by decide)]
 have e3 : rd_L1 l ((0 : Nat) : Int) = rd_L1 l 0 := rfl
 rw [e3, nearer_first l x _ h]
 rfl
theorem S_one {W : World} {A : Option Addr} {c base : Nat} {p : List Int} {ok : Nat → Prop} (hp : Kd.R (Kd.int .i64) 3 W base ok (.slice A p.length c) p) (hb : base ≤ W.heap.size) : Kd.S (Kd.slice 3 (Kd.int .i64)) 22 (W.alloc (.cells #[.slice A p.length c] 22)) base (fun _ => True) (.slice (some ⟨W.heap.size, 0, none⟩) 1 1) [p] := by
 refine ⟨fun _ => 0, fun _ _ => trivial, [.slice A p.length c], ?_, ?_⟩
 ·have h2 := World.ownsRow_lit (base := base) (e := 22) (size := 1) W #[.slice A p.length c] 1 hb (by decide) (by simp)
  have h3 : (W.alloc (.cells #[.slice A p.length c] 22)).ownsRow base 22 1 (.slice (some ⟨W.heap.size, 0, none⟩) 1 1) 1 [.slice A p.length c] := by simpa using h2
  exact h3
 ·refine Reps.one (p := (p, 0)) (ps := []) ⟨_, rfl, ?_⟩ (Reps.none _ _)
  refine Kd.R_mono (Kd.R_alloc (Kd.R_bound hp) _) (fun k hk => ⟨⟨trivial, fun e => ?_⟩, rfl⟩)
  have : k = W.heap.size := by simpa [Value.ownBlock] using e
  have := hk.2.2.1
  omega
theorem R_empty {W : World} {base : Nat} (hb : base ≤ W.heap.size) : Kd.R (Kd.int .i64) 3 (W.alloc (.cells #[] 3)) base (fun _ => True) (.slice (some ⟨W.heap.size, 0, none⟩) 0 0) [] := by
 have h := own_lit W base 3 .i64 [] hb (by simp)
 exact Kd.R_of_own h (fun _ _ => trivial)
def r8_Train.f (l0 : List (List Int)) (l1 : List Int) (a2 : Int) : Option (Int × List Int × List (List (List Int)) × Int) := if trainIn l0 l1 then some (trainRes l0 l1 a2) else none
theorem rtrain_cells {W : World} {g : Nat} {a b c d : Value} (a' b' c' d' : Value) (h : W.heap[g]? = some (.cells #[a, b, c, d] 54 (0, 0))) : ((((W.setCell ⟨g, 0, none⟩ a').setCell ⟨g, 1, none⟩ b').setCell ⟨g, 2, none⟩ c').setCell ⟨g, 3, none⟩ d').heap[g]? = some (.cells #[a', b', c', d'] 54 (0, 0)) := blk_set (blk_set (blk_set (blk_set h 0 a') 1 b') 2 c') 3 d'
theorem rtrain_below {w W : World} {g : Nat} (a' b' c' d' : Value) (h : Below w.heap.size w W) (hg : w.heap.size ≤ g) : Below w.heap.size w ((((W.setCell ⟨g, 0, none⟩ a').setCell ⟨g, 1, none⟩ b').setCell ⟨g, 2, none⟩ c').setCell ⟨g, 3, none⟩ d') := below_set (below_set (below_set (below_set h hg) hg) hg) hg
theorem rtrain_ret {tmps : Array Value} {W : World} {g : Nat} {x y z u : Value} (ht : tmps.getD 6 undef = .pointer (some ⟨g, 0, none⟩)) (hc : W.heap[g]? = some (.cells #[x, y, z, u] 54 (0, 0))) : (results Try.f32 tmps).run Try.prog W = .ok (.agg #[x, y, z, u]) W := by
 have hr : Try.f32.results = #[.cell 6 54] := rfl
 have ht' : tmps[6]?.getD undef = .pointer (some ⟨g, 0, none⟩) := by simpa using ht
 simp [results, hr, ht', asAddr, run_loadVar_row W g 54 54 _ _ _ hc Try.underlying54 rfl (by kernel_rfl)]
theorem rtrain_keep {α : Type} {d : Kd α} {e b : Nat} {ok : Nat → Prop} {v : Value} {xs : List α} {W : World} {g : Nat} {x y z u : Value} (x' y' z' u' : Value) (h : d.R e W b ok v xs) (hg : W.heap[g]? = some (.cells #[x, y, z, u] 54 (0, 0))) (ht : ∀ q, q ∈ e :: d.E → q ≠ 54) : d.R e ((((W.setCell ⟨g, 0, none⟩ x').setCell ⟨g, 1, none⟩ y').setCell ⟨g, 2, none⟩ z').setCell ⟨g, 3, none⟩ u') b ok v xs :=
 Kd.R_set (Kd.R_set (Kd.R_set (Kd.R_set h hg ht 0 x') (blk_set hg 0 x') ht 1 y') (blk_set (blk_set hg 0 x') 1 y') ht 2 z') (blk_set (blk_set (blk_set hg 0 x') 1 y') 2 z') ht 3 u'
theorem r8_Part.is {d : Int} {cuts : List Int} {words : List (List (List Int))} {v : List Int} (h : cutOk cuts d) (hv : (v.length : Int) = d) {i : Nat} (hi : i < cuts.length) : r8_Part.f d cuts words (i : Int) v = some (partOf v (partAt cuts d i)) := by
 have hp := part_range h hi
 have hl := h.2.1
 have he : r8_end.f cuts d (i : Int) = some (partAt cuts d i).2.2 := by
  unfold r8_end.f partAt
  rw [r4_wsuc i (by omega)]
  dsimp only
  by_cases h2 : i + 1 < cuts.length
  ·rw [if_pos (by omega), if_pos (by omega), if_pos h2]
  ·rw [if_neg (by omega), if_neg h2]
 unfold r8_Part.f
 rw [if_pos (by omega), if_pos (by omega), he]
 simp only [Option.bind_some]
 have e : rd cuts (i : Int) = (partAt cuts d i).2.1 := rfl
 rw [e, if_pos (by omega), if_pos (by omega), if_pos (by omega)]
 rfl
theorem words_snoc {l : List (List Int)} {cuts : List Int} {n : Int} {i : Nat} (h : i < cuts.length) : trainWords l cuts n ((List.finRange cuts.length).take (i + 1)) = trainWords l cuts n ((List.finRange cuts.length).take i) ++ [trainOf l (partAt cuts ((rd_L1 l 0).length : Int) i) n.toNat] := by
 rw [fin_take h]
 unfold trainWords
 rw [List.map_append]
 rfl
def r8_Train.T6 : Bool × List (List Nat × List Nat) := (true, [([], []), ([0], [0]), ([1], [1]), ([], []), ([], []), ([3, 4], [3, 4]), ([5], [5]), ([2, 6], [2, 6]), ([7, 7, 0, 1, 2, 3, 4, 5, 6, 7], [7])])
def r8_Train.B6 : List Nat := [0, 1, 3, 0, 0, 24, 56, 127, 255]
theorem r8_Train.tab6 : rtab .any (opsOf Try.f32 6) = r8_Train.T6 := by kernel_rfl
theorem r8_Train.bits6 : waitsOk r8_Train.T6.2 r8_Train.B6 = true := by kernel_rfl
def r8_Train.T14 : Bool × List (List Nat × List Nat) := (true, [([], []), ([0], [0]), ([1], [1]), ([2], [2]), ([], []), ([], []), ([4, 5], [4, 5]), ([3, 6], [3, 6]), ([], []), ([8, 7, 6, 0, 1, 2, 3, 4, 5, 6, 7, 8], [7, 8])])
def r8_Train.B14 : List Nat := [0, 1, 3, 7, 0, 0, 48, 127, 0, 511]
theorem r8_Train.tab14 : rtab .any (opsOf Try.f32 14) = r8_Train.T14 := by kernel_rfl
theorem r8_Train.bits14 : waitsOk r8_Train.T14.2 r8_Train.B14 = true := by kernel_rfl
def r8_Train.T18 : Bool × List (List Nat × List Nat) := (true, [([], []), ([], []), ([], []), ([], []), ([3], [3]), ([4], [4]), ([1, 2, 5], [1, 2, 5]), ([0, 6, 6], [0, 6]), ([7], [7]), ([8, 7, 0, 1, 2, 3, 4, 5, 6, 7, 8], [8])])
def r8_Train.B18 : List Nat := [0, 0, 0, 0, 8, 24, 62, 127, 255, 511]
theorem r8_Train.tab18 : rtab .any (opsOf Try.f32 18) = r8_Train.T18 := by kernel_rfl
theorem r8_Train.bits18 : waitsOk r8_Train.T18.2 r8_Train.B18 = true := by kernel_rfl
def r8_Train.T24 : Bool × List (List Nat × List Nat) := (true, [([], []), ([], []), ([], []), ([], []), ([], []), ([3, 4], [3, 4]), ([5], [5]), ([1, 2, 6], [1, 2, 6]), ([0, 7, 7], [0, 7]), ([], []), ([], []), ([], []), ([], []), ([], []), ([12, 13], [12, 13]), ([14], [14]), ([10, 11, 15, 8], [10, 11, 15]), ([9, 16, 16], [9, 16]), ([8, 17], [8, 17])])
def r8_Train.B24 : List Nat := [0, 0, 0, 0, 0, 24, 56, 126, 255, 0, 0, 0, 0, 0, 12288, 28672, 65023, 131071, 262143]
theorem r8_Train.tab24 : rtab .any (opsOf Try.f32 24) = r8_Train.T24 := by kernel_rfl
theorem r8_Train.bits24 : waitsOk r8_Train.T24.2 r8_Train.B24 = true := by kernel_rfl
def r8_Train.T26 : Bool × List (List Nat × List Nat) := (true, [([], []), ([], []), ([], []), ([], []), ([], []), ([3, 4], [3, 4]), ([5], [5]), ([1, 2, 6], [1, 2, 6]), ([0, 7, 7], [0, 7]), ([8], [8])])
def r8_Train.B26 : List Nat := [0, 0, 0, 0, 0, 24, 56, 126, 255, 511]
theorem r8_Train.tab26 : rtab .any (opsOf Try.f32 26) = r8_Train.T26 := by kernel_rfl
theorem r8_Train.bits26 : waitsOk r8_Train.T26.2 r8_Train.B26 = true := by kernel_rfl
def r8_Train.T27 : Bool × List (List Nat × List Nat) := (true, [([], []), ([], []), ([], []), ([], []), ([], []), ([], []), ([4, 5], [4, 5]), ([6], [6]), ([2, 3, 7], [2, 3, 7]), ([1, 8, 8], [1, 8]), ([9], [9]), ([0, 10, 9], [0, 10]), ([11, 11, 0, 1, 2, 3, 4, 5, 6, 7, 8, 9, 10, 11], [0, 11])])
def r8_Train.B27 : List Nat := [0, 0, 0, 0, 0, 0, 48, 112, 252, 510, 1022, 2047, 4095]
theorem r8_Train.tab27 : rtab .any (opsOf Try.f32 27) = r8_Train.T27 := by kernel_rfl
theorem r8_Train.bits27 : waitsOk r8_Train.T27.2 r8_Train.B27 = true := by kernel_rfl
set_option maxHeartbeats 8000000 in
set_option maxRecDepth 100000 in
theorem r8_Train.small (A0 : Option Addr) (c0 : Nat) (l0 : List (List Int)) (A1 : Option Addr) (c1 : Nat) (l1 : List Int) (a2 : Int) (w : World) (hin : trainIn l0 l1) (hw : a2 < 1) :
  Calls Try.prog 32 #[.slice A0 l0.length c0, .slice A1 l1.length c1, .int .i64 a2] w fun e w' => e = .returned (.agg #[.int .i64 0, .slice none 0 0, .slice none 0 0, .int .i64 1]) ∧ Below w.heap.size w w' := by
 have hl : ((l0.length : Int) == 0) = false := by have := hin.1.1; rw [beq_eq_false_iff_ne]; omega
 have hdec : decide (a2 < 1) = true := decide_eq_true hw
 clear hw hin
 go_enter Try.func32, Try.ntmps32
 go_wp2
 exact bodyPost_ret (rtrain_ret rfl (blk_new w _)) rfl ⟨rfl, below_alloc (Below.refl _ _) _⟩
set_option maxHeartbeats 8000000 in
set_option maxRecDepth 100000 in
theorem r8_Train.rest (A0 : Option Addr) (c0 : Nat) (l0 : List (List Int)) (A1 : Option Addr) (c1 : Nat) (l1 : List Int) (a2 : Int) (r1 : Int) (r2 : List Int) (r3 : List (List (List Int))) (r4 : Int) (w : World) (hr0 : Kd.C (Kd.slice 3 (Kd.int .i64)) w A0 l0.length l0) (hc0 : l0.length ≤ c0) (hr1 : Kd.C (Kd.int .i64) w A1 l1.length l1) (hc1 : l1.length ≤ c1) (hin : trainIn l0 l1) (hw : ¬ a2 < 1) (hres : trainRes l0 l1 a2 = (r1, r2, r3, r4)) :
  Calls Try.prog 32 #[.slice A0 l0.length c0, .slice A1 l1.length c1, .int .i64 a2] w fun e w' => ∃ v1_ v2_ : Value, e = .returned (.agg #[.int .i64 r1, v1_, v2_, .int .i64 r4]) ∧ Kd.R (Kd.int .i64) 3 w' w.heap.size (fun _ => True) v1_ r2 ∧ Kd.R (Kd.slice 22 (Kd.slice 3 (Kd.int .i64))) 39 w' w.heap.size (fun k_ => some k_ ≠ (v1_ : Value).ownBlock) v2_ r3 ∧ Below w.heap.size w w' := by
 have hl : ((l0.length : Int) == 0) = false := by have := hin.1.1; rw [beq_eq_false_iff_ne]; omega
 have hdec : decide (a2 < 1) = false := decide_eq_false hw
 have hb6 := blk_new w (.cells #[.int .i64 0, .slice none 0 0, .slice none 0 0, .int .i64 0] 54)
 have hbb := below_alloc (Below.refl w.heap.size w) (.cells #[.int .i64 0, .slice none 0 0, .slice none 0 0, .int .i64 0] 54)
 have HB6 := Aside0.mk hb6
 have HBB := Aside0.mk hbb
 have HR := Aside0.mk hr0
 have HR1 := Aside0.mk hr1
 have HIN := Aside0.mk hin
 have HRES := Aside0.mk hres
 have HW := Aside0.mk hw
 have hl0 : (0 : Int) < (l0.length : Int) := by have := hin.1.1; omega
 have hl0n : 0 < l0.length := hin.1.1
 have hl2 : l0.length ≤ 4096 := hin.1.2
 clear hb6 hbb hin hres hw hr1
 obtain ⟨ad, A3, c3, e3, hx3, hl3, hr3⟩ := at_L1 hr0 0 (by omega) hl0
 cases e3
 rw [show ad.add (Int.toNat 0) = ad from by simp [go_sem]] at hx3
 obtain ⟨v0, hv0⟩ : ∃ v0, rd_L1 l0 0 = v0 := ⟨_, rfl⟩
 rw [hv0] at hx3 hl3 hr3
 have HV0 := Aside0.mk hv0
 have HX3 := Aside0.mk hx3
 have HR3 := Aside0.mk hr3
 clear hv0 hx3 hr3 hr0
 go_enter Try.func32, Try.ntmps32
 go_wp2
 go_loopw [7] (fun v7 wr => ∃ k : Nat, k ≤ l0.length ∧ v7 = .int .i64 k ∧ Aside0 (wr.heap[w.heap.size]? = some (.cells #[.int .i64 0, .slice none 0 0, .slice none 0 0, .int .i64 0] 54 (0, 0))) ∧ Aside0 (Below w.heap.size w wr)) (fun v _ => l0.length - (intOf v).toNat)
 case atStart => exact ⟨0, Nat.zero_le _, rfl, HB6, HBB⟩
 case round =>
  clear HB6 HBB
  obtain ⟨k, hk, rfl, HG, HB⟩ := hrel
  have hx3 := pw_cell_below HB.out HX3.out
  by_cases hlt : k < l0.length
  ·have q0 : (0 : Int) ≤ (k : Int) := by omega
   have q1 : (k : Int) < (l0.length : Int) := by omega
   obtain ⟨ad', A4, c4, e4, hx4, hl4, hr4⟩ := at_L1 (Kd.C_below HR.out HB.out) (k : Int) q0 q1
   cases e4
   rw [Int.toNat_natCast] at hx4
   have hmem : rd_L1 l0 (k : Int) ∈ l0 := by rw [rd_L1_at l0 k hlt]; exact List.getElem_mem hlt
   have hv := HIN.out.2.2 _ hmem
   have h0 := (HIN.out.2.2 _ (show rd_L1 l0 ((0 : Nat) : Int) ∈ l0 by rw [rd_L1_at l0 0 hl0n]; exact List.getElem_mem _)).1
   rw [show rd_L1 l0 ((0 : Nat) : Int) = v0 from HV0.out] at h0
   rw [HV0.out] at hv
   obtain ⟨kk, hkk⟩ := (r4_alike_ev v0 (rd_L1 l0 (k : Int)) (by have := h0.2.2; omega) (by have := hv.1.2.2; omega)).rounds
   rw [decide_eq_true (show Plain.alike v0 (rd_L1 l0 (k : Int)) from ⟨h0, hv.1, hv.2.symm⟩)] at hkk
   generalize rd_L1 l0 (k : Int) = vk at *
   have hr3 := Kd.C_below HR3.out HB.out
   clear hmem hv h0
   go_wp2
   refine start_ (n := 9) (S := fun w' => w'.cell? ad = some (.slice A3 v0.length c3) ∧ w'.cell? (ad.add k) = some (.slice A4 vk.length c4)) (ds := []) #[false, false, false, false, false, false, false, false, false] (by kernel_rfl) rfl rfl ⟨hx3, hx4⟩ (fun hHeld => ?_)
   refine with_tabW r8_Train.tab6 r8_Train.bits6 (fun HT_ HW_ => ?_)
   refine pure_ (i := 0) (N := some 29) (v := ?_) (a' := ?_) #[true, false, false, false, false, false, false, false, false] rfl rfl (any_of HT_.out (by kernel_rfl)) (fun _ _ _ h => h) (Or.inl ⟨by rfl, ?_⟩) ?_ ?_
   rotate_left
   ·intro w'
    go_simp
    with_reducible rfl
   rotate_left
   ·simp only [Act.put, List.setIfInBounds_toArray, List.set_cons_zero, List.set_cons_succ, i64_w, i32_w]
    rfl
   refine pure_ (i := 1) (N := some 30) (v := ?_) (a' := ?_) #[true, true, false, false, false, false, false, false, false] rfl rfl (any_of HT_.out (by kernel_rfl)) (fun _ _ _ h => h) (Or.inl ⟨by rfl, ?_⟩) ?_ ?_
   rotate_left
   ·intro w'
    go_simp
    with_reducible rfl
   rotate_left
   ·simp only [Act.put, List.setIfInBounds_toArray, List.set_cons_zero, List.set_cons_succ, i64_w, i32_w]
    rfl
   refine pure_ (i := 3) (N := some 32) (v := ?_) (a' := ?_) #[true, true, false, true, false, false, false, false, false] rfl rfl (any_of HT_.out (by kernel_rfl)) (fun _ _ _ h => h) (Or.inl ⟨by rfl, ?_⟩) ?_ ?_
   rotate_left
   ·intro w'
    go_simp
    with_reducible rfl
   rotate_left
   ·simp only [Act.put, List.setIfInBounds_toArray, List.set_cons_zero, List.set_cons_succ, i64_w, i32_w]
    rfl
   refine pure_ (i := 4) (N := some 33) (v := ?_) (a' := ?_) #[true, true, false, true, true, false, false, false, false] rfl rfl (any_of HT_.out (by kernel_rfl)) (fun _ _ _ h => h) (Or.inl ⟨by rfl, ?_⟩) ?_ ?_
   rotate_left
   ·intro w'
    go_simp
    with_reducible rfl
   rotate_left
   ·simp only [Act.put, List.setIfInBounds_toArray, List.set_cons_zero, List.set_cons_succ, i64_w, i32_w]
    rfl
   refine pure_ (i := 5) (N := some 34) (v := ?_) (a' := ?_) #[true, true, false, true, true, true, false, false, false] rfl rfl (any_of HT_.out (by kernel_rfl)) (fun _ _ _ h => h) (Or.inl ⟨by rfl, ?_⟩) ?_ ?_
   rotate_left
   ·intro w'
    go_simp
    with_reducible rfl
   rotate_left
   ·simp only [Act.put, List.setIfInBounds_toArray, List.set_cons_zero, List.set_cons_succ, i64_w, i32_w]
    rfl
   refine take_ (i := 2) (N := some 31) (v := ?_) (a' := ?_) #[true, true, true, true, true, true, false, false, false] rfl rfl (take_ofW HT_.out HW_.out (by kernel_rfl)) (fun _ _ _ h => h) (Or.inl ⟨by rfl, ?_⟩) hHeld ?_ ?_
   rotate_left
   ·rintro w' ⟨s0, s1⟩
    go_simp
    with_reducible rfl
   rotate_left
   ·simp only [Act.put, List.setIfInBounds_toArray, List.set_cons_zero, List.set_cons_succ, i64_w, i32_w]
    rfl
   refine take_ (i := 6) (N := some 35) (v := ?_) (a' := ?_) #[true, true, true, true, true, true, true, false, false] rfl rfl (take_ofW HT_.out HW_.out (by kernel_rfl)) (fun _ _ _ h => h) (Or.inl ⟨by rfl, ?_⟩) hHeld ?_ ?_
   rotate_left
   ·rintro w' ⟨s0, s1⟩
    go_simp
    with_reducible rfl
   rotate_left
   ·simp only [Act.put, List.setIfInBounds_toArray, List.set_cons_zero, List.set_cons_succ, i64_w, i32_w]
    rfl
   refine one_ (i := 7) (N := some 36) #[true, true, true, true, true, true, true, true, false] rfl rfl (one_of HT_.out (by kernel_rfl)) (by decide) (fun K hK => ?_)
   refine goes_ Try.func58 (by kernel_rfl) rfl #[.slice A3 v0.length c3, .slice A4 vk.length c4] (by rfl) rfl rfl (by simp only [List.map_toArray, List.map_cons, List.map_nil]; rfl) ?_
   with_reducible refine (r4_Alike.calls _ _ _ _ _ _ _ _ _ (Kd.C_below hr3 (below_drew1 (Below.refl wr.heap.size wr))) hl3 (Kd.C_below hr4 (below_drew1 (Below.refl wr.heap.size wr))) hl4 hkk).mono ?_
   rintro e w3 ⟨rfl, hd⟩
   refine ⟨_, rfl, ?_⟩
   have hB3 := below_step (below_drew1 (Below.refl wr.heap.size wr)) hd.below
   refine hK.out _ _ ⟨(pw_cell_below hd.below hHeld.1), (pw_cell_below hd.below hHeld.2)⟩ (fun hHeld => ?_)
   clear hK K
   refine norm_ (a' := ?_) ?_ ?_
   rotate_left
   ·show Act.put _ (some 36) _ = _
    simp only [Act.put, List.setIfInBounds_toArray, List.set_cons_zero, List.set_cons_succ, i64_w, i32_w]
    rfl
   refine pure_ (i := 8) (N := some 8) (v := ?_) (a' := ?_) #[true, true, true, true, true, true, true, true, true] rfl rfl (any_of HT_.out (by kernel_rfl)) (fun _ _ _ h => h) (Or.inl ⟨by rfl, ?_⟩) ?_ ?_
   rotate_left
   ·intro w'
    go_simp
    with_reducible rfl
   rotate_left
   ·simp only [Act.put, List.setIfInBounds_toArray, List.set_cons_zero, List.set_cons_succ, i64_w, i32_w]
    rfl
   refine done_ (done_of HT_.out (by kernel_rfl)) ?_
   have hg := (hB3.block _ (blk_lt HG.out)).trans HG.out
   have HG3 := Aside0.mk hg
   have HB3 := Aside0.mk (below_step HB.out hB3)
   clear hg hB3 hd hHeld hx3 hx4 hr3 hr4 hl4 hkk HG HB
   go_wp2
   go_roundw
   case rel => exact ⟨k + 1, by omega, by go_num, HG3, HB3⟩
   case measure => simp [intOf]; omega
  ·obtain rfl : k = l0.length := by omega
   have hdec1 : decide (4096 < (l0.length : Int)) = false := decide_eq_false (by have := HIN.out.1.2; omega)
   clear hk hlt
   rename World => wr
   by_cases h2 : 256 < a2
   ·have hdec2 : decide (256 < a2) = true := decide_eq_true h2
    have hr := HRES.out
    unfold trainRes at hr
    rw [if_neg (by have := HW.out; omega), if_pos h2] at hr
    cases hr
    have hgc0 : wr.cell? ⟨w.heap.size, 0, none⟩ = some (.int .i64 0) := (blk_cell HG.out 0).trans rfl
    have hgc1 : wr.cell? ⟨w.heap.size, 1, none⟩ = some (.slice none 0 0) := (blk_cell HG.out 1).trans rfl
    have hgc2 : wr.cell? ⟨w.heap.size, 2, none⟩ = some (.slice none 0 0) := (blk_cell HG.out 2).trans rfl
    have hgc3 : wr.cell? ⟨w.heap.size, 3, none⟩ = some (.int .i64 0) := (blk_cell HG.out 3).trans rfl
    have hgf0 := blk_frozen HG.out 0
    have hgf1 := blk_frozen HG.out 1
    have hgf2 := blk_frozen HG.out 2
    have hgf3 := blk_frozen HG.out 3
    go_wp2
    exact bodyPost_ret (rtrain_ret rfl (rtrain_cells _ _ _ _ HG.out)) rfl ⟨_, _, rfl, Kd.R_nil _ _ _ _ _, Kd.R_nil _ _ _ _ _, rtrain_below _ _ _ _ HB.out (Nat.le_refl _)⟩
   ·have hdec2 : decide (256 < a2) = false := decide_eq_false h2
    obtain ⟨kc, hkc⟩ := (r8_cut.ev l1 (v0.length : Int) (by have := HIN.out.2.1; omega)).rounds
    have HCUT := Aside0.mk (fun b hb W hW => r8_cut.calls kc A1 c1 l1 (v0.length : Int) b W hW hc1 (hkc.trans (congrArg some hb)))
    clear hkc
    by_cases h3 : cutOk l1 (v0.length : Int)
    ·have HC3 := Aside0.mk (HCUT.out true (decide_eq_true h3))
     have hr := HRES.out
     unfold trainRes at hr
     rw [if_neg (by have := HW.out; omega), if_neg h2, HV0.out, if_pos h3] at hr
     cases hr
     have HFIT := Aside0.mk (fun i hi => train_fits HIN.out ⟨by have := HW.out; omega, by omega⟩ (by rw [HV0.out]; exact h3) (i := i) hi)
     rw [HV0.out] at HFIT
     have HCO := Aside0.mk h3
     have HTW := Aside0.mk (fun is => show trainWords l0 l1 a2 is = is.map (fun i => trainOf l0 (partAt l1 ((rd_L1 l0 0).length : Int) i.val) a2.toNat) from rfl)
     rw [HV0.out] at HTW
     have HA2 := Aside0.mk (show 1 ≤ a2 ∧ a2 ≤ 256 from ⟨by have := HW.out; omega, by omega⟩)
     have hcl : l1.length ≤ 8 := h3.2.1.2
     clear h2 h3 HCUT
     go_wp2_with fail
     refine (HC3.out _ (Kd.C_below HR1.out HB.out)).mono ?_
     rintro e w1 ⟨rfl, hd⟩
     obtain ⟨n, rfl⟩ := hd.out
     clear hd HC3
     have HG1 := Aside0.mk (blk_drewN HG.out n)
     have HB1 := Aside0.mk (pw_below_drewN HB.out n)
     clear HG HB
     generalize wr.drewN n = wq at *
     have hx3 := pw_cell_below HB1.out HX3.out
     have hC1 := Kd.C_below HR1.out HB1.out
     go_wp2
     refine start_ (n := 10) (S := fun w' => w'.cell? ad = some (.slice A3 v0.length c3)) (ds := [9]) #[false, false, false, false, false, false, false, false, false, false] (by kernel_rfl) rfl rfl (hx3) (fun hHeld => ?_)
     refine with_tabW r8_Train.tab14 r8_Train.bits14 (fun HT_ HW_ => ?_)
     refine pure_ (i := 0) (N := some 57) (v := ?_) (a' := ?_) #[true, false, false, false, false, false, false, false, false, false] rfl rfl (any_of HT_.out (by kernel_rfl)) (fun _ _ _ h => h) (Or.inl ⟨by rfl, ?_⟩) ?_ ?_
     rotate_left
     ·intro w'
      go_simp
      with_reducible rfl
     rotate_left
     ·simp only [Act.put, List.setIfInBounds_toArray, List.set_cons_zero, List.set_cons_succ, i64_w, i32_w]
      rfl
     refine pure_ (i := 1) (N := some 58) (v := ?_) (a' := ?_) #[true, true, false, false, false, false, false, false, false, false] rfl rfl (any_of HT_.out (by kernel_rfl)) (fun _ _ _ h => h) (Or.inl ⟨by rfl, ?_⟩) ?_ ?_
     rotate_left
     ·intro w'
      go_simp
      with_reducible rfl
     rotate_left
     ·simp only [Act.put, List.setIfInBounds_toArray, List.set_cons_zero, List.set_cons_succ, i64_w, i32_w]
      rfl
     refine pure_ (i := 5) (N := some 62) (v := ?_) (a' := ?_) #[true, true, false, false, false, true, false, false, false, false] rfl rfl (any_of HT_.out (by kernel_rfl)) (fun _ _ _ h => h) (Or.inl ⟨by rfl, ?_⟩) ?_ ?_
     rotate_left
     ·intro w'
      go_simp
      with_reducible rfl
     rotate_left
     ·simp only [Act.put, List.setIfInBounds_toArray, List.set_cons_zero, List.set_cons_succ, i64_w, i32_w]
      rfl
     refine take_ (i := 2) (N := some 59) (v := ?_) (a' := ?_) #[true, true, true, false, false, true, false, false, false, false] rfl rfl (take_ofW HT_.out HW_.out (by kernel_rfl)) (fun _ _ _ h => h) (Or.inl ⟨by rfl, ?_⟩) hHeld ?_ ?_
     rotate_left
     ·intro w' s0
      go_simp
      with_reducible rfl
     rotate_left
     ·simp only [Act.put, List.setIfInBounds_toArray, List.set_cons_zero, List.set_cons_succ, i64_w, i32_w]
      rfl
     refine pure_ (i := 3) (N := some 60) (v := ?_) (a' := ?_) #[true, true, true, true, false, true, false, false, false, false] rfl rfl (any_of HT_.out (by kernel_rfl)) (fun _ _ _ h => h) (Or.inl ⟨by rfl, ?_⟩) ?_ ?_
     rotate_left
     ·intro w'
      go_simp
      with_reducible rfl
     rotate_left
     ·simp only [Act.put, List.setIfInBounds_toArray, List.set_cons_zero, List.set_cons_succ, i64_w, i32_w]
      rfl
     refine join_ (σ := Nat × Option Addr × Nat × Nat) 1 #[true, true, true, true, true, true, true, true, true, false] (fun s => [(61, .slice (some ⟨s.1, 0, none⟩) 0 0), (63, .slice s.2.1 l1.length s.2.2.1), (64, .agg #[.int .i64 (v0.length : Int), .slice s.2.1 l1.length s.2.2.1, .slice none 0 0]), (10, .pointer (some ⟨s.2.2.2, 0, none⟩))]) (fun s w' => w'.heap[s.2.2.2]? = some (Obj.cells #[Value.int IntKind.i64 0, Value.slice none 0 0, Value.slice none 0 0] 25 (0, 0)) ∧ wq.heap.size ≤ s.2.2.2 ∧ Kd.R (Kd.int .i64) 3 w' wq.heap.size (fun _ => True) (.slice s.2.1 l1.length s.2.2.1) l1 ∧ Below wq.heap.size wq w' ∧ w'.cell? ad = some (.slice A3 v0.length c3)) ?_ ?_
     rotate_left
     ·intro hCont
      refine two_ (i := 4) (j := 8) (Ni := some 61) (Nj := some 10) #[true, true, true, true, true, true, false, false, false, false] #[true, true, true, true, false, true, false, false, true, false] rfl rfl rfl rfl (two_of HT_.out (by kernel_rfl)) (by decide) (by decide) (fun K hK => ?_) (fun K hK => ?_)
      ·skip
       refine value_ (w1 := ?_) (v := ?_) (by rfl) rfl ?_ ?_
       rotate_left 2
       ·go_simp
        constructor
        ·rfl
        ·rfl
       have hBl := below_drew1 (below_alloc (Below.refl wq.heap.size wq) (Obj.cells #[] 3))
       have hE2 : Kd.R (Kd.int .i64) 3 ((wq.alloc (Obj.cells #[] 3)).drew) wq.heap.size (fun _ => True) (.slice (some ⟨wq.heap.size, 0, none⟩) 0 0) [] := Kd.R_drew (R_empty (Nat.le_refl _))
       generalize (wq.alloc (Obj.cells #[] 3)).drew = q1 at *
       have hE := hE2
       clear hE2
       refine hK.out _ _ ((pw_cell_below hBl hx3)) (fun hHeld => ?_)
       clear hK K
       refine norm_ (a' := ?_) ?_ ?_
       rotate_left
       ·show Act.put _ (some 61) _ = _
        simp only [Act.put, List.setIfInBounds_toArray, List.set_cons_zero, List.set_cons_succ, i64_w, i32_w]
        rfl
       refine two_ (i := 6) (j := 8) (Ni := some 63) (Nj := some 10) #[true, true, true, true, true, true, true, false, false, false] #[true, true, true, true, true, true, false, false, true, false] rfl rfl rfl rfl (two_of HT_.out (by kernel_rfl)) (by decide) (by decide) (fun K hK => ?_) (fun K hK => ?_)
       ·skip
        refine Kd.R_append_rows_step (Kd.int .i64) (w0 := q1) wq.heap.size (by rfl) (.tmp 61) (.tmp 62) 22 3 (.int .i64 0) 8 rfl Try.underlying22 info3 rfl (by decide) (by omega) (.slice (some ⟨wq.heap.size, 0, none⟩) 0 0) [] l1 _ _ _ (fun _ => True) (fun _ => False) rfl rfl hE (Kd.C_below hC1 hBl) (fun _ _ h => h) (fun _ h => h.elim) (fun _ _ => trivial) (Below.refl _ _) hBl.size (by simp; omega) ?_
        intro v1 q2 ho5 hb8 hg8 hat
        rw [List.nil_append] at ho5
        obtain ⟨A5, c5, rfl⟩ := Kd.R_slice ho5
        have hBl2 := hBl.trans hb8
        clear hb8 hg8 hat
        clear hBl
        have hBl := hBl2
        clear hBl2
        clear hE
        refine hK.out _ _ ((pw_cell_below hBl hx3)) (fun hHeld => ?_)
        clear hK K
        refine norm_ (a' := ?_) ?_ ?_
        rotate_left
        ·show Act.put _ (some 63) _ = _
         simp only [Act.put, List.setIfInBounds_toArray, List.set_cons_zero, List.set_cons_succ, i64_w, i32_w]
         rfl
        refine pure_ (i := 7) (N := some 64) (v := ?_) (a' := ?_) #[true, true, true, true, true, true, true, true, false, false] rfl rfl (any_of HT_.out (by kernel_rfl)) (fun _ _ _ h => h) (Or.inl ⟨by rfl, ?_⟩) ?_ ?_
        rotate_left
        ·intro w'
         go_simp
         with_reducible rfl
        rotate_left
        ·simp only [Act.put, List.setIfInBounds_toArray, List.set_cons_zero, List.set_cons_succ, i64_w, i32_w]
         rfl
        refine one_ (i := 8) (N := some 10) #[true, true, true, true, true, true, true, true, true, false] rfl rfl (one_of HT_.out (by kernel_rfl)) (by decide) (fun K hK => ?_)
        refine value_ (w1 := ?_) (v := ?_) (by rfl) rfl ?_ ?_
        rotate_left 2
        ·go_simp
         constructor
         ·rfl
         ·rfl
        have hBl2 := below_alloc hBl (Obj.cells #[Value.int IntKind.i64 0, Value.slice none 0 0, Value.slice none 0 0] 25)
        replace ho5 := Kd.R_alloc ho5 (Obj.cells #[Value.int IntKind.i64 0, Value.slice none 0 0, Value.slice none 0 0] 25)
        have hcel2 : (q2.alloc (Obj.cells #[Value.int IntKind.i64 0, Value.slice none 0 0, Value.slice none 0 0] 25)).heap[q2.heap.size]? = some (Obj.cells #[Value.int IntKind.i64 0, Value.slice none 0 0, Value.slice none 0 0] 25) := blk_new q2 _
        have hjl : wq.heap.size ≤ q2.heap.size := hBl.size
        generalize q2.alloc (Obj.cells #[Value.int IntKind.i64 0, Value.slice none 0 0, Value.slice none 0 0] 25) = q3 at *
        clear hBl
        have hBl := hBl2
        clear hBl2
        have hcel := hcel2
        clear hcel2
        refine hK.out _ _ ((pw_cell_below hBl hx3)) (fun hHeld => ?_)
        clear hK K
        refine norm_ (a' := ?_) ?_ ?_
        rotate_left
        ·show Act.put _ (some 10) _ = _
         simp only [Act.put, List.setIfInBounds_toArray, List.set_cons_zero, List.set_cons_succ, i64_w, i32_w]
         rfl
        exact norm_ (by simp only [putAll, Act.put, List.setIfInBounds_toArray, List.set_cons_zero, List.set_cons_succ]) (hCont (wq.heap.size, A5, c5, q2.heap.size) _ ⟨hcel, hjl, ho5, hBl, hHeld⟩)
       ·skip
        refine value_ (w1 := ?_) (v := ?_) (by rfl) rfl ?_ ?_
        rotate_left 2
        ·go_simp
         constructor
         ·rfl
         ·rfl
        have hBl2 := below_alloc hBl (Obj.cells #[Value.int IntKind.i64 0, Value.slice none 0 0, Value.slice none 0 0] 25)
        have hE2 := Kd.R_alloc hE (Obj.cells #[Value.int IntKind.i64 0, Value.slice none 0 0, Value.slice none 0 0] 25)
        have hcel2 : (q1.alloc (Obj.cells #[Value.int IntKind.i64 0, Value.slice none 0 0, Value.slice none 0 0] 25)).heap[q1.heap.size]? = some (Obj.cells #[Value.int IntKind.i64 0, Value.slice none 0 0, Value.slice none 0 0] 25) := blk_new q1 _
        have hjl : wq.heap.size ≤ q1.heap.size := hBl.size
        generalize q1.alloc (Obj.cells #[Value.int IntKind.i64 0, Value.slice none 0 0, Value.slice none 0 0] 25) = q2 at *
        clear hBl
        have hBl := hBl2
        clear hBl2
        clear hE
        have hE := hE2
        clear hE2
        have hcel := hcel2
        clear hcel2
        refine hK.out _ _ ((pw_cell_below hBl hx3)) (fun hHeld => ?_)
        clear hK K
        refine norm_ (a' := ?_) ?_ ?_
        rotate_left
        ·show Act.put _ (some 10) _ = _
         simp only [Act.put, List.setIfInBounds_toArray, List.set_cons_zero, List.set_cons_succ, i64_w, i32_w]
         rfl
        refine one_ (i := 6) (N := some 63) #[true, true, true, true, true, true, true, false, true, false] rfl rfl (one_of HT_.out (by kernel_rfl)) (by decide) (fun K hK => ?_)
        refine Kd.R_append_rows_step (Kd.int .i64) (w0 := q2) wq.heap.size (by rfl) (.tmp 61) (.tmp 62) 22 3 (.int .i64 0) 8 rfl Try.underlying22 info3 rfl (by decide) (by omega) (.slice (some ⟨wq.heap.size, 0, none⟩) 0 0) [] l1 _ _ _ (fun _ => True) (fun _ => False) rfl rfl hE (Kd.C_below hC1 hBl) (fun _ _ h => h) (fun _ h => h.elim) (fun _ _ => trivial) (Below.refl _ _) hBl.size (by simp; omega) ?_
        intro v1 q3 ho5 hb8 hg8 hat
        rw [List.nil_append] at ho5
        obtain ⟨A5, c5, rfl⟩ := Kd.R_slice ho5
        have hBl2 := hBl.trans hb8
        have hcel2 := blk_grown hcel hg8 (Kd.R_ne hE hcel (by decide))
        clear hb8 hg8 hat
        clear hBl
        have hBl := hBl2
        clear hBl2
        clear hE
        clear hcel
        have hcel := hcel2
        clear hcel2
        refine hK.out _ _ ((pw_cell_below hBl hx3)) (fun hHeld => ?_)
        clear hK K
        refine norm_ (a' := ?_) ?_ ?_
        rotate_left
        ·show Act.put _ (some 63) _ = _
         simp only [Act.put, List.setIfInBounds_toArray, List.set_cons_zero, List.set_cons_succ, i64_w, i32_w]
         rfl
        refine pure_ (i := 7) (N := some 64) (v := ?_) (a' := ?_) #[true, true, true, true, true, true, true, true, true, false] rfl rfl (any_of HT_.out (by kernel_rfl)) (fun _ _ _ h => h) (Or.inl ⟨by rfl, ?_⟩) ?_ ?_
        rotate_left
        ·intro w'
         go_simp
         with_reducible rfl
        rotate_left
        ·simp only [Act.put, List.setIfInBounds_toArray, List.set_cons_zero, List.set_cons_succ, i64_w, i32_w]
         rfl
        exact norm_ (by simp only [putAll, Act.put, List.setIfInBounds_toArray, List.set_cons_zero, List.set_cons_succ]) (hCont (wq.heap.size, A5, c5, q1.heap.size) _ ⟨hcel, hjl, ho5, hBl, hHeld⟩)
      ·skip
       refine value_ (w1 := ?_) (v := ?_) (by rfl) rfl ?_ ?_
       rotate_left 2
       ·go_simp
        constructor
        ·rfl
        ·rfl
       have hBl := below_drew1 (below_alloc (Below.refl wq.heap.size wq) (Obj.cells #[Value.int IntKind.i64 0, Value.slice none 0 0, Value.slice none 0 0] 25))
       have hcel2 : ((wq.alloc (Obj.cells #[Value.int IntKind.i64 0, Value.slice none 0 0, Value.slice none 0 0] 25)).drew).heap[wq.heap.size]? = some (Obj.cells #[Value.int IntKind.i64 0, Value.slice none 0 0, Value.slice none 0 0] 25) := blk_new wq _
       have hjl : wq.heap.size ≤ wq.heap.size := Nat.le_refl _
       generalize (wq.alloc (Obj.cells #[Value.int IntKind.i64 0, Value.slice none 0 0, Value.slice none 0 0] 25)).drew = q1 at *
       have hcel := hcel2
       clear hcel2
       refine hK.out _ _ ((pw_cell_below hBl hx3)) (fun hHeld => ?_)
       clear hK K
       refine norm_ (a' := ?_) ?_ ?_
       rotate_left
       ·show Act.put _ (some 10) _ = _
        simp only [Act.put, List.setIfInBounds_toArray, List.set_cons_zero, List.set_cons_succ, i64_w, i32_w]
        rfl
       refine one_ (i := 4) (N := some 61) #[true, true, true, true, true, true, false, false, true, false] rfl rfl (one_of HT_.out (by kernel_rfl)) (by decide) (fun K hK => ?_)
       refine value_ (w1 := ?_) (v := ?_) (by rfl) rfl ?_ ?_
       rotate_left 2
       ·go_simp
        constructor
        ·rfl
        ·rfl
       have hBl2 := below_alloc hBl (Obj.cells #[] 3)
       have hE2 : Kd.R (Kd.int .i64) 3 (q1.alloc (Obj.cells #[] 3)) wq.heap.size (fun _ => True) (.slice (some ⟨q1.heap.size, 0, none⟩) 0 0) [] := R_empty hBl.size
       have hcel2 := blk_alloc hcel (Obj.cells #[] 3)
       generalize q1.alloc (Obj.cells #[] 3) = q2 at *
       clear hBl
       have hBl := hBl2
       clear hBl2
       have hE := hE2
       clear hE2
       clear hcel
       have hcel := hcel2
       clear hcel2
       refine hK.out _ _ ((pw_cell_below hBl hx3)) (fun hHeld => ?_)
       clear hK K
       refine norm_ (a' := ?_) ?_ ?_
       rotate_left
       ·show Act.put _ (some 61) _ = _
        simp only [Act.put, List.setIfInBounds_toArray, List.set_cons_zero, List.set_cons_succ, i64_w, i32_w]
        rfl
       refine one_ (i := 6) (N := some 63) #[true, true, true, true, true, true, true, false, true, false] rfl rfl (one_of HT_.out (by kernel_rfl)) (by decide) (fun K hK => ?_)
       refine Kd.R_append_rows_step (Kd.int .i64) (w0 := q2) wq.heap.size (by rfl) (.tmp 61) (.tmp 62) 22 3 (.int .i64 0) 8 rfl Try.underlying22 info3 rfl (by decide) (by omega) (.slice (some ⟨q1.heap.size, 0, none⟩) 0 0) [] l1 _ _ _ (fun _ => True) (fun _ => False) rfl rfl hE (Kd.C_below hC1 hBl) (fun _ _ h => h) (fun _ h => h.elim) (fun _ _ => trivial) (Below.refl _ _) hBl.size (by simp; omega) ?_
       intro v1 q3 ho5 hb8 hg8 hat
       rw [List.nil_append] at ho5
       obtain ⟨A5, c5, rfl⟩ := Kd.R_slice ho5
       have hBl2 := hBl.trans hb8
       have hcel2 := blk_grown hcel hg8 (Kd.R_ne hE hcel (by decide))
       clear hb8 hg8 hat
       clear hBl
       have hBl := hBl2
       clear hBl2
       clear hE
       clear hcel
       have hcel := hcel2
       clear hcel2
       refine hK.out _ _ ((pw_cell_below hBl hx3)) (fun hHeld => ?_)
       clear hK K
       refine norm_ (a' := ?_) ?_ ?_
       rotate_left
       ·show Act.put _ (some 63) _ = _
        simp only [Act.put, List.setIfInBounds_toArray, List.set_cons_zero, List.set_cons_succ, i64_w, i32_w]
        rfl
       refine pure_ (i := 7) (N := some 64) (v := ?_) (a' := ?_) #[true, true, true, true, true, true, true, true, true, false] rfl rfl (any_of HT_.out (by kernel_rfl)) (fun _ _ _ h => h) (Or.inl ⟨by rfl, ?_⟩) ?_ ?_
       rotate_left
       ·intro w'
        go_simp
        with_reducible rfl
       rotate_left
       ·simp only [Act.put, List.setIfInBounds_toArray, List.set_cons_zero, List.set_cons_succ, i64_w, i32_w]
        rfl
       exact norm_ (by simp only [putAll, Act.put, List.setIfInBounds_toArray, List.set_cons_zero, List.set_cons_succ]) (hCont (q1.heap.size, A5, c5, wq.heap.size) _ ⟨hcel, hjl, ho5, hBl, hHeld⟩)
     rintro ⟨g4, A5, c5, j⟩ w5 ⟨hcel, hjl, ho5, hBl, hHeld⟩
     dsimp only at hcel hjl ho5 ⊢
     have hcj0 : w5.cell? ⟨j, 0, none⟩ = some (.int .i64 0) := (blk_cell hcel 0).trans rfl
     have hcj1 : w5.cell? ⟨j, 1, none⟩ = some (.slice none 0 0) := (blk_cell hcel 1).trans rfl
     have hcj2 : w5.cell? ⟨j, 2, none⟩ = some (.slice none 0 0) := (blk_cell hcel 2).trans rfl
     have hfj0 := blk_frozen hcel 0
     have hfj1 := blk_frozen hcel 1
     have hfj2 := blk_frozen hcel 2
     refine norm_ (a' := ?_) ?_ ?_
     rotate_left
     ·simp only [putAll, Act.put, List.setIfInBounds_toArray, List.set_cons_zero, List.set_cons_succ]
      rfl
     refine last_ (i := 9) (N := none) #[true, true, true, true, true, true, true, true, true, true] rfl rfl (one_of HT_.out (by kernel_rfl)) (by decide) (fun K hK => ?_)
     refine skip_ (w1 := ?_) (by rfl) rfl ?_ ?_
     rotate_left
     ·go_simp
      rfl
     refine hK.out _ _ ?_
     clear hK K
     refine done_ (done_of HT_.out (by kernel_rfl)) ?_
     have hj5 := train_cells (.int .i64 (v0.length : Int)) (.slice A5 l1.length c5) (.slice none 0 0) hcel
     have hB5 := train_below (.int .i64 (v0.length : Int)) (.slice A5 l1.length c5) (.slice none 0 0) hBl hjl
     have HR5 := Aside0.mk (train_keep (.int .i64 (v0.length : Int)) (.slice A5 l1.length c5) (.slice none 0 0) ho5 hcel (by decide))
     clear hcel hBl ho5 hHeld hcj0 hcj1 hcj2 hfj0 hfj1 hfj2 hx3 hC1
     generalize (((w5.setCell ⟨j, 0, none⟩ (.int .i64 (v0.length : Int))).setCell ⟨j, 1, none⟩ (.slice A5 l1.length c5)).setCell ⟨j, 2, none⟩ (.slice none 0 0)) = W5 at *
     have hwq : w.heap.size ≤ wq.heap.size := HB1.out.size
     have hgj : w.heap.size ≤ j := by omega
     have HG5 := Aside0.mk ((hB5.block _ (blk_lt HG1.out)).trans HG1.out)
     have HB5 := Aside0.mk (below_step HB1.out hB5)
     have HC5 := Aside0.mk (Kd.R_lower HR5.out hwq)
     have HJ5 := Aside0.mk hj5
     have HW0 := Aside0.mk (show trainWords l0 l1 a2 ((List.finRange l1.length).take 0) = [] from by rw [HTW.out]; rfl)
     clear hj5 hB5 HR5 HG1 HB1 hjl hx3
     go_wp2
     go_loopw [11] (fun v11 wr => ∃ (i : Nat) (vo : Value), i ≤ l1.length ∧ v11 = .int .i64 i ∧ Aside0 (wr.heap[j]? = some (.cells #[.int .i64 (v0.length : Int), .slice A5 l1.length c5, vo] 25 (0, 0))) ∧ Aside0 ((Kd.slice 22 (Kd.slice 3 (Kd.int .i64))).R 39 wr w.heap.size (fun k => some k ≠ (Value.slice A5 l1.length c5).ownBlock) vo (trainWords l0 l1 a2 ((List.finRange l1.length).take i))) ∧ Aside0 ((Kd.int .i64).R 3 wr w.heap.size (fun _ => True) (.slice A5 l1.length c5) l1) ∧ Aside0 (wr.heap[w.heap.size]? = some (.cells #[.int .i64 0, .slice none 0 0, .slice none 0 0, .int .i64 0] 54 (0, 0))) ∧ Aside0 (Below w.heap.size w wr)) (fun v _ => l1.length - (intOf v).toNat)
     case atStart => exact ⟨0, _, Nat.zero_le _, rfl, HJ5, ⟨by rw [HW0.out]; exact Kd.R_nil _ _ _ _ _⟩, HC5, HG5, HB5⟩
     case round =>
      clear HJ5 HC5 HG5 HB5 HW0
      obtain ⟨i, vo, hi, rfl, HJ, HRW, HRC, HG, HB⟩ := hrel
      obtain ⟨A7, c7, rfl⟩ := Kd.R_slice HRW.out
      by_cases hlt : i < l1.length
      ·have hi0 : (0 : Int) ≤ (i : Int) := by omega
       have hi1 : (i : Int) < (l1.length : Int) := by omega
       obtain ⟨x1, x2, hpt⟩ : ∃ x1 x2, partAt l1 (v0.length : Int) i = ((i : Int), x1, x2) := ⟨_, _, rfl⟩
       have HPT := Aside0.mk hpt
       have hfit := HFIT.out i hlt
       rw [hpt] at hfit
       dsimp only at hfit
       have HPA := Aside0.mk (fun v (hv : v ∈ l0) => (train_part hfit hv).2)
       have HPO := Aside0.mk (fun (words : List (List (List Int))) v (hv : v ∈ l0) => (r8_Part.is (words := words) HCO.out (show (v.length : Int) = (v0.length : Int) from by have := (HIN.out.2.2 v hv).2; rw [HV0.out] at this; omega) hlt).trans (by rw [hpt]))
       have HMEM := Aside0.mk (fun k (hk : k < l0.length) => show rd_L1 l0 (k : Int) ∈ l0 by rw [rd_L1_at l0 k hk]; exact List.getElem_mem hk)
       have HM0 := Aside0.mk (show v0 ∈ l0 from by rw [← HV0.out]; exact HMEM.out 0 hl0n)
       have HSN := Aside0.mk (words_snoc (l := l0) (n := a2) hlt)
       rw [HV0.out, hpt] at HSN
       have HTS := Aside0.mk (train_start (l := l0) (x := ((i : Int), x1, x2)) hl0n (fun v hv => by
        have h1 := HPA.out v hv
        have h2 := HPA.out v0 HM0.out
        rw [HV0.out]
        exact (key_isKey 2 ⟨h2.1, h1.1, by omega⟩).2) (a2.toNat - 1))
       rw [HV0.out, show a2.toNat - 1 + 1 = a2.toNat by have := HA2.out; omega] at HTS
       have hln : (trainWords l0 l1 a2 ((List.finRange l1.length).take i)).length ≤ 8 := by rw [HTW.out, List.length_map, List.length_take]; omega
       have hpo := HPO.out (trainWords l0 l1 a2 ((List.finRange l1.length).take i)) v0 HM0.out
       have HP0 := Aside0.mk (HPA.out v0 HM0.out)
       clear hpt hfit
       obtain ⟨_, hcc, hcC⟩ := Kd.R_reads' HRC.out
       obtain ⟨_, hcw, hcW⟩ := Kd.R_reads' HRW.out
       generalize trainWords l0 l1 a2 ((List.finRange l1.length).take i) = tl at *
       generalize partOf v0 ((i : Int), x1, x2) = p0 at *
       have hpv : p0.length ≤ 32 := HP0.out.1.2.2
       have hj0 : wr.cell? ⟨j, 0, none⟩ = some (.int .i64 (v0.length : Int)) := (blk_cell HJ.out 0).trans rfl
       have hj1 : wr.cell? ⟨j, 1, none⟩ = some (.slice A5 l1.length c5) := (blk_cell HJ.out 1).trans rfl
       have hj2 : wr.cell? ⟨j, 2, none⟩ = some (.slice A7 tl.length c7) := (blk_cell HJ.out 2).trans rfl
       have hx3 := pw_cell_below HB.out HX3.out
       have hV0 := Kd.C_below HR3.out HB.out
       go_wp2
       refine start_ (n := 10) (S := fun w' => w'.cell? ⟨j, 0, none⟩ = some (.int .i64 (v0.length : Int)) ∧ w'.cell? ⟨j, 1, none⟩ = some (.slice A5 l1.length c5) ∧ w'.cell? ⟨j, 2, none⟩ = some (.slice A7 tl.length c7) ∧ w'.cell? ad = some (.slice A3 v0.length c3)) (ds := []) #[false, false, false, false, false, false, false, false, false, false] (by kernel_rfl) rfl rfl ⟨hj0, hj1, hj2, hx3⟩ (fun hHeld => ?_)
       refine with_tabW r8_Train.tab18 r8_Train.bits18 (fun HT_ HW_ => ?_)
       refine pure_ (i := 2) (N := some 73) (v := ?_) (a' := ?_) #[false, false, true, false, false, false, false, false, false, false] rfl rfl (any_of HT_.out (by kernel_rfl)) (fun _ _ _ h => h) (Or.inl ⟨by rfl, ?_⟩) ?_ ?_
       rotate_left
       ·intro w'
        go_simp
        with_reducible rfl
       rotate_left
       ·simp only [Act.put, List.setIfInBounds_toArray, List.set_cons_zero, List.set_cons_succ, i64_w, i32_w]
        rfl
       refine pure_ (i := 3) (N := some 74) (v := ?_) (a' := ?_) #[false, false, true, true, false, false, false, false, false, false] rfl rfl (any_of HT_.out (by kernel_rfl)) (fun _ _ _ h => h) (Or.inl ⟨by rfl, ?_⟩) ?_ ?_
       rotate_left
       ·intro w'
        go_simp
        with_reducible rfl
       rotate_left
       ·simp only [Act.put, List.setIfInBounds_toArray, List.set_cons_zero, List.set_cons_succ, i64_w, i32_w]
        rfl
       refine pure_ (i := 4) (N := some 75) (v := ?_) (a' := ?_) #[false, false, true, true, true, false, false, false, false, false] rfl rfl (any_of HT_.out (by kernel_rfl)) (fun _ _ _ h => h) (Or.inl ⟨by rfl, ?_⟩) ?_ ?_
       rotate_left
       ·intro w'
        go_simp
        with_reducible rfl
       rotate_left
       ·simp only [Act.put, List.setIfInBounds_toArray, List.set_cons_zero, List.set_cons_succ, i64_w, i32_w]
        rfl
       refine take_ (i := 1) (N := some 72) (v := ?_) (a' := ?_) #[false, true, true, true, true, false, false, false, false, false] rfl rfl (take_ofW HT_.out HW_.out (by kernel_rfl)) (fun _ _ _ h => h) (Or.inl ⟨by rfl, ?_⟩) hHeld ?_ ?_
       rotate_left
       ·rintro w' ⟨s0, s1, s2, s3⟩
        go_simp
        with_reducible rfl
       rotate_left
       ·simp only [Act.put, List.setIfInBounds_toArray, List.set_cons_zero, List.set_cons_succ, i64_w, i32_w]
        rfl
       refine take_ (i := 5) (N := some 76) (v := ?_) (a' := ?_) #[false, true, true, true, true, true, false, false, false, false] rfl rfl (take_ofW HT_.out HW_.out (by kernel_rfl)) (fun _ _ _ h => h) (Or.inl ⟨by rfl, ?_⟩) hHeld ?_ ?_
       rotate_left
       ·rintro w' ⟨s0, s1, s2, s3⟩
        go_simp
        with_reducible rfl
       rotate_left
       ·simp only [Act.put, List.setIfInBounds_toArray, List.set_cons_zero, List.set_cons_succ, i64_w, i32_w]
        rfl
       refine join_ (σ := Nat × Option Addr × Nat) 3 #[true, true, true, true, true, true, true, false, false, false] (fun s => [(71, .slice (some ⟨s.1, 0, none⟩) 0 0), (77, .slice s.2.1 p0.length s.2.2)]) (fun s w' => Kd.R (Kd.int .i64) 3 w' wr.heap.size (fun _ => True) (.slice (some ⟨s.1, 0, none⟩) 0 0) [] ∧ Kd.C (Kd.int .i64) w' s.2.1 p0.length p0 ∧ p0.length ≤ s.2.2 ∧ Below wr.heap.size wr w' ∧ w'.cell? ⟨j, 0, none⟩ = some (.int .i64 (v0.length : Int)) ∧ w'.cell? ⟨j, 1, none⟩ = some (.slice A5 l1.length c5) ∧ w'.cell? ⟨j, 2, none⟩ = some (.slice A7 tl.length c7) ∧ w'.cell? ad = some (.slice A3 v0.length c3)) ?_ ?_
       rotate_left
       ·intro hCont
        refine two_ (i := 0) (j := 6) (Ni := some 71) (Nj := some 77) #[true, true, true, true, true, true, false, false, false, false] #[false, true, true, true, true, true, true, false, false, false] rfl rfl rfl rfl (two_of HT_.out (by kernel_rfl)) (by decide) (by decide) (fun K hK => ?_) (fun K hK => ?_)
        ·skip
         refine value_ (w1 := ?_) (v := ?_) (by rfl) rfl ?_ ?_
         rotate_left 2
         ·go_simp
          constructor
          ·rfl
          ·rfl
         have hBl := below_drew1 (below_alloc (Below.refl wr.heap.size wr) (Obj.cells #[] 3))
         have hE : Kd.R (Kd.int .i64) 3 ((wr.alloc (Obj.cells #[] 3)).drew) wr.heap.size (fun _ => True) (.slice (some ⟨wr.heap.size, 0, none⟩) 0 0) [] := Kd.R_drew (R_empty (Nat.le_refl _))
         generalize (wr.alloc (Obj.cells #[] 3)).drew = q1 at *
         refine hK.out _ _ ⟨(pw_cell_below hBl hj0), (pw_cell_below hBl hj1), (pw_cell_below hBl hj2), (pw_cell_below hBl hx3)⟩ (fun hHeld => ?_)
         clear hK K
         refine norm_ (a' := ?_) ?_ ?_
         rotate_left
         ·show Act.put _ (some 71) _ = _
          simp only [Act.put, List.setIfInBounds_toArray, List.set_cons_zero, List.set_cons_succ, i64_w, i32_w]
          rfl
         refine one_ (i := 6) (N := some 77) #[true, true, true, true, true, true, true, false, false, false] rfl rfl (one_of HT_.out (by kernel_rfl)) (by decide) (fun K hK => ?_)
         refine goes_ Try.func49 (by kernel_rfl) rfl #[.agg #[.int .i64 (v0.length : Int), .slice A5 l1.length c5, .slice A7 tl.length c7], .int .i64 (i : Int), .slice A3 v0.length c3] (by rfl) rfl rfl (by simp only [List.map_toArray, List.map_cons, List.map_nil]; rfl) ?_
         with_reducible refine (r8_Part.calls _ _ _ _ _ _ _ _ (fun _ => True) _ _ _ _ _ (Kd.C_below hcC hBl) hcc (Kd.C_below hcW hBl) hcw (Kd.V_mk hl3 (Kd.F_mono (Kd.C_F (Kd.heap_int _) (Kd.C_below hV0 hBl)) (fun _ _ => trivial))) hpo).mono ?_
         rintro e w3 ⟨v3, rfl, hv, hb⟩
         refine ⟨_, rfl, ?_⟩
         obtain ⟨A4, c4, rfl⟩ := Kd.V_slice hv
         obtain ⟨_, hl4, hr4⟩ := Kd.V_reads' hv
         have hBl2 := below_step hBl hb
         replace hE := Kd.R_below hE hb
         clear hv hb hBl
         have hBl := hBl2
         clear hBl2
         generalize w3 = q2 at *
         refine hK.out _ _ ⟨(pw_cell_below hBl hj0), (pw_cell_below hBl hj1), (pw_cell_below hBl hj2), (pw_cell_below hBl hx3)⟩ (fun hHeld => ?_)
         clear hK K
         refine norm_ (a' := ?_) ?_ ?_
         rotate_left
         ·show Act.put _ (some 77) _ = _
          simp only [Act.put, List.setIfInBounds_toArray, List.set_cons_zero, List.set_cons_succ, i64_w, i32_w]
          rfl
         exact norm_ (by simp only [putAll, Act.put, List.setIfInBounds_toArray, List.set_cons_zero, List.set_cons_succ]) (hCont (wr.heap.size, A4, c4) _ ⟨hE, hr4, hl4, hBl, hHeld.1, hHeld.2.1, hHeld.2.2.1, hHeld.2.2.2⟩)
        ·skip
         refine goes_ Try.func49 (by kernel_rfl) rfl #[.agg #[.int .i64 (v0.length : Int), .slice A5 l1.length c5, .slice A7 tl.length c7], .int .i64 (i : Int), .slice A3 v0.length c3] (by rfl) rfl rfl (by simp only [List.map_toArray, List.map_cons, List.map_nil]; rfl) ?_
         with_reducible refine (r8_Part.calls _ _ _ _ _ _ _ _ (fun _ => True) _ _ _ _ _ (Kd.C_below hcC (below_drew1 (Below.refl wr.heap.size wr))) hcc (Kd.C_below hcW (below_drew1 (Below.refl wr.heap.size wr))) hcw (Kd.V_mk hl3 (Kd.F_mono (Kd.C_F (Kd.heap_int _) (Kd.C_below hV0 (below_drew1 (Below.refl wr.heap.size wr)))) (fun _ _ => trivial))) hpo).mono ?_
         rintro e w3 ⟨v3, rfl, hv, hb⟩
         refine ⟨_, rfl, ?_⟩
         obtain ⟨A4, c4, rfl⟩ := Kd.V_slice hv
         obtain ⟨_, hl4, hr4⟩ := Kd.V_reads' hv
         have hBl := below_step (below_drew1 (Below.refl wr.heap.size wr)) hb
         clear hv hb
         generalize w3 = q1 at *
         refine hK.out _ _ ⟨(pw_cell_below hBl hj0), (pw_cell_below hBl hj1), (pw_cell_below hBl hj2), (pw_cell_below hBl hx3)⟩ (fun hHeld => ?_)
         clear hK K
         refine norm_ (a' := ?_) ?_ ?_
         rotate_left
         ·show Act.put _ (some 77) _ = _
          simp only [Act.put, List.setIfInBounds_toArray, List.set_cons_zero, List.set_cons_succ, i64_w, i32_w]
          rfl
         refine one_ (i := 0) (N := some 71) #[true, true, true, true, true, true, true, false, false, false] rfl rfl (one_of HT_.out (by kernel_rfl)) (by decide) (fun K hK => ?_)
         refine value_ (w1 := ?_) (v := ?_) (by rfl) rfl ?_ ?_
         rotate_left 2
         ·go_simp
          constructor
          ·rfl
          ·rfl
         have hBl2 := below_alloc hBl (Obj.cells #[] 3)
         have hE : Kd.R (Kd.int .i64) 3 (q1.alloc (Obj.cells #[] 3)) wr.heap.size (fun _ => True) (.slice (some ⟨q1.heap.size, 0, none⟩) 0 0) [] := R_empty hBl.size
         replace hr4 := Kd.C_alloc hr4 (Obj.cells #[] 3)
         generalize q1.alloc (Obj.cells #[] 3) = q2 at *
         clear hBl
         have hBl := hBl2
         clear hBl2
         refine hK.out _ _ ⟨(pw_cell_below hBl hj0), (pw_cell_below hBl hj1), (pw_cell_below hBl hj2), (pw_cell_below hBl hx3)⟩ (fun hHeld => ?_)
         clear hK K
         refine norm_ (a' := ?_) ?_ ?_
         rotate_left
         ·show Act.put _ (some 71) _ = _
          simp only [Act.put, List.setIfInBounds_toArray, List.set_cons_zero, List.set_cons_succ, i64_w, i32_w]
          rfl
         exact norm_ (by simp only [putAll, Act.put, List.setIfInBounds_toArray, List.set_cons_zero, List.set_cons_succ]) (hCont (q1.heap.size, A4, c4) _ ⟨hE, hr4, hl4, hBl, hHeld.1, hHeld.2.1, hHeld.2.2.1, hHeld.2.2.2⟩)
       rintro ⟨ge, A4, c4⟩ w5 ⟨hE, hr4, hl4, hBl, hHeld⟩
       dsimp only at hE hr4 hl4 ⊢
       refine norm_ (a' := ?_) ?_ ?_
       rotate_left
       ·simp only [putAll, Act.put, List.setIfInBounds_toArray, List.set_cons_zero, List.set_cons_succ]
        rfl
       refine one_ (i := 7) (N := some 78) #[true, true, true, true, true, true, true, true, false, false] rfl rfl (one_of HT_.out (by kernel_rfl)) (by decide) (fun K hK => ?_)
       refine Kd.R_append_rows_step (Kd.int .i64) (w0 := w5) wr.heap.size (by rfl) (.tmp 71) (.tmp 77) 22 3 (.int .i64 0) 8 rfl Try.underlying22 info3 rfl (by decide) (by omega) (.slice (some ⟨ge, 0, none⟩) 0 0) [] p0 _ _ _ (fun _ => True) (fun _ => False) rfl rfl hE hr4 (fun _ _ h => h) (fun _ h => h.elim) (fun _ _ => trivial) (Below.refl _ _) hBl.size (by have := hpv; simp; omega) ?_
       intro v1 w6 ho6 hb8 hg8 hat
       rw [List.nil_append] at ho6
       obtain ⟨A6, c6, rfl⟩ := Kd.R_slice ho6
       have hB6 := hBl.trans hb8
       clear hb8 hg8 hat hE hr4 hl4
       refine hK.out _ _ ⟨(pw_cell_below hB6 hj0), (pw_cell_below hB6 hj1), (pw_cell_below hB6 hj2), (pw_cell_below hB6 hx3)⟩ (fun hHeld => ?_)
       clear hK K
       refine norm_ (a' := ?_) ?_ ?_
       rotate_left
       ·show Act.put _ (some 78) _ = _
        simp only [Act.put, List.setIfInBounds_toArray, List.set_cons_zero, List.set_cons_succ, i64_w, i32_w]
        rfl
       refine one_ (i := 8) (N := some 79) #[true, true, true, true, true, true, true, true, true, false] rfl rfl (one_of HT_.out (by kernel_rfl)) (by decide) (fun K hK => ?_)
       refine value_ (w1 := ?_) (v := ?_) (by rfl) rfl ?_ ?_
       rotate_left 2
       ·go_simp
        constructor
        ·rfl
        ·rfl
       have hS7 := S_one ho6 hB6.size
       have hB7 := below_alloc hB6 (.cells #[.slice A6 p0.length c6] 22)
       refine hK.out _ _ ⟨(pw_cell_below hB7 hj0), (pw_cell_below hB7 hj1), (pw_cell_below hB7 hj2), (pw_cell_below hB7 hx3)⟩ (fun hHeld => ?_)
       clear hK K
       refine norm_ (a' := ?_) ?_ ?_
       rotate_left
       ·show Act.put _ (some 79) _ = _
        simp only [Act.put, List.setIfInBounds_toArray, List.set_cons_zero, List.set_cons_succ, i64_w, i32_w]
        rfl
       refine pure_ (i := 9) (N := some 12) (v := ?_) (a' := ?_) #[true, true, true, true, true, true, true, true, true, true] rfl rfl (any_of HT_.out (by kernel_rfl)) (fun _ _ _ h => h) (Or.inl ⟨by rfl, ?_⟩) ?_ ?_
       rotate_left
       ·intro w'
        go_simp
        with_reducible rfl
       rotate_left
       ·simp only [Act.put, List.setIfInBounds_toArray, List.set_cons_zero, List.set_cons_succ, i64_w, i32_w]
        rfl
       refine done_ (done_of HT_.out (by kernel_rfl)) ?_
       have HS7 := Aside0.mk hS7
       have HB7 := Aside0.mk hB7
       clear hHeld ho6 hB6 hBl hS7 hB7
       generalize (w6.alloc (.cells #[.slice A6 p0.length c6] 22)) = wz at *
       have HCC := Aside0.mk hcc
       have HCW := Aside0.mk hcw
       have HCCC := Aside0.mk hcC
       have HCWC := Aside0.mk hcW
       clear hj0 hj1 hj2 hx3 hpo hcc hcw hcC hcW hV0
       go_wp2
       go_loopg [12] (a2.toNat) (fun kq v12 w' => ∃ (rem : Nat) (out : List (List Int)), Aside0 (kq = rem + 1) ∧ Aside0 (1 ≤ out.length ∧ out.length + rem = a2.toNat) ∧ Aside0 (∀ w ∈ out, Plain.isVec w ∧ (w.length : Int) = x2 - x1) ∧ Aside0 (trainRun l0 ((i : Int), x1, x2) rem out (lessOf l0 ((i : Int), x1, x2) out) = trainOf l0 ((i : Int), x1, x2) a2.toNat) ∧ Aside0 ((Kd.slice 3 (Kd.int .i64)).S 22 w' wr.heap.size (fun _ => True) v12 out) ∧ Aside0 (Below wr.heap.size wr w'))
       case atStart => exact ⟨a2.toNat - 1, [p0], ⟨by have := HA2.out; omega⟩, ⟨by have := HA2.out; simp; omega⟩, ⟨fun w hw => by rw [List.mem_singleton.1 hw]; exact HP0.out⟩, ⟨HTS.out.symm⟩, HS7, HB7⟩
       case round =>
        clear HS7 HB7
        obtain ⟨rem, out, HK, HLN, HOG, HRUN, HS, HBZ⟩ := hrel
        obtain ⟨A12, c12, rfl⟩ := Kd.S_slice HS.out
        rename World => wb
        cases rem with
        | zero =>
         have hcond : ¬ ((out.length : Int) < a2) := by have := HLN.out; have := HA2.out; omega
         have HROW := Aside0.mk (show out = trainOf l0 ((i : Int), x1, x2) a2.toNat from HRUN.out)
         have HST := Aside0.mk HS.out
         have HBT := Aside0.mk HBZ.out
         clear HS HBZ
         generalize wb = wt at *
         have hjt := (HBT.out.block j (blk_lt HJ.out)).trans HJ.out
         have hjc : wt.cell? ⟨j, 2, none⟩ = some (.slice A7 tl.length c7) := (blk_cell hjt 2).trans rfl
         have HJT := Aside0.mk hjt
         have HWT := Aside0.mk (Kd.R_below HRW.out HBT.out)
         have HCT := Aside0.mk (Kd.R_below HRC.out HBT.out)
         have HGT := Aside0.mk ((HBT.out.block _ (blk_lt HG.out)).trans HG.out)
         have HBT2 := Aside0.mk (below_step HB.out HBT.out)
         have HOKP := Aside0.mk (show ∀ k, wr.heap.size ≤ k → some k ≠ (Value.slice A5 l1.length c5).ownBlock ∧ some k ≠ (Value.slice A7 tl.length c7).ownBlock from fun k hk => ⟨fun e => by have := Kd.R_lt HRC.out k e.symm; omega, fun e => by have := Kd.R_lt HRW.out k e.symm; omega⟩)
         have HPM := Aside0.mk (Kd.M_row (Kd.R_mono (Kd.R_lower (Kd.R_bound (Kd.S_R HST.out)) (base' := w.heap.size) HB.out.size) (ok' := fun k => wr.heap.size ≤ k) (fun k hk => hk.2.1)))
         have hwt2 : wr.heap.size ≤ wt.heap.size := HBT.out.size
         have hwt : w.heap.size ≤ wt.heap.size := HBT2.out.size
         clear hjt HBT HST HRW HRC HG HB HJ HPA HPO HMEM HM0 HTS HP0 HOG HFIT
         go_wp2_with (first | ((with_reducible refine gate_builtin (b := .append) (xs := #[.tmp 133, .tmp 135]) rfl ?_); at_builtin; refine Kd.R_append (Kd.slice 22 (Kd.slice 3 (Kd.int .i64))) (w0 := w) w.heap.size rfl (.tmp 133) (.tmp 135) 23 39 (.slice none 0 0) 24 rfl Try.underlying23 info39 rfl (by decide) (by omega) (.slice A7 tl.length c7) tl out [.slice A12 out.length c12] (fun k => some k ≠ (Value.slice A5 l1.length c5).ownBlock) (fun k => wr.heap.size ≤ k) rfl rfl HPM.out HOKP.out (fun k hk => (HOKP.out k (by omega)).1) HWT.out HBT2.out hwt (by omega) ?_; intro v1 w8 ho hb8 hg8 hat; obtain ⟨A8, c8, rfl⟩ := Kd.R_slice ho; have hj8 := blk_grown HJT.out hg8 (Kd.R_ne HWT.out HJT.out (by decide)); have hcc8 : w8.cell? ⟨j, 2, none⟩ = some (.slice A7 tl.length c7) := (blk_cell hj8 2).trans rfl; have hff8 := blk_frozen hj8 2; have HJ8 := Aside0.mk hj8; have HO8 := Aside0.mk ho; have HG8 := Aside0.mk hg8; have HB8 := Aside0.mk hb8; clear hj8 ho hb8 hg8 hat))
         go_roundw
         case rel =>
          have h7 := Kd.R_set HO8.out HJ8.out (by decide) 2 (.slice A8 (tl ++ [out]).length c8)
          have h8 := Kd.R_set (Kd.R_over' HCT.out (Kd.R_typed HWT.out) (by decide) HG8.out) HJ8.out (by decide) 2 (.slice A8 (tl ++ [out]).length c8)
          have h9 := blk_far (blk_grown HGT.out HG8.out (Kd.R_ne HWT.out HGT.out (by decide))) (p := ⟨j, 2, none⟩) (blk_ne (blk_grown HGT.out HG8.out (Kd.R_ne HWT.out HGT.out (by decide))) HJ8.out (by decide)) (.slice A8 (tl ++ [out]).length c8)
          have h10 := below_set (j := 2) (v := .slice A8 (tl ++ [out]).length c8) HB8.out hgj
          have h11 := blk_set HJ8.out 2 (.slice A8 (tl ++ [out]).length c8)
          rw [show (tl ++ [out]).length = tl.length + 1 by simp] at h7 h8 h9 h10 h11
          exact ⟨i + 1, _, by omega, by go_num, ⟨h11⟩, ⟨by rw [HSN.out, ← HROW.out]; exact h7⟩, ⟨h8⟩, ⟨h9⟩, ⟨h10⟩⟩
         case measure => simp [intOf]; omega
        | succ n =>
         have hcond : (out.length : Int) < a2 := by have := HLN.out; omega
         obtain ⟨far, hfar⟩ : ∃ far, lessOf l0 ((i : Int), x1, x2) out = far := ⟨_, rfl⟩
         have HFL := Aside0.mk (show far.length = l0.length by rw [← hfar]; exact lessOf_length _ _ _)
         have HFA := Aside0.mk (fun k (hk : k < l0.length) => show rd far (k : Int) = leastOf out (partOf (rd_L1 l0 (k : Int)) ((i : Int), x1, x2)) by rw [← hfar]; exact lessOf_at _ _ _ k hk)
         have HFR := Aside0.mk hfar
         clear hfar
         go_wp2
         go_loopw [13, 14] (fun v13 v14 w2 => ∃ k : Nat, k ≤ l0.length ∧ v14 = .int .i64 k ∧ v13 = .int .i64 (bestUpTo far k : Nat) ∧ Aside0 (Below wb.heap.size wb w2)) (fun _ v _ => l0.length - (intOf v).toNat)
         case atStart => exact ⟨0, Nat.zero_le _, rfl, rfl, ⟨Below.refl _ _⟩⟩
         case round =>
          obtain ⟨k, hk, rfl, rfl, HB2⟩ := hrel
          rename World => w2
          have hBz := HBZ.out.trans (HB2.out.mono HBZ.out.size)
          have hbl : bestUpTo far k < l0.length := by
           rcases Nat.eq_zero_or_pos k with h | h
           ·rw [h]; exact hl0n
           ·have := bestUpTo_lt far k h; omega
          obtain ⟨b, hbb⟩ : ∃ b, bestUpTo far k = b := ⟨_, rfl⟩
          have hbs : bestUpTo far (k + 1) = if rd far (k : Int) > rd far (b : Int) then k else b := by rw [bestUpTo, hbb]
          rw [hbb] at hbl ⊢
          have HBS := Aside0.mk hbs
          have HBB2 := Aside0.mk hbb
          clear hbs hbb
          have q4 : (0 : Int) ≤ (b : Int) := by omega
          have q5 : (b : Int) < (l0.length : Int) := by omega
          obtain ⟨ad1, Ab, cb, e1, hxb, hlb, hrb⟩ := at_L1 (Kd.C_below HR.out HB.out) (b : Int) q4 q5
          cases e1
          rw [Int.toNat_natCast] at hxb
          have hj0 : wr.cell? ⟨j, 0, none⟩ = some (.int .i64 (v0.length : Int)) := (blk_cell HJ.out 0).trans rfl
          have hj1 : wr.cell? ⟨j, 1, none⟩ = some (.slice A5 l1.length c5) := (blk_cell HJ.out 1).trans rfl
          have hj2 : wr.cell? ⟨j, 2, none⟩ = some (.slice A7 tl.length c7) := (blk_cell HJ.out 2).trans rfl
          have hcc := HCC.out
          have hcw := HCW.out
          have hcC := HCCC.out
          have hcW := HCWC.out
          have hpb := HPO.out tl _ (HMEM.out b hbl)
          have hgb := HPA.out _ (HMEM.out b hbl)
          have hfb := HFA.out b hbl
          have hlb2 : out.length ≤ 4096 := by have := HLN.out; have := HA2.out; omega
          obtain ⟨kb, hkb⟩ := (r8_least.ev (u := partOf (rd_L1 l0 (b : Int)) ((i : Int), x1, x2)) hlb2 (fun w hw => ⟨(HOG.out w hw).1, hgb.1, by have := (HOG.out w hw).2; omega⟩)).rounds
          obtain ⟨_, hoc, hoC⟩ := Kd.S_reads' (Kd.S_below HS.out HB2.out)
          have HRN := Aside0.mk (show bestOf far = b → trainRun l0 ((i : Int), x1, x2) (n + 1) out far = if rd far (b : Int) = 0 then out else trainRun l0 ((i : Int), x1, x2) n (out ++ [partOf (rd_L1 l0 (b : Int)) ((i : Int), x1, x2)]) (nearer l0 ((i : Int), x1, x2) (partOf (rd_L1 l0 (b : Int)) ((i : Int), x1, x2)) far) from fun e => by rw [trainRun, e])
          generalize rd_L1 l0 (b : Int) = vb at *
          generalize partOf vb ((i : Int), x1, x2) = pb at *
          generalize leastOf out pb = yb at *
          by_cases hlt2 : k < l0.length
          ·have q2 : (0 : Int) ≤ (k : Int) := by omega
           have q3 : (k : Int) < (l0.length : Int) := by omega
           obtain ⟨ad1, Ak, ck, e1, hxk, hlk, hrk⟩ := at_L1 (Kd.C_below HR.out HB.out) (k : Int) q2 q3
           cases e1
           rw [Int.toNat_natCast] at hxk
           have hpk := HPO.out tl _ (HMEM.out k hlt2)
           have hgk := HPA.out _ (HMEM.out k hlt2)
           have hfk := HFA.out k hlt2
           obtain ⟨k1, hk1⟩ := (r8_least.ev (u := partOf (rd_L1 l0 (k : Int)) ((i : Int), x1, x2)) hlb2 (fun w hw => ⟨(HOG.out w hw).1, hgk.1, by have := (HOG.out w hw).2; omega⟩)).rounds
           generalize rd_L1 l0 (k : Int) = vk at *
           generalize partOf vk ((i : Int), x1, x2) = pk at *
           generalize leastOf out pk = yk at *
           have hbs := HBS.out
           rw [hfk, hfb] at hbs
           have HBS3 := Aside0.mk hbs
           clear hbs hfk hfb hgk hgb
           go_wp2
           refine start_ (n := 19) (S := fun w' => w'.cell? ⟨j, 0, none⟩ = some (.int .i64 (v0.length : Int)) ∧ w'.cell? ⟨j, 1, none⟩ = some (.slice A5 l1.length c5) ∧ w'.cell? ⟨j, 2, none⟩ = some (.slice A7 tl.length c7) ∧ w'.cell? (ad.add k) = some (.slice Ak vk.length ck) ∧ w'.cell? (ad.add b) = some (.slice Ab vb.length cb)) (ds := []) #[false, false, false, false, false, false, false, false, false, false, false, false, false, false, false, false, false, false, false] (by kernel_rfl) rfl rfl ⟨(pw_cell_below hBz hj0), (pw_cell_below hBz hj1), (pw_cell_below hBz hj2), (pw_cell_below hBz hxk), (pw_cell_below hBz hxb)⟩ (fun hHeld => ?_)
           refine with_tabW r8_Train.tab24 r8_Train.bits24 (fun HT_ HW_ => ?_)
           refine pure_ (i := 0) (N := some 90) (v := ?_) (a' := ?_) #[true, false, false, false, false, false, false, false, false, false, false, false, false, false, false, false, false, false, false] rfl rfl (any_of HT_.out (by kernel_rfl)) (fun _ _ _ h => h) (Or.inl ⟨by rfl, ?_⟩) ?_ ?_
           rotate_left
           ·intro w'
            go_simp
            with_reducible rfl
           rotate_left
           ·simp only [Act.put, List.setIfInBounds_toArray, List.set_cons_zero, List.set_cons_succ, i64_w, i32_w]
            rfl
           refine pure_ (i := 2) (N := some 92) (v := ?_) (a' := ?_) #[true, false, true, false, false, false, false, false, false, false, false, false, false, false, false, false, false, false, false] rfl rfl (any_of HT_.out (by kernel_rfl)) (fun _ _ _ h => h) (Or.inl ⟨by rfl, ?_⟩) ?_ ?_
           rotate_left
           ·intro w'
            go_simp
            with_reducible rfl
           rotate_left
           ·simp only [Act.put, List.setIfInBounds_toArray, List.set_cons_zero, List.set_cons_succ, i64_w, i32_w]
            rfl
           refine pure_ (i := 3) (N := some 93) (v := ?_) (a' := ?_) #[true, false, true, true, false, false, false, false, false, false, false, false, false, false, false, false, false, false, false] rfl rfl (any_of HT_.out (by kernel_rfl)) (fun _ _ _ h => h) (Or.inl ⟨by rfl, ?_⟩) ?_ ?_
           rotate_left
           ·intro w'
            go_simp
            with_reducible rfl
           rotate_left
           ·simp only [Act.put, List.setIfInBounds_toArray, List.set_cons_zero, List.set_cons_succ, i64_w, i32_w]
            rfl
           refine pure_ (i := 4) (N := some 94) (v := ?_) (a' := ?_) #[true, false, true, true, true, false, false, false, false, false, false, false, false, false, false, false, false, false, false] rfl rfl (any_of HT_.out (by kernel_rfl)) (fun _ _ _ h => h) (Or.inl ⟨by rfl, ?_⟩) ?_ ?_
           rotate_left
           ·intro w'
            go_simp
            with_reducible rfl
           rotate_left
           ·simp only [Act.put, List.setIfInBounds_toArray, List.set_cons_zero, List.set_cons_succ, i64_w, i32_w]
            rfl
           refine pure_ (i := 5) (N := some 95) (v := ?_) (a' := ?_) #[true, false, true, true, true, true, false, false, false, false, false, false, false, false, false, false, false, false, false] rfl rfl (any_of HT_.out (by kernel_rfl)) (fun _ _ _ h => h) (Or.inl ⟨by rfl, ?_⟩) ?_ ?_
           rotate_left
           ·intro w'
            go_simp
            with_reducible rfl
           rotate_left
           ·simp only [Act.put, List.setIfInBounds_toArray, List.set_cons_zero, List.set_cons_succ, i64_w, i32_w]
            rfl
           refine pure_ (i := 9) (N := some 99) (v := ?_) (a' := ?_) #[true, false, true, true, true, true, false, false, false, true, false, false, false, false, false, false, false, false, false] rfl rfl (any_of HT_.out (by kernel_rfl)) (fun _ _ _ h => h) (Or.inl ⟨by rfl, ?_⟩) ?_ ?_
           rotate_left
           ·intro w'
            go_simp
            with_reducible rfl
           rotate_left
           ·simp only [Act.put, List.setIfInBounds_toArray, List.set_cons_zero, List.set_cons_succ, i64_w, i32_w]
            rfl
           refine pure_ (i := 11) (N := some 101) (v := ?_) (a' := ?_) #[true, false, true, true, true, true, false, false, false, true, false, true, false, false, false, false, false, false, false] rfl rfl (any_of HT_.out (by kernel_rfl)) (fun _ _ _ h => h) (Or.inl ⟨by rfl, ?_⟩) ?_ ?_
           rotate_left
           ·intro w'
            go_simp
            with_reducible rfl
           rotate_left
           ·simp only [Act.put, List.setIfInBounds_toArray, List.set_cons_zero, List.set_cons_succ, i64_w, i32_w]
            rfl
           refine pure_ (i := 12) (N := some 102) (v := ?_) (a' := ?_) #[true, false, true, true, true, true, false, false, false, true, false, true, true, false, false, false, false, false, false] rfl rfl (any_of HT_.out (by kernel_rfl)) (fun _ _ _ h => h) (Or.inl ⟨by rfl, ?_⟩) ?_ ?_
           rotate_left
           ·intro w'
            go_simp
            with_reducible rfl
           rotate_left
           ·simp only [Act.put, List.setIfInBounds_toArray, List.set_cons_zero, List.set_cons_succ, i64_w, i32_w]
            rfl
           refine pure_ (i := 13) (N := some 103) (v := ?_) (a' := ?_) #[true, false, true, true, true, true, false, false, false, true, false, true, true, true, false, false, false, false, false] rfl rfl (any_of HT_.out (by kernel_rfl)) (fun _ _ _ h => h) (Or.inl ⟨by rfl, ?_⟩) ?_ ?_
           rotate_left
           ·intro w'
            go_simp
            with_reducible rfl
           rotate_left
           ·simp only [Act.put, List.setIfInBounds_toArray, List.set_cons_zero, List.set_cons_succ, i64_w, i32_w]
            rfl
           refine pure_ (i := 14) (N := some 104) (v := ?_) (a' := ?_) #[true, false, true, true, true, true, false, false, false, true, false, true, true, true, true, false, false, false, false] rfl rfl (any_of HT_.out (by kernel_rfl)) (fun _ _ _ h => h) (Or.inl ⟨by rfl, ?_⟩) ?_ ?_
           rotate_left
           ·intro w'
            go_simp
            with_reducible rfl
           rotate_left
           ·simp only [Act.put, List.setIfInBounds_toArray, List.set_cons_zero, List.set_cons_succ, i64_w, i32_w]
            rfl
           refine take_ (i := 1) (N := some 91) (v := ?_) (a' := ?_) #[true, true, true, true, true, true, false, false, false, true, false, true, true, true, true, false, false, false, false] rfl rfl (take_ofW HT_.out HW_.out (by kernel_rfl)) (fun _ _ _ h => h) (Or.inl ⟨by rfl, ?_⟩) hHeld ?_ ?_
           rotate_left
           ·rintro w' ⟨s0, s1, s2, s3, s4⟩
            go_simp
            with_reducible rfl
           rotate_left
           ·simp only [Act.put, List.setIfInBounds_toArray, List.set_cons_zero, List.set_cons_succ, i64_w, i32_w]
            rfl
           refine take_ (i := 6) (N := some 96) (v := ?_) (a' := ?_) #[true, true, true, true, true, true, true, false, false, true, false, true, true, true, true, false, false, false, false] rfl rfl (take_ofW HT_.out HW_.out (by kernel_rfl)) (fun _ _ _ h => h) (Or.inl ⟨by rfl, ?_⟩) hHeld ?_ ?_
           rotate_left
           ·rintro w' ⟨s0, s1, s2, s3, s4⟩
            go_simp
            with_reducible rfl
           rotate_left
           ·simp only [Act.put, List.setIfInBounds_toArray, List.set_cons_zero, List.set_cons_succ, i64_w, i32_w]
            rfl
           refine take_ (i := 10) (N := some 100) (v := ?_) (a' := ?_) #[true, true, true, true, true, true, true, false, false, true, true, true, true, true, true, false, false, false, false] rfl rfl (take_ofW HT_.out HW_.out (by kernel_rfl)) (fun _ _ _ h => h) (Or.inl ⟨by rfl, ?_⟩) hHeld ?_ ?_
           rotate_left
           ·rintro w' ⟨s0, s1, s2, s3, s4⟩
            go_simp
            with_reducible rfl
           rotate_left
           ·simp only [Act.put, List.setIfInBounds_toArray, List.set_cons_zero, List.set_cons_succ, i64_w, i32_w]
            rfl
           refine take_ (i := 15) (N := some 105) (v := ?_) (a' := ?_) #[true, true, true, true, true, true, true, false, false, true, true, true, true, true, true, true, false, false, false] rfl rfl (take_ofW HT_.out HW_.out (by kernel_rfl)) (fun _ _ _ h => h) (Or.inl ⟨by rfl, ?_⟩) hHeld ?_ ?_
           rotate_left
           ·rintro w' ⟨s0, s1, s2, s3, s4⟩
            go_simp
            with_reducible rfl
           rotate_left
           ·simp only [Act.put, List.setIfInBounds_toArray, List.set_cons_zero, List.set_cons_succ, i64_w, i32_w]
            rfl
           refine one_ (i := 7) (N := some 97) #[true, true, true, true, true, true, true, true, false, true, true, true, true, true, true, true, false, false, false] rfl rfl (one_of HT_.out (by kernel_rfl)) (by decide) (fun K hK => ?_)
           refine goes_ Try.func49 (by kernel_rfl) rfl #[.agg #[.int .i64 (v0.length : Int), .slice A5 l1.length c5, .slice A7 tl.length c7], .int .i64 (i : Int), .slice Ak vk.length ck] (by rfl) rfl rfl (by simp only [List.map_toArray, List.map_cons, List.map_nil]; rfl) ?_
           with_reducible refine (r8_Part.calls _ _ _ _ _ _ _ _ (fun _ => True) _ _ _ _ _ (Kd.C_below hcC (below_drew1 hBz)) hcc (Kd.C_below hcW (below_drew1 hBz)) hcw (Kd.V_mk hlk (Kd.F_mono (Kd.C_F (Kd.heap_int _) (Kd.C_below hrk (below_drew1 hBz))) (fun _ _ => trivial))) hpk).mono ?_
           rintro e w3 ⟨v3, rfl, hv, hb⟩
           refine ⟨_, rfl, ?_⟩
           obtain ⟨A4, c4, rfl⟩ := Kd.V_slice hv
           obtain ⟨_, hl4, hr4⟩ := Kd.V_reads' hv
           have hB3 := below_step (below_drew1 hBz) hb
           have hD3 := below_step (below_drew1 (Below.refl w2.heap.size w2)) hb
           clear hv hb
           refine hK.out _ _ ⟨(pw_cell_below hB3 hj0), (pw_cell_below hB3 hj1), (pw_cell_below hB3 hj2), (pw_cell_below hB3 hxk), (pw_cell_below hB3 hxb)⟩ (fun hHeld => ?_)
           clear hK K
           refine norm_ (a' := ?_) ?_ ?_
           rotate_left
           ·show Act.put _ (some 97) _ = _
            simp only [Act.put, List.setIfInBounds_toArray, List.set_cons_zero, List.set_cons_succ, i64_w, i32_w]
            rfl
           refine one_ (i := 8) (N := some 98) #[true, true, true, true, true, true, true, true, true, true, true, true, true, true, true, true, false, false, false] rfl rfl (one_of HT_.out (by kernel_rfl)) (by decide) (fun K hK => ?_)
           refine goes_ Try.func62 (by kernel_rfl) rfl #[.slice A12 out.length c12, .slice A4 pk.length c4] (by rfl) rfl rfl (by simp only [List.map_toArray, List.map_cons, List.map_nil]; rfl) ?_
           with_reducible refine (r8_least.calls _ _ _ _ _ _ _ _ _ (Kd.C_below hoC hD3) hoc hr4 hl4 hk1).mono ?_
           rintro e w5 ⟨rfl, hb⟩
           refine ⟨_, rfl, ?_⟩
           have hB5 := below_step hB3 hb
           have hD5 := below_step hD3 hb
           clear hB3 hD3 hr4 hl4 hb
           refine hK.out _ _ ⟨(pw_cell_below hB5 hj0), (pw_cell_below hB5 hj1), (pw_cell_below hB5 hj2), (pw_cell_below hB5 hxk), (pw_cell_below hB5 hxb)⟩ (fun hHeld => ?_)
           clear hK K
           refine norm_ (a' := ?_) ?_ ?_
           rotate_left
           ·show Act.put _ (some 98) _ = _
            simp only [Act.put, List.setIfInBounds_toArray, List.set_cons_zero, List.set_cons_succ, i64_w, i32_w]
            rfl
           refine one_ (i := 16) (N := some 106) #[true, true, true, true, true, true, true, true, true, true, true, true, true, true, true, true, true, false, false] rfl rfl (one_of HT_.out (by kernel_rfl)) (by decide) (fun K hK => ?_)
           refine goes_ Try.func49 (by kernel_rfl) rfl #[.agg #[.int .i64 (v0.length : Int), .slice A5 l1.length c5, .slice A7 tl.length c7], .int .i64 (i : Int), .slice Ab vb.length cb] (by rfl) rfl rfl (by simp only [List.map_toArray, List.map_cons, List.map_nil]; rfl) ?_
           with_reducible refine (r8_Part.calls _ _ _ _ _ _ _ _ (fun _ => True) _ _ _ _ _ (Kd.C_below hcC hB5) hcc (Kd.C_below hcW hB5) hcw (Kd.V_mk hlb (Kd.F_mono (Kd.C_F (Kd.heap_int _) (Kd.C_below hrb hB5)) (fun _ _ => trivial))) hpb).mono ?_
           rintro e w7 ⟨v7, rfl, hv, hb⟩
           refine ⟨_, rfl, ?_⟩
           obtain ⟨A8, c8, rfl⟩ := Kd.V_slice hv
           obtain ⟨_, hl8, hr8⟩ := Kd.V_reads' hv
           have hB7 := below_step hB5 hb
           have hD7 := below_step hD5 hb
           clear hv hb
           clear hB5 hD5
           refine hK.out _ _ ⟨(pw_cell_below hB7 hj0), (pw_cell_below hB7 hj1), (pw_cell_below hB7 hj2), (pw_cell_below hB7 hxk), (pw_cell_below hB7 hxb)⟩ (fun hHeld => ?_)
           clear hK K
           refine norm_ (a' := ?_) ?_ ?_
           rotate_left
           ·show Act.put _ (some 106) _ = _
            simp only [Act.put, List.setIfInBounds_toArray, List.set_cons_zero, List.set_cons_succ, i64_w, i32_w]
            rfl
           refine one_ (i := 17) (N := some 107) #[true, true, true, true, true, true, true, true, true, true, true, true, true, true, true, true, true, true, false] rfl rfl (one_of HT_.out (by kernel_rfl)) (by decide) (fun K hK => ?_)
           refine goes_ Try.func62 (by kernel_rfl) rfl #[.slice A12 out.length c12, .slice A8 pb.length c8] (by rfl) rfl rfl (by simp only [List.map_toArray, List.map_cons, List.map_nil]; rfl) ?_
           with_reducible refine (r8_least.calls _ _ _ _ _ _ _ _ _ (Kd.C_below hoC hD7) hoc hr8 hl8 hkb).mono ?_
           rintro e w9 ⟨rfl, hb⟩
           refine ⟨_, rfl, ?_⟩
           have hB9 := below_step hB7 hb
           have hD9 := below_step hD7 hb
           clear hB7 hD7 hr8 hl8 hb
           refine hK.out _ _ ⟨(pw_cell_below hB9 hj0), (pw_cell_below hB9 hj1), (pw_cell_below hB9 hj2), (pw_cell_below hB9 hxk), (pw_cell_below hB9 hxb)⟩ (fun hHeld => ?_)
           clear hK K
           refine norm_ (a' := ?_) ?_ ?_
           rotate_left
           ·show Act.put _ (some 107) _ = _
            simp only [Act.put, List.setIfInBounds_toArray, List.set_cons_zero, List.set_cons_succ, i64_w, i32_w]
            rfl
           refine pure_ (i := 18) (N := some 108) (v := ?_) (a' := ?_) #[true, true, true, true, true, true, true, true, true, true, true, true, true, true, true, true, true, true, true] rfl rfl (any_of HT_.out (by kernel_rfl)) (fun _ _ _ h => h) (Or.inl ⟨by rfl, ?_⟩) ?_ ?_
           rotate_left
           ·intro w'
            go_simp
            with_reducible rfl
           rotate_left
           ·simp only [Act.put, List.setIfInBounds_toArray, List.set_cons_zero, List.set_cons_succ, i64_w, i32_w]
            rfl
           refine done_ (done_of HT_.out (by kernel_rfl)) ?_
           have HB9 := Aside0.mk (below_step HB2.out hD9)
           clear hHeld hB9 hD9 hBz hj0 hj1 hj2 hxb hxk hlb hlk hrb hrk hcC hcW hcc hcw hpb hpk hkb hk1 hoC hoc
           by_cases hgt : yk > yb
           ·have hbs := HBS3.out
            rw [if_pos hgt] at hbs
            go_wp2
            go_roundw
            case rel => exact ⟨k + 1, by omega, by go_num, by rw [hbs], HB9⟩
            case measure => simp [intOf]; omega
           ·have hbs := HBS3.out
            rw [if_neg hgt] at hbs
            go_wp2
            go_roundw
            case rel => exact ⟨k + 1, by omega, by go_num, by rw [hbs], HB9⟩
            case measure => simp [intOf]; omega
          ·obtain rfl : k = l0.length := by omega
           have HBO := Aside0.mk (show bestOf far = b from by rw [bestOf, HFL.out]; exact HBB2.out)
           have HFB := Aside0.mk hfb
           have HGB := Aside0.mk hgb
           clear hk hlt2 hgb hfb HBS HBB2
           go_wp2
           refine start_ (n := 10) (S := fun w' => w'.cell? ⟨j, 0, none⟩ = some (.int .i64 (v0.length : Int)) ∧ w'.cell? ⟨j, 1, none⟩ = some (.slice A5 l1.length c5) ∧ w'.cell? ⟨j, 2, none⟩ = some (.slice A7 tl.length c7) ∧ w'.cell? (ad.add b) = some (.slice Ab vb.length cb)) (ds := []) #[false, false, false, false, false, false, false, false, false, false] (by kernel_rfl) rfl rfl ⟨(pw_cell_below hBz hj0), (pw_cell_below hBz hj1), (pw_cell_below hBz hj2), (pw_cell_below hBz hxb)⟩ (fun hHeld => ?_)
           refine with_tabW r8_Train.tab26 r8_Train.bits26 (fun HT_ HW_ => ?_)
           refine pure_ (i := 0) (N := some 110) (v := ?_) (a' := ?_) #[true, false, false, false, false, false, false, false, false, false] rfl rfl (any_of HT_.out (by kernel_rfl)) (fun _ _ _ h => h) (Or.inl ⟨by rfl, ?_⟩) ?_ ?_
           rotate_left
           ·intro w'
            go_simp
            with_reducible rfl
           rotate_left
           ·simp only [Act.put, List.setIfInBounds_toArray, List.set_cons_zero, List.set_cons_succ, i64_w, i32_w]
            rfl
           refine pure_ (i := 2) (N := some 112) (v := ?_) (a' := ?_) #[true, false, true, false, false, false, false, false, false, false] rfl rfl (any_of HT_.out (by kernel_rfl)) (fun _ _ _ h => h) (Or.inl ⟨by rfl, ?_⟩) ?_ ?_
           rotate_left
           ·intro w'
            go_simp
            with_reducible rfl
           rotate_left
           ·simp only [Act.put, List.setIfInBounds_toArray, List.set_cons_zero, List.set_cons_succ, i64_w, i32_w]
            rfl
           refine pure_ (i := 3) (N := some 113) (v := ?_) (a' := ?_) #[true, false, true, true, false, false, false, false, false, false] rfl rfl (any_of HT_.out (by kernel_rfl)) (fun _ _ _ h => h) (Or.inl ⟨by rfl, ?_⟩) ?_ ?_
           rotate_left
           ·intro w'
            go_simp
            with_reducible rfl
           rotate_left
           ·simp only [Act.put, List.setIfInBounds_toArray, List.set_cons_zero, List.set_cons_succ, i64_w, i32_w]
            rfl
           refine pure_ (i := 4) (N := some 114) (v := ?_) (a' := ?_) #[true, false, true, true, true, false, false, false, false, false] rfl rfl (any_of HT_.out (by kernel_rfl)) (fun _ _ _ h => h) (Or.inl ⟨by rfl, ?_⟩) ?_ ?_
           rotate_left
           ·intro w'
            go_simp
            with_reducible rfl
           rotate_left
           ·simp only [Act.put, List.setIfInBounds_toArray, List.set_cons_zero, List.set_cons_succ, i64_w, i32_w]
            rfl
           refine pure_ (i := 5) (N := some 115) (v := ?_) (a' := ?_) #[true, false, true, true, true, true, false, false, false, false] rfl rfl (any_of HT_.out (by kernel_rfl)) (fun _ _ _ h => h) (Or.inl ⟨by rfl, ?_⟩) ?_ ?_
           rotate_left
           ·intro w'
            go_simp
            with_reducible rfl
           rotate_left
           ·simp only [Act.put, List.setIfInBounds_toArray, List.set_cons_zero, List.set_cons_succ, i64_w, i32_w]
            rfl
           refine take_ (i := 1) (N := some 111) (v := ?_) (a' := ?_) #[true, true, true, true, true, true, false, false, false, false] rfl rfl (take_ofW HT_.out HW_.out (by kernel_rfl)) (fun _ _ _ h => h) (Or.inl ⟨by rfl, ?_⟩) hHeld ?_ ?_
           rotate_left
           ·rintro w' ⟨s0, s1, s2, s3⟩
            go_simp
            with_reducible rfl
           rotate_left
           ·simp only [Act.put, List.setIfInBounds_toArray, List.set_cons_zero, List.set_cons_succ, i64_w, i32_w]
            rfl
           refine take_ (i := 6) (N := some 116) (v := ?_) (a' := ?_) #[true, true, true, true, true, true, true, false, false, false] rfl rfl (take_ofW HT_.out HW_.out (by kernel_rfl)) (fun _ _ _ h => h) (Or.inl ⟨by rfl, ?_⟩) hHeld ?_ ?_
           rotate_left
           ·rintro w' ⟨s0, s1, s2, s3⟩
            go_simp
            with_reducible rfl
           rotate_left
           ·simp only [Act.put, List.setIfInBounds_toArray, List.set_cons_zero, List.set_cons_succ, i64_w, i32_w]
            rfl
           refine one_ (i := 7) (N := some 117) #[true, true, true, true, true, true, true, true, false, false] rfl rfl (one_of HT_.out (by kernel_rfl)) (by decide) (fun K hK => ?_)
           refine goes_ Try.func49 (by kernel_rfl) rfl #[.agg #[.int .i64 (v0.length : Int), .slice A5 l1.length c5, .slice A7 tl.length c7], .int .i64 (i : Int), .slice Ab vb.length cb] (by rfl) rfl rfl (by simp only [List.map_toArray, List.map_cons, List.map_nil]; rfl) ?_
           with_reducible refine (r8_Part.calls _ _ _ _ _ _ _ _ (fun _ => True) _ _ _ _ _ (Kd.C_below hcC (below_drew1 hBz)) hcc (Kd.C_below hcW (below_drew1 hBz)) hcw (Kd.V_mk hlb (Kd.F_mono (Kd.C_F (Kd.heap_int _) (Kd.C_below hrb (below_drew1 hBz))) (fun _ _ => trivial))) hpb).mono ?_
           rintro e w3 ⟨v3, rfl, hv, hb⟩
           refine ⟨_, rfl, ?_⟩
           obtain ⟨A4, c4, rfl⟩ := Kd.V_slice hv
           obtain ⟨_, hl4, hr4⟩ := Kd.V_reads' hv
           have hB3 := below_step (below_drew1 hBz) hb
           have hD3 := below_step (below_drew1 (Below.refl w2.heap.size w2)) hb
           clear hv hb
           refine hK.out _ _ ⟨(pw_cell_below hB3 hj0), (pw_cell_below hB3 hj1), (pw_cell_below hB3 hj2), (pw_cell_below hB3 hxb)⟩ (fun hHeld => ?_)
           clear hK K
           refine norm_ (a' := ?_) ?_ ?_
           rotate_left
           ·show Act.put _ (some 117) _ = _
            simp only [Act.put, List.setIfInBounds_toArray, List.set_cons_zero, List.set_cons_succ, i64_w, i32_w]
            rfl
           refine one_ (i := 8) (N := some 118) #[true, true, true, true, true, true, true, true, true, false] rfl rfl (one_of HT_.out (by kernel_rfl)) (by decide) (fun K hK => ?_)
           refine goes_ Try.func62 (by kernel_rfl) rfl #[.slice A12 out.length c12, .slice A4 pb.length c4] (by rfl) rfl rfl (by simp only [List.map_toArray, List.map_cons, List.map_nil]; rfl) ?_
           with_reducible refine (r8_least.calls _ _ _ _ _ _ _ _ _ (Kd.C_below hoC hD3) hoc hr4 hl4 hkb).mono ?_
           rintro e w5 ⟨rfl, hb⟩
           refine ⟨_, rfl, ?_⟩
           have hB5 := below_step hB3 hb
           have hD5 := below_step hD3 hb
           clear hB3 hD3 hr4 hl4 hb
           refine hK.out _ _ ⟨(pw_cell_below hB5 hj0), (pw_cell_below hB5 hj1), (pw_cell_below hB5 hj2), (pw_cell_below hB5 hxb)⟩ (fun hHeld => ?_)
           clear hK K
           refine norm_ (a' := ?_) ?_ ?_
           rotate_left
           ·show Act.put _ (some 118) _ = _
            simp only [Act.put, List.setIfInBounds_toArray, List.set_cons_zero, List.set_cons_succ, i64_w, i32_w]
            rfl
           refine pure_ (i := 9) (N := some 119) (v := ?_) (a' := ?_) #[true, true, true, true, true, true, true, true, true, true] rfl rfl (any_of HT_.out (by kernel_rfl)) (fun _ _ _ h => h) (Or.inl ⟨by rfl, ?_⟩) ?_ ?_
           rotate_left
           ·intro w'
            go_simp
            with_reducible rfl
           rotate_left
           ·simp only [Act.put, List.setIfInBounds_toArray, List.set_cons_zero, List.set_cons_succ, i64_w, i32_w]
            rfl
           refine done_ (done_of HT_.out (by kernel_rfl)) ?_
           have hS5 := Kd.S_below (Kd.S_below HS.out HB2.out) hD5
           by_cases hz : yb = 0
           ·have hzb : (yb == 0) = true := by simp [hz]
            have HROW := Aside0.mk (show out = trainOf l0 ((i : Int), x1, x2) a2.toNat from by
             have h := HRUN.out
             rw [HFR.out, HRN.out HBO.out, HFB.out, if_pos hz] at h
             exact h)
            have HST := Aside0.mk hS5
            have HBT := Aside0.mk hB5
            clear hHeld hS5 hB5 hD5 hBz hj0 hj1 hj2 hxb hlb hrb hcC hcW hcc hcw hpb hkb hoC hoc HS HBZ hz
            generalize w5 = wt at *
            have hjt := (HBT.out.block j (blk_lt HJ.out)).trans HJ.out
            have hjc : wt.cell? ⟨j, 2, none⟩ = some (.slice A7 tl.length c7) := (blk_cell hjt 2).trans rfl
            have HJT := Aside0.mk hjt
            have HWT := Aside0.mk (Kd.R_below HRW.out HBT.out)
            have HCT := Aside0.mk (Kd.R_below HRC.out HBT.out)
            have HGT := Aside0.mk ((HBT.out.block _ (blk_lt HG.out)).trans HG.out)
            have HBT2 := Aside0.mk (below_step HB.out HBT.out)
            have HOKP := Aside0.mk (show ∀ k, wr.heap.size ≤ k → some k ≠ (Value.slice A5 l1.length c5).ownBlock ∧ some k ≠ (Value.slice A7 tl.length c7).ownBlock from fun k hk => ⟨fun e => by have := Kd.R_lt HRC.out k e.symm; omega, fun e => by have := Kd.R_lt HRW.out k e.symm; omega⟩)
            have HPM := Aside0.mk (Kd.M_row (Kd.R_mono (Kd.R_lower (Kd.R_bound (Kd.S_R HST.out)) (base' := w.heap.size) HB.out.size) (ok' := fun k => wr.heap.size ≤ k) (fun k hk => hk.2.1)))
            have hwt2 : wr.heap.size ≤ wt.heap.size := HBT.out.size
            have hwt : w.heap.size ≤ wt.heap.size := HBT2.out.size
            clear hjt HBT HST HRW HRC HG HB HJ HPA HPO HMEM HM0 HTS HP0 HOG HFIT
            go_wp2_with (first | ((with_reducible refine gate_builtin (b := .append) (xs := #[.tmp 133, .tmp 135]) rfl ?_); at_builtin; refine Kd.R_append (Kd.slice 22 (Kd.slice 3 (Kd.int .i64))) (w0 := w) w.heap.size rfl (.tmp 133) (.tmp 135) 23 39 (.slice none 0 0) 24 rfl Try.underlying23 info39 rfl (by decide) (by omega) (.slice A7 tl.length c7) tl out [.slice A12 out.length c12] (fun k => some k ≠ (Value.slice A5 l1.length c5).ownBlock) (fun k => wr.heap.size ≤ k) rfl rfl HPM.out HOKP.out (fun k hk => (HOKP.out k (by omega)).1) HWT.out HBT2.out hwt (by omega) ?_; intro v1 w8 ho hb8 hg8 hat; obtain ⟨A8, c8, rfl⟩ := Kd.R_slice ho; have hj8 := blk_grown HJT.out hg8 (Kd.R_ne HWT.out HJT.out (by decide)); have hcc8 : w8.cell? ⟨j, 2, none⟩ = some (.slice A7 tl.length c7) := (blk_cell hj8 2).trans rfl; have hff8 := blk_frozen hj8 2; have HJ8 := Aside0.mk hj8; have HO8 := Aside0.mk ho; have HG8 := Aside0.mk hg8; have HB8 := Aside0.mk hb8; clear hj8 ho hb8 hg8 hat))
            go_roundw
            case rel =>
             have h7 := Kd.R_set HO8.out HJ8.out (by decide) 2 (.slice A8 (tl ++ [out]).length c8)
             have h8 := Kd.R_set (Kd.R_over' HCT.out (Kd.R_typed HWT.out) (by decide) HG8.out) HJ8.out (by decide) 2 (.slice A8 (tl ++ [out]).length c8)
             have h9 := blk_far (blk_grown HGT.out HG8.out (Kd.R_ne HWT.out HGT.out (by decide))) (p := ⟨j, 2, none⟩) (blk_ne (blk_grown HGT.out HG8.out (Kd.R_ne HWT.out HGT.out (by decide))) HJ8.out (by decide)) (.slice A8 (tl ++ [out]).length c8)
             have h10 := below_set (j := 2) (v := .slice A8 (tl ++ [out]).length c8) HB8.out hgj
             have h11 := blk_set HJ8.out 2 (.slice A8 (tl ++ [out]).length c8)
             rw [show (tl ++ [out]).length = tl.length + 1 by simp] at h7 h8 h9 h10 h11
             exact ⟨i + 1, _, by omega, by go_num, ⟨h11⟩, ⟨by rw [HSN.out, ← HROW.out]; exact h7⟩, ⟨h8⟩, ⟨h9⟩, ⟨h10⟩⟩
            case measure => simp [intOf]; omega
           ·have hzb : (yb == 0) = false := by simp [hz]
            have HRUN2 := Aside0.mk (show trainRun l0 ((i : Int), x1, x2) n (out ++ [pb]) (lessOf l0 ((i : Int), x1, x2) (out ++ [pb])) = trainOf l0 ((i : Int), x1, x2) a2.toNat from by
             have h := HRUN.out
             rw [HFR.out, HRN.out HBO.out, HFB.out, if_neg hz, ← HFR.out, nearer_less] at h
             exact h)
            have hpv : pb.length ≤ 32 := HGB.out.1.2.2
            have HOL := Aside0.mk (Kd.S_lt hS5)
            have hwz : wr.heap.size ≤ w5.heap.size := hB5.size
            have hln3 : out.length ≤ 256 := by have := HLN.out; have := HA2.out; omega
            have hj0z := pw_cell_below hB5 hj0
            have hj1z := pw_cell_below hB5 hj1
            have hj2z := pw_cell_below hB5 hj2
            have hxbz := pw_cell_below hB5 hxb
            have hcCz := Kd.C_below hcC hB5
            have hcWz := Kd.C_below hcW hB5
            have hrbz := Kd.C_below hrb hB5
            clear hHeld hj0 hj1 hj2 hxb hrb hcC hcW hkb hoC hoc hz hD5 hBz
            go_wp2
            refine start_ (n := 13) (S := fun w' => w'.cell? ⟨j, 0, none⟩ = some (.int .i64 (v0.length : Int)) ∧ w'.cell? ⟨j, 1, none⟩ = some (.slice A5 l1.length c5) ∧ w'.cell? ⟨j, 2, none⟩ = some (.slice A7 tl.length c7) ∧ w'.cell? (ad.add b) = some (.slice Ab vb.length cb)) (ds := [11]) #[false, false, false, false, false, false, false, false, false, false, false, false, false] (by kernel_rfl) rfl rfl ⟨hj0z, hj1z, hj2z, hxbz⟩ (fun hHeld => ?_)
            refine with_tabW r8_Train.tab27 r8_Train.bits27 (fun HT_ HW_ => ?_)
            refine pure_ (i := 0) (N := some 120) (v := ?_) (a' := ?_) #[true, false, false, false, false, false, false, false, false, false, false, false, false] rfl rfl (any_of HT_.out (by kernel_rfl)) (fun _ _ _ h => h) (Or.inl ⟨by rfl, ?_⟩) ?_ ?_
            rotate_left
            ·intro w'
             go_simp
             with_reducible rfl
            rotate_left
            ·simp only [Act.put, List.setIfInBounds_toArray, List.set_cons_zero, List.set_cons_succ, i64_w, i32_w]
             rfl
            refine pure_ (i := 3) (N := some 123) (v := ?_) (a' := ?_) #[true, false, false, true, false, false, false, false, false, false, false, false, false] rfl rfl (any_of HT_.out (by kernel_rfl)) (fun _ _ _ h => h) (Or.inl ⟨by rfl, ?_⟩) ?_ ?_
            rotate_left
            ·intro w'
             go_simp
             with_reducible rfl
            rotate_left
            ·simp only [Act.put, List.setIfInBounds_toArray, List.set_cons_zero, List.set_cons_succ, i64_w, i32_w]
             rfl
            refine pure_ (i := 4) (N := some 124) (v := ?_) (a' := ?_) #[true, false, false, true, true, false, false, false, false, false, false, false, false] rfl rfl (any_of HT_.out (by kernel_rfl)) (fun _ _ _ h => h) (Or.inl ⟨by rfl, ?_⟩) ?_ ?_
            rotate_left
            ·intro w'
             go_simp
             with_reducible rfl
            rotate_left
            ·simp only [Act.put, List.setIfInBounds_toArray, List.set_cons_zero, List.set_cons_succ, i64_w, i32_w]
             rfl
            refine pure_ (i := 5) (N := some 125) (v := ?_) (a' := ?_) #[true, false, false, true, true, true, false, false, false, false, false, false, false] rfl rfl (any_of HT_.out (by kernel_rfl)) (fun _ _ _ h => h) (Or.inl ⟨by rfl, ?_⟩) ?_ ?_
            rotate_left
            ·intro w'
             go_simp
             with_reducible rfl
            rotate_left
            ·simp only [Act.put, List.setIfInBounds_toArray, List.set_cons_zero, List.set_cons_succ, i64_w, i32_w]
             rfl
            refine pure_ (i := 6) (N := some 126) (v := ?_) (a' := ?_) #[true, false, false, true, true, true, true, false, false, false, false, false, false] rfl rfl (any_of HT_.out (by kernel_rfl)) (fun _ _ _ h => h) (Or.inl ⟨by rfl, ?_⟩) ?_ ?_
            rotate_left
            ·intro w'
             go_simp
             with_reducible rfl
            rotate_left
            ·simp only [Act.put, List.setIfInBounds_toArray, List.set_cons_zero, List.set_cons_succ, i64_w, i32_w]
             rfl
            refine take_ (i := 2) (N := some 122) (v := ?_) (a' := ?_) #[true, false, true, true, true, true, true, false, false, false, false, false, false] rfl rfl (take_ofW HT_.out HW_.out (by kernel_rfl)) (fun _ _ _ h => h) (Or.inl ⟨by rfl, ?_⟩) hHeld ?_ ?_
            rotate_left
            ·rintro w' ⟨s0, s1, s2, s3⟩
             go_simp
             with_reducible rfl
            rotate_left
            ·simp only [Act.put, List.setIfInBounds_toArray, List.set_cons_zero, List.set_cons_succ, i64_w, i32_w]
             rfl
            refine take_ (i := 7) (N := some 127) (v := ?_) (a' := ?_) #[true, false, true, true, true, true, true, true, false, false, false, false, false] rfl rfl (take_ofW HT_.out HW_.out (by kernel_rfl)) (fun _ _ _ h => h) (Or.inl ⟨by rfl, ?_⟩) hHeld ?_ ?_
            rotate_left
            ·rintro w' ⟨s0, s1, s2, s3⟩
             go_simp
             with_reducible rfl
            rotate_left
            ·simp only [Act.put, List.setIfInBounds_toArray, List.set_cons_zero, List.set_cons_succ, i64_w, i32_w]
             rfl
            refine join_ (σ := Nat × Option Addr × Nat) 4 #[true, true, true, true, true, true, true, true, true, false, false, false, false] (fun s => [(121, .slice (some ⟨s.1, 0, none⟩) 0 0), (128, .slice s.2.1 pb.length s.2.2)]) (fun s w' => Kd.R (Kd.int .i64) 3 w' w5.heap.size (fun _ => True) (.slice (some ⟨s.1, 0, none⟩) 0 0) [] ∧ Kd.C (Kd.int .i64) w' s.2.1 pb.length pb ∧ pb.length ≤ s.2.2 ∧ Below w5.heap.size w5 w' ∧ w'.cell? ⟨j, 0, none⟩ = some (.int .i64 (v0.length : Int)) ∧ w'.cell? ⟨j, 1, none⟩ = some (.slice A5 l1.length c5) ∧ w'.cell? ⟨j, 2, none⟩ = some (.slice A7 tl.length c7) ∧ w'.cell? (ad.add b) = some (.slice Ab vb.length cb)) ?_ ?_
            rotate_left
            ·intro hCont
             refine two_ (i := 1) (j := 8) (Ni := some 121) (Nj := some 128) #[true, true, true, true, true, true, true, true, false, false, false, false, false] #[true, false, true, true, true, true, true, true, true, false, false, false, false] rfl rfl rfl rfl (two_of HT_.out (by kernel_rfl)) (by decide) (by decide) (fun K hK => ?_) (fun K hK => ?_)
             ·skip
              refine value_ (w1 := ?_) (v := ?_) (by rfl) rfl ?_ ?_
              rotate_left 2
              ·go_simp
               constructor
               ·rfl
               ·rfl
              have hBl := below_drew1 (below_alloc (Below.refl w5.heap.size w5) (Obj.cells #[] 3))
              have hE : Kd.R (Kd.int .i64) 3 ((w5.alloc (Obj.cells #[] 3)).drew) w5.heap.size (fun _ => True) (.slice (some ⟨w5.heap.size, 0, none⟩) 0 0) [] := Kd.R_drew (R_empty (Nat.le_refl _))
              generalize (w5.alloc (Obj.cells #[] 3)).drew = q1 at *
              refine hK.out _ _ ⟨(pw_cell_below hBl hj0z), (pw_cell_below hBl hj1z), (pw_cell_below hBl hj2z), (pw_cell_below hBl hxbz)⟩ (fun hHeld => ?_)
              clear hK K
              refine norm_ (a' := ?_) ?_ ?_
              rotate_left
              ·show Act.put _ (some 121) _ = _
               simp only [Act.put, List.setIfInBounds_toArray, List.set_cons_zero, List.set_cons_succ, i64_w, i32_w]
               rfl
              refine one_ (i := 8) (N := some 128) #[true, true, true, true, true, true, true, true, true, false, false, false, false] rfl rfl (one_of HT_.out (by kernel_rfl)) (by decide) (fun K hK => ?_)
              refine goes_ Try.func49 (by kernel_rfl) rfl #[.agg #[.int .i64 (v0.length : Int), .slice A5 l1.length c5, .slice A7 tl.length c7], .int .i64 (i : Int), .slice Ab vb.length cb] (by rfl) rfl rfl (by simp only [List.map_toArray, List.map_cons, List.map_nil]; rfl) ?_
              with_reducible refine (r8_Part.calls _ _ _ _ _ _ _ _ (fun _ => True) _ _ _ _ _ (Kd.C_below hcCz hBl) hcc (Kd.C_below hcWz hBl) hcw (Kd.V_mk hlb (Kd.F_mono (Kd.C_F (Kd.heap_int _) (Kd.C_below hrbz hBl)) (fun _ _ => trivial))) hpb).mono ?_
              rintro e w3 ⟨v3, rfl, hv, hb⟩
              refine ⟨_, rfl, ?_⟩
              obtain ⟨A4, c4, rfl⟩ := Kd.V_slice hv
              obtain ⟨_, hl4, hr4⟩ := Kd.V_reads' hv
              have hBl2 := below_step hBl hb
              replace hE := Kd.R_below hE hb
              clear hv hb hBl
              have hBl := hBl2
              clear hBl2
              generalize w3 = q2 at *
              refine hK.out _ _ ⟨(pw_cell_below hBl hj0z), (pw_cell_below hBl hj1z), (pw_cell_below hBl hj2z), (pw_cell_below hBl hxbz)⟩ (fun hHeld => ?_)
              clear hK K
              refine norm_ (a' := ?_) ?_ ?_
              rotate_left
              ·show Act.put _ (some 128) _ = _
               simp only [Act.put, List.setIfInBounds_toArray, List.set_cons_zero, List.set_cons_succ, i64_w, i32_w]
               rfl
              exact norm_ (by simp only [putAll, Act.put, List.setIfInBounds_toArray, List.set_cons_zero, List.set_cons_succ]) (hCont (w5.heap.size, A4, c4) _ ⟨hE, hr4, hl4, hBl, hHeld.1, hHeld.2.1, hHeld.2.2.1, hHeld.2.2.2⟩)
             ·skip
              refine goes_ Try.func49 (by kernel_rfl) rfl #[.agg #[.int .i64 (v0.length : Int), .slice A5 l1.length c5, .slice A7 tl.length c7], .int .i64 (i : Int), .slice Ab vb.length cb] (by rfl) rfl rfl (by simp only [List.map_toArray, List.map_cons, List.map_nil]; rfl) ?_
              with_reducible refine (r8_Part.calls _ _ _ _ _ _ _ _ (fun _ => True) _ _ _ _ _ (Kd.C_below hcCz (below_drew1 (Below.refl w5.heap.size w5))) hcc (Kd.C_below hcWz (below_drew1 (Below.refl w5.heap.size w5))) hcw (Kd.V_mk hlb (Kd.F_mono (Kd.C_F (Kd.heap_int _) (Kd.C_below hrbz (below_drew1 (Below.refl w5.heap.size w5)))) (fun _ _ => trivial))) hpb).mono ?_
              rintro e w3 ⟨v3, rfl, hv, hb⟩
              refine ⟨_, rfl, ?_⟩
              obtain ⟨A4, c4, rfl⟩ := Kd.V_slice hv
              obtain ⟨_, hl4, hr4⟩ := Kd.V_reads' hv
              have hBl := below_step (below_drew1 (Below.refl w5.heap.size w5)) hb
              clear hv hb
              generalize w3 = q1 at *
              refine hK.out _ _ ⟨(pw_cell_below hBl hj0z), (pw_cell_below hBl hj1z), (pw_cell_below hBl hj2z), (pw_cell_below hBl hxbz)⟩ (fun hHeld => ?_)
              clear hK K
              refine norm_ (a' := ?_) ?_ ?_
              rotate_left
              ·show Act.put _ (some 128) _ = _
               simp only [Act.put, List.setIfInBounds_toArray, List.set_cons_zero, List.set_cons_succ, i64_w, i32_w]
               rfl
              refine one_ (i := 1) (N := some 121) #[true, true, true, true, true, true, true, true, true, false, false, false, false] rfl rfl (one_of HT_.out (by kernel_rfl)) (by decide) (fun K hK => ?_)
              refine value_ (w1 := ?_) (v := ?_) (by rfl) rfl ?_ ?_
              rotate_left 2
              ·go_simp
               constructor
               ·rfl
               ·rfl
              have hBl2 := below_alloc hBl (Obj.cells #[] 3)
              have hE : Kd.R (Kd.int .i64) 3 (q1.alloc (Obj.cells #[] 3)) w5.heap.size (fun _ => True) (.slice (some ⟨q1.heap.size, 0, none⟩) 0 0) [] := R_empty hBl.size
              replace hr4 := Kd.C_alloc hr4 (Obj.cells #[] 3)
              generalize q1.alloc (Obj.cells #[] 3) = q2 at *
              clear hBl
              have hBl := hBl2
              clear hBl2
              refine hK.out _ _ ⟨(pw_cell_below hBl hj0z), (pw_cell_below hBl hj1z), (pw_cell_below hBl hj2z), (pw_cell_below hBl hxbz)⟩ (fun hHeld => ?_)
              clear hK K
              refine norm_ (a' := ?_) ?_ ?_
              rotate_left
              ·show Act.put _ (some 121) _ = _
               simp only [Act.put, List.setIfInBounds_toArray, List.set_cons_zero, List.set_cons_succ, i64_w, i32_w]
               rfl
              exact norm_ (by simp only [putAll, Act.put, List.setIfInBounds_toArray, List.set_cons_zero, List.set_cons_succ]) (hCont (q1.heap.size, A4, c4) _ ⟨hE, hr4, hl4, hBl, hHeld.1, hHeld.2.1, hHeld.2.2.1, hHeld.2.2.2⟩)
            rintro ⟨ge, A4, c4⟩ w5x ⟨hE, hr4, hl4, hBl, hHeld⟩
            dsimp only at hE hr4 hl4 ⊢
            refine norm_ (a' := ?_) ?_ ?_
            rotate_left
            ·simp only [putAll, Act.put, List.setIfInBounds_toArray, List.set_cons_zero, List.set_cons_succ]
             rfl
            refine one_ (i := 9) (N := some 129) #[true, true, true, true, true, true, true, true, true, true, false, false, false] rfl rfl (one_of HT_.out (by kernel_rfl)) (by decide) (fun K hK => ?_)
            refine Kd.R_append_rows_step (Kd.int .i64) (w0 := w5x) w5.heap.size (by rfl) (.tmp 121) (.tmp 128) 22 3 (.int .i64 0) 8 rfl Try.underlying22 info3 rfl (by decide) (by omega) (.slice (some ⟨ge, 0, none⟩) 0 0) [] pb _ _ _ (fun _ => True) (fun _ => False) rfl rfl hE hr4 (fun _ _ h => h) (fun _ h => h.elim) (fun _ _ => trivial) (Below.refl _ _) hBl.size (by have := hpv; simp; omega) ?_
            intro v1 w6 ho6 hb8 hg8 hat
            rw [List.nil_append] at ho6
            obtain ⟨A6, c6, rfl⟩ := Kd.R_slice ho6
            have hB6 := hBl.trans hb8
            clear hb8 hg8 hat hE hr4 hl4
            refine hK.out _ _ ⟨(pw_cell_below hB6 hj0z), (pw_cell_below hB6 hj1z), (pw_cell_below hB6 hj2z), (pw_cell_below hB6 hxbz)⟩ (fun hHeld => ?_)
            clear hK K
            refine norm_ (a' := ?_) ?_ ?_
            rotate_left
            ·show Act.put _ (some 129) _ = _
             simp only [Act.put, List.setIfInBounds_toArray, List.set_cons_zero, List.set_cons_succ, i64_w, i32_w]
             rfl
            refine one_ (i := 10) (N := some 130) #[true, true, true, true, true, true, true, true, true, true, true, false, false] rfl rfl (one_of HT_.out (by kernel_rfl)) (by decide) (fun K hK => ?_)
            refine value_ (w1 := ?_) (v := ?_) (by rfl) rfl ?_ ?_
            rotate_left 2
            ·go_simp
             constructor
             ·rfl
             ·rfl
            have hB7 := below_alloc hB6 (.cells #[.slice A6 pb.length c6] 22)
            have HP6 := Aside0.mk (Kd.M_row (Kd.R_mono (Kd.R_lower (Kd.R_bound ho6) (base' := wr.heap.size) hwz) (ok' := fun k => w5.heap.size ≤ k) (fun k hk => hk.2.1)))
            have HOK6 := Aside0.mk (show ∀ k, w5.heap.size ≤ k → True ∧ some k ≠ (Value.slice A12 out.length c12).ownBlock from fun k hk => ⟨trivial, fun e => by have := HOL.out k e.symm; omega⟩)
            have HO6 := Aside0.mk (Kd.S_mono (Kd.S_old hS5 hB6) (ok' := fun k => True ∧ ¬ w5.heap.size ≤ k) (fun k hk => ⟨trivial, by have := hk.2; omega⟩))
            have hM6 : wr.heap.size ≤ w6.heap.size := Nat.le_trans hwz hB6.size
            have HBR := Aside0.mk hB5
            refine hK.out _ _ ⟨(pw_cell_below hB7 hj0z), (pw_cell_below hB7 hj1z), (pw_cell_below hB7 hj2z), (pw_cell_below hB7 hxbz)⟩ (fun hHeld => ?_)
            clear hK K
            refine norm_ (a' := ?_) ?_ ?_
            rotate_left
            ·show Act.put _ (some 130) _ = _
             simp only [Act.put, List.setIfInBounds_toArray, List.set_cons_zero, List.set_cons_succ, i64_w, i32_w]
             rfl
            refine last_ (i := 11) (N := some 131) #[true, true, true, true, true, true, true, true, true, true, true, true, false] rfl rfl (one_of HT_.out (by kernel_rfl)) (by decide) (fun K hK => ?_)
            refine Kd.S_append_step (Kd.slice 3 (Kd.int .i64)) (w0 := w6) wr.heap.size (by rfl) (.tmp 120) (.tmp 130) 39 22 (.slice none 0 0) 24 rfl Try.underlying39 info22 rfl (by decide) (by omega) (.slice A12 out.length c12) out pb [.slice A6 pb.length c6] (fun _ => True) (fun k => w5.heap.size ≤ k) rfl rfl HP6.out HOK6.out (fun _ _ => trivial) HO6.out (Below.refl _ _) hM6 (by omega) ?_
            intro v1 w8 ho hb8 hg8 hat
            obtain ⟨A8, c8, rfl⟩ := Kd.S_slice ho
            have hB8 := (HBR.out.trans (hB6.mono hwz)).trans hb8
            have HS8 := Aside0.mk ho
            have HB8 := Aside0.mk hB8
            clear hb8 hg8 hat ho
            refine hK.out _ _ ?_
            clear hK K
            refine norm_ (a' := ?_) ?_ ?_
            rotate_left
            ·show Act.put _ (some 131) _ = _
             simp only [Act.put, List.setIfInBounds_toArray, List.set_cons_zero, List.set_cons_succ, i64_w, i32_w]
             rfl
            refine pure_ (i := 12) (N := some 12) (v := ?_) (a' := ?_) #[true, true, true, true, true, true, true, true, true, true, true, true, true] rfl rfl (any_of HT_.out (by kernel_rfl)) (fun _ _ _ h => h) (Or.inl ⟨by rfl, ?_⟩) ?_ ?_
            rotate_left
            ·intro w'
             go_simp
             with_reducible rfl
            rotate_left
            ·simp only [Act.put, List.setIfInBounds_toArray, List.set_cons_zero, List.set_cons_succ, i64_w, i32_w]
             rfl
            refine done_ (done_of HT_.out (by kernel_rfl)) ?_
            clear hHeld hcCz hcWz hrbz hj0z hj1z hj2z hxbz hpb hlb
            go_wp2
            go_roundg (n + 1)
            case measure => have := HK.out; omega
            case rel => exact ⟨n, out ++ [pb], ⟨rfl⟩, ⟨by have := HLN.out; simp; omega⟩, ⟨fun w hw => by
             rcases List.mem_append.1 hw with hw | hw
             ·exact HOG.out w hw
             ·rw [List.mem_singleton.1 hw]; exact HGB.out⟩, HRUN2, ⟨by have h := HS8.out; rw [show (out ++ [pb]).length = out.length + 1 by simp] at h; exact h⟩, HB8⟩
      ·obtain rfl : i = l1.length := by omega
       generalize hwl : (trainWords l0 l1 a2 ((List.finRange l1.length).take l1.length)).length = nw at *
       have HRW2 := HRW.out
       rw [List.take_of_length_le (by simp)] at HRW2
       have HRF := Aside0.mk HRW2
       have HNW := Aside0.mk hwl
       have hgc0 : wr.cell? ⟨j, 0, none⟩ = some (.int .i64 (v0.length : Int)) := (blk_cell HJ.out 0).trans rfl
       have hgc1 : wr.cell? ⟨j, 1, none⟩ = some (.slice A5 l1.length c5) := (blk_cell HJ.out 1).trans rfl
       have hgc2 : wr.cell? ⟨j, 2, none⟩ = some (.slice A7 nw c7) := (blk_cell HJ.out 2).trans rfl
       have hrc0 : wr.cell? ⟨w.heap.size, 0, none⟩ = some (.int .i64 0) := (blk_cell HG.out 0).trans rfl
       have hrc1 : wr.cell? ⟨w.heap.size, 1, none⟩ = some (.slice none 0 0) := (blk_cell HG.out 1).trans rfl
       have hrc2 : wr.cell? ⟨w.heap.size, 2, none⟩ = some (.slice none 0 0) := (blk_cell HG.out 2).trans rfl
       have hrc3 : wr.cell? ⟨w.heap.size, 3, none⟩ = some (.int .i64 0) := (blk_cell HG.out 3).trans rfl
       have hrf0 := blk_frozen HG.out 0
       have hrf1 := blk_frozen HG.out 1
       have hrf2 := blk_frozen HG.out 2
       have hrf3 := blk_frozen HG.out 3
       have hu25 := Try.underlying25
       have hu54 := Try.underlying54
       clear HRW2 hwl
       go_wp2
       exact bodyPost_ret (rtrain_ret rfl (rtrain_cells _ _ _ _ HG.out)) rfl ⟨_, _, rfl, rtrain_keep _ _ _ _ HRC.out HG.out (by decide), rtrain_keep _ _ _ _ HRF.out HG.out (by decide), rtrain_below _ _ _ _ HB.out (Nat.le_refl _)⟩
    ·have HC3 := Aside0.mk (HCUT.out false (decide_eq_false h3))
     have hr := HRES.out
     unfold trainRes at hr
     rw [if_neg (by have := HW.out; omega), if_neg h2, HV0.out, if_neg h3] at hr
     cases hr
     have hgc0 : wr.cell? ⟨w.heap.size, 0, none⟩ = some (.int .i64 0) := (blk_cell HG.out 0).trans rfl
     have hgc1 : wr.cell? ⟨w.heap.size, 1, none⟩ = some (.slice none 0 0) := (blk_cell HG.out 1).trans rfl
     have hgc2 : wr.cell? ⟨w.heap.size, 2, none⟩ = some (.slice none 0 0) := (blk_cell HG.out 2).trans rfl
     have hgc3 : wr.cell? ⟨w.heap.size, 3, none⟩ = some (.int .i64 0) := (blk_cell HG.out 3).trans rfl
     have hgf0 := blk_frozen HG.out 0
     have hgf1 := blk_frozen HG.out 1
     have hgf2 := blk_frozen HG.out 2
     have hgf3 := blk_frozen HG.out 3
     clear h3 HCUT
     go_wp2_with fail
     refine (HC3.out _ (Kd.C_below HR1.out HB.out)).mono ?_
     rintro e w1 ⟨rfl, hd⟩
     obtain ⟨n, rfl⟩ := hd.out
     clear hd
     go_wp2
     exact bodyPost_ret (rtrain_ret rfl (rtrain_cells _ _ _ _ (blk_drewN HG.out n))) rfl ⟨_, _, rfl, Kd.R_nil _ _ _ _ _, Kd.R_nil _ _ _ _ _, rtrain_below _ _ _ _ (pw_below_drewN HB.out n) (Nat.le_refl _)⟩
theorem r8_Train.calls (A0 : Option Addr) (c0 : Nat) (l0 : List (List Int)) (A1 : Option Addr) (c1 : Nat) (l1 : List Int) (a2 : Int) (r1 : Int) (r2 : List Int) (r3 : List (List (List Int))) (r4 : Int) (w : World) (hr0 : Kd.C (Kd.slice 3 (Kd.int .i64)) w A0 l0.length l0) (hc0 : l0.length ≤ c0) (hr1 : Kd.C (Kd.int .i64) w A1 l1.length l1) (hc1 : l1.length ≤ c1) (h : r8_Train.f l0 l1 a2 = some (r1, r2, r3, r4)) :
  Calls Try.prog 32 #[.slice A0 l0.length c0, .slice A1 l1.length c1, .int .i64 a2] w fun e w' => ∃ v1_ v2_ : Value, e = .returned (.agg #[.int .i64 r1, v1_, v2_, .int .i64 r4]) ∧ Kd.R (Kd.int .i64) 3 w' w.heap.size (fun _ => True) v1_ r2 ∧ Kd.R (Kd.slice 22 (Kd.slice 3 (Kd.int .i64))) 39 w' w.heap.size (fun k_ => some k_ ≠ (v1_ : Value).ownBlock) v2_ r3 ∧ Below w.heap.size w w' := by
 have hin : trainIn l0 l1 := by
  unfold r8_Train.f at h
  split at h
  ·assumption
  ·cases h
 have hres : trainRes l0 l1 a2 = (r1, r2, r3, r4) := by
  unfold r8_Train.f at h
  rw [if_pos hin] at h
  exact Option.some.inj h
 clear h
 by_cases h1 : a2 < 1
 ·unfold trainRes at hres
  rw [if_pos h1] at hres
  cases hres
  refine (r8_Train.small A0 c0 l0 A1 c1 l1 a2 w hin h1).mono ?_
  rintro e w' ⟨he, hb⟩
  exact ⟨_, _, he, Kd.R_nil _ _ _ _ _, Kd.R_nil _ _ _ _ _, hb⟩
 ·exact r8_Train.rest A0 c0 l0 A1 c1 l1 a2 r1 r2 r3 r4 w hr0 hc0 hr1 hc1 hin h1 hres
end
end Go.Proofs.Ytgpdfalopdhjlaa.Q
end
section
namespace Go.Proofs.Ytgpdfalopdhjlaa.Q
open Go.RowKit Go.Proofs.YtgpdfalopdhjlaaW.PrintWords Go.Proofs.YtgpdfalopdhjlaaW.PrintLast Go.Proofs.YtgpdfalopdhjlaaW.PrintMore
attribute [local go_sem] max2_int min2_int max_two min_two max_three min_three max_four min_four   -- for this text's walks alone
set_option linter.unusedVariables false
set_option linter.unusedSimpArgs false
def r8_Decode.l0 : Nat → List Int → List Int → Int → Int → List Int → List (List (List Int)) → Option (List Int × Int)
 | 0, _, _, _, _, _, _ => none
 | k + 1, x1, x5, x6, x294000, x294001, x294002 => if x6 < (x1.length : Int) then (if 0 ≤ x6 then (if (rd x1 x6) < 0 then (some (([] : List Int), 1)) else (if x6 < (x294002.length : Int) then (if (rd x1 x6) ≥ ((rd_L2 x294002 x6).length : Int) then (some (([] : List Int), 1)) else (if 0 ≤ (rd x1 x6) then (if (rd x1 x6) < ((rd_L2 x294002 x6).length : Int) then (if x5.length + (rd_L1 (rd_L2 x294002 x6) (rd x1 x6)).length < 17592186044416 then (r8_Decode.l0 k x1 (x5 ++ (rd_L1 (rd_L2 x294002 x6) (rd x1 x6))) (wrap64 (x6 + 1)) x294000 x294001 x294002) else (none)) else (none)) else (none))) else (none))) else (none)) else (some (x5, 0))
def r8_Decode.f (k : Nat) (a0_0 : Int) (l0_1 : List Int) (l0_2 : List (List (List Int))) (l1 : List Int) : Option (List Int × Int) := if (l1.length : Int) = (l0_1.length : Int) then (r8_Decode.l0 k l1 ([] : List Int) 0 a0_0 l0_1 l0_2) else (some (([] : List Int), 1))
def r8_Decode.T7 : Bool × List (List Nat × List Nat) := (true, [([], []), ([], []), ([0, 1], [0, 1]), ([2], [2]), ([3], [3]), ([4], [4]), ([5], [5]), ([5], [5]), ([6, 7, 5], [5, 6, 7]), ([8, 5], [5, 8]), ([5], [5]), ([10, 5], [5, 10]), ([5], [5]), ([11, 12, 5], [5, 11, 12]), ([13, 5], [5, 13]), ([14, 5], [5, 14]), ([9, 15, 5], [5, 9, 15]), ([5, 16], [5, 16])])
def r8_Decode.B7 : List Nat := [0, 0, 3, 7, 15, 31, 63, 63, 255, 511, 63, 1087, 63, 7231, 15423, 31807, 65535, 131071]
theorem r8_Decode.tab7 : rtab .any (opsOf Try.f16 7) = r8_Decode.T7 := by kernel_rfl
theorem r8_Decode.bits7 : waitsOk r8_Decode.T7.2 r8_Decode.B7 = true := by kernel_rfl
def r8_Decode.T9 : Bool × List (List Nat × List Nat) := (true, [([], []), ([], []), ([1], [1]), ([], []), ([2, 3], [2, 3]), ([4], [4]), ([], []), ([], []), ([6, 7], [6, 7]), ([8], [8]), ([5, 9], [5, 9]), ([10], [10]), ([0, 11], [0, 11]), ([12, 12, 0, 1, 2, 3, 4, 5, 6, 7, 8, 9, 10, 11, 12], [0, 12])])
def r8_Decode.B9 : List Nat := [0, 0, 2, 0, 14, 30, 0, 0, 192, 448, 1022, 2046, 4095, 8191]
theorem r8_Decode.tab9 : rtab .any (opsOf Try.f16 9) = r8_Decode.T9 := by kernel_rfl
theorem r8_Decode.bits9 : waitsOk r8_Decode.T9.2 r8_Decode.B9 = true := by kernel_rfl
set_option maxHeartbeats 8000000 in
set_option maxRecDepth 100000 in
theorem r8_Decode.calls (k : Nat) (a0_0 : Int) (A0_1 : Option Addr) (c0_1 : Nat) (l0_1 : List Int) (A0_2 : Option Addr) (c0_2 : Nat) (l0_2 : List (List (List Int))) (A1 : Option Addr) (c1 : Nat) (l1 : List Int) (r1 : List Int) (r2 : Int) (w : World) (hr0_1 : Kd.C (Kd.int .i64) w A0_1 l0_1.length l0_1) (hc0_1 : l0_1.length ≤ c0_1) (hr0_2 : Kd.C (Kd.slice 22 (Kd.slice 3 (Kd.int .i64))) w A0_2 l0_2.length l0_2) (hc0_2 : l0_2.length ≤ c0_2) (hr1 : Kd.C (Kd.int .i64) w A1 l1.length l1) (hc1 : l1.length ≤ c1) (h : r8_Decode.f k a0_0 l0_1 l0_2 l1 = some (r1, r2)) :
  Calls Try.prog 16 #[.agg #[.int .i64 a0_0, .slice A0_1 l0_1.length c0_1, .slice A0_2 l0_2.length c0_2], .slice A1 l1.length c1] w fun e w' => ∃ v0_ : Value, e = .returned (.agg #[v0_, .int .i64 r2]) ∧ Kd.R (Kd.int .i64) 3 w' w.heap.size (fun _ => True) v0_ r1 ∧ Below w.heap.size w w' := by
 have hu25 := Try.underlying25
 have hu34 := Try.underlying34
 have HR0_1 := Aside0.mk hr0_1
 have HC0_1 := Aside0.mk hc0_1
 clear hr0_1 hc0_1
 have HR0_2 := Aside0.mk hr0_2
 have HC0_2 := Aside0.mk hc0_2
 clear hr0_2 hc0_2
 have HR1 := Aside0.mk hr1
 have HC1 := Aside0.mk hc1
 clear hr1 hc1
 have HB := Aside0.mk (Below.refl w.heap.size w)
 have H : (if (l1.length : Int) = (l0_1.length : Int) then (r8_Decode.l0 k l1 ([] : List Int) 0 a0_0 l0_1 l0_2) else (some (([] : List Int), 1))) = some (r1, r2) := h
 clear h
 by_cases c3 : (l1.length : Int) = (l0_1.length : Int)
 ·rw [if_pos c3] at H
  have c3b0 : ((l1.length : Int) == (l0_1.length : Int)) = true := beq_iff_eq.mpr c3
  have c3b1 : ((l1.length : Int) != (l0_1.length : Int)) = false := bne_eq_false_iff_eq.mpr c3
  have c3b2 : (l1.length == l0_1.length) = true := by first | simpa using c3 | (simp at c3 ⊢; omega)
  clear c3
  have H' := Aside0.mk H
  clear H
  go_enter Try.func16, Try.ntmps16
  go_wp2_with (first | ((with_reducible refine gate_dst (N := 2) rfl ?_); (try (refine gate_guard (by rfl) ?_; dsimp only)); refine box_event ?hg (N := 2) ?hd (cs := #[.int .i64 a0_0, .slice A0_1 l0_1.length c0_1, .slice A0_2 l0_2.length c0_2]) (t := 25) ?hr ?_; (case hd => rfl); (case hg => rfl); (case hr => first | (go_simp; done) | (go_simp; rfl)); intro gb293 hg w4 hbox hb; have n0_ := Aside0.mk (below_step (by repeat (first | (with_reducible first | exact HB.out | apply below_alloc | apply pw_below_drewN | apply below_drew1) | exact HB.out)) hb); have n1_ := Aside0.mk (hbox); have n2_ := Aside0.mk ((by rw [hg]; exact (below_size (by repeat (first | (with_reducible first | exact HB.out | apply below_alloc | apply pw_below_drewN | apply below_drew1) | exact HB.out))) : w.heap.size ≤ gb293)); have n3_ := Aside0.mk ((by rw [hg]; exact (below_size (by repeat (first | (with_reducible first | exact HB.out | apply below_alloc | apply pw_below_drewN | apply below_drew1) | exact HB.out))) : w.heap.size ≤ gb293)); clear HB; have HB := n0_; have BK293 := n1_; have GW293 := n2_; have GE293 := n3_; clear n0_ n1_ n2_ n3_; clear hb hbox hg) | ((with_reducible refine gate_dst (N := 4) rfl ?_); (try (refine gate_guard (by rfl) ?_; dsimp only)); refine box_event ?hg (N := 4) ?hd (cs := #[.slice none 0 0, .int .i64 0]) (t := 34) ?hr ?_; (case hd => rfl); (case hg => rfl); (case hr => first | (go_simp; done) | (go_simp; rfl)); intro gb294 hg w5 hbox hb; have n0_ := Aside0.mk (blk_below (g := gb293) (o := .cells #[.int .i64 a0_0, .slice A0_1 l0_1.length c0_1, .slice A0_2 l0_2.length c0_2] 25 (0, 0)) (by (with_reducible repeat (first | refine blk_drewN ?_ _ | refine blk_drew ?_ | refine blk_alloc ?_ _)); exact BK293.out) hb); have n1_ := Aside0.mk (below_step (by repeat (first | (with_reducible first | exact HB.out | apply below_alloc | apply pw_below_drewN | apply below_drew1 | refine below_set ?_ GE293.out) | exact HB.out)) hb); have n2_ := Aside0.mk (hbox); have n3_ := Aside0.mk ((by rw [hg]; exact (below_size (by repeat (first | (with_reducible first | exact HB.out | apply below_alloc | apply pw_below_drewN | apply below_drew1 | refine below_set ?_ GE293.out) | exact HB.out))) : w.heap.size ≤ gb294)); have n4_ := Aside0.mk ((by rw [hg]; exact (below_size (by repeat (first | (with_reducible first | exact HB.out | apply below_alloc | apply pw_below_drewN | apply below_drew1 | refine below_set ?_ GE293.out) | exact HB.out))) : w.heap.size ≤ gb294)); have n5_ := Aside0.mk ((by rw [hg]; exact Nat.ne_of_lt (blk_lt (g := gb293) (o := .cells #[.int .i64 a0_0, .slice A0_1 l0_1.length c0_1, .slice A0_2 l0_2.length c0_2] 25 (0, 0)) (by (with_reducible repeat (first | refine blk_drewN ?_ _ | refine blk_drew ?_ | refine blk_alloc ?_ _)); exact BK293.out)) : gb293 ≠ gb294)); have n6_ := Aside0.mk ((by rw [hg]; exact Nat.ne_of_gt (blk_lt (g := gb293) (o := .cells #[.int .i64 a0_0, .slice A0_1 l0_1.length c0_1, .slice A0_2 l0_2.length c0_2] 25 (0, 0)) (by (with_reducible repeat (first | refine blk_drewN ?_ _ | refine blk_drew ?_ | refine blk_alloc ?_ _)); exact BK293.out)) : gb294 ≠ gb293)); clear BK293; clear HB; have BK293 := n0_; have HB := n1_; have BK294 := n2_; have GW294 := n3_; have GE294 := n4_; have NB293_294 := n5_; have NB294_293 := n6_; clear n0_ n1_ n2_ n3_ n4_ n5_ n6_; clear hb hbox hg; have hnb6 := NB293_294.out; have hnc6 := NB294_293.out; have hcz7_0 : w5.cell? ⟨gb293, 0, none⟩ = some (.int .i64 a0_0) := (blk_cell BK293.out 0).trans rfl; have hcz7_1 : w5.cell? ⟨gb293, 1, none⟩ = some (.slice A0_1 l0_1.length c0_1) := (blk_cell BK293.out 1).trans rfl; have hcz7_2 : w5.cell? ⟨gb293, 2, none⟩ = some (.slice A0_2 l0_2.length c0_2) := (blk_cell BK293.out 2).trans rfl; have hfz7_0 := blk_frozen BK293.out 0; have hfz7_1 := blk_frozen BK293.out 1; have hfz7_2 := blk_frozen BK293.out 2))
  go_loopg [5, 6] k (fun kq v5 v6 w' => ∃ (x5_1 : List Int) (x6_1 : Int) (x295001_1 : Int), v6 = .int .i64 x6_1 ∧ Aside0 (r8_Decode.l0 kq l1 x5_1 x6_1 a0_0 l0_1 l0_2 = some (r1, r2)) ∧ Aside0 (kq ≤ k) ∧ Aside0 (Kd.R (Kd.int .i64) 3 w' w.heap.size (fun _ => True) v5 x5_1) ∧ Aside0 (w'.heap[gb293]? = some (.cells #[.int .i64 a0_0, (.slice A0_1 l0_1.length c0_1), (.slice A0_2 l0_2.length c0_2)] 25 (0, 0))) ∧ Aside0 (w'.heap[gb294]? = some (.cells #[(.slice none 0 0), .int .i64 x295001_1] 34 (0, 0))) ∧ Aside0 (Below w.heap.size w w'))
  case atStart => exact ⟨(([] : List Int)), (0), (0), (by first | rfl | (simp; done) | (simp [*]; done)), H', ⟨Nat.le_refl _⟩, ⟨by first | exact Kd.R_nil _ _ _ _ _ | exact Kd.N_nil _ _ _ _ _ | exact Kd.V_nil _ _ _ _ _ | exact Kd.Q_nil _ _ _ _ _ | exact Kd.S_nil _ _ _ _ _⟩, ⟨by (with_reducible repeat (first | refine blk_drewN ?_ _ | refine blk_drew ?_ | refine blk_alloc ?_ _)); exact BK293.out⟩, ⟨by (with_reducible repeat (first | refine blk_drewN ?_ _ | refine blk_drew ?_ | refine blk_alloc ?_ _)); exact BK294.out⟩, ⟨by repeat (first | (with_reducible first | exact HB.out | apply below_alloc | apply pw_below_drewN | apply below_drew1 | refine below_set ?_ GE293.out | refine below_set ?_ GE294.out) | exact HB.out)⟩⟩
  case round =>
   clear H'
   try clear c1
   try clear p2
   try clear c3
   try clear c3b0
   try clear c3b1
   try clear c3b2
   try clear c6
   try clear hcz7_0
   try clear hcz7_1
   try clear hcz7_2
   try clear hfz7_0
   try clear hfz7_1
   try clear hfz7_2
   obtain ⟨x5_1, x6_1, x295001_1, rfl, HA, HK1, HO_5, BK293, BK294, HB⟩ := hrel
   cases gk with
   | zero => exact absurd HA.out (by simp [r8_Decode.l0])
   | succ k1 =>
    have H := HA.out
    clear HA
    simp only [r8_Decode.l0] at H
    by_cases c8 : x6_1 < (l1.length : Int)
    ·rw [if_pos c8] at H
     have c8b0 : decide (x6_1 < (l1.length : Int)) = true := decide_eq_true c8
     clear c8
     by_cases c9 : 0 ≤ x6_1
     ·rw [if_pos c9] at H
      have c9b0 : decide (0 ≤ x6_1) = true := decide_eq_true c9
      clear c9
      by_cases c10 : (rd l1 x6_1) < 0
      ·rw [if_pos c10] at H
       have c10b0 : decide ((rd l1 x6_1) < 0) = true := decide_eq_true c10
       clear c10
       simp only [Option.some.injEq, Prod.mk.injEq] at H
       obtain ⟨rfl, rfl⟩ := H
       try go_wp2
       have n0_ := Aside0.mk (Kd.R_drew HO_5.out)
       have n1_ := Aside0.mk (blk_drew BK293.out)
       have n2_ := Aside0.mk (blk_drew BK294.out)
       have n3_ := Aside0.mk (below_drew1 HB.out)
       clear HO_5
       clear BK293
       clear BK294
       clear HB
       have HO_5 := n0_
       have BK293 := n1_
       have BK294 := n2_
       have HB := n3_
       clear n0_ n1_ n2_ n3_
       have p295 : 0 ≤ (x6_1 : Int) := of_decide_eq_true (by first | (with_reducible assumption) | assumption)
       have q295 : x6_1 < (l1.length : Int) := of_decide_eq_true (by first | (with_reducible assumption) | assumption)
       obtain ⟨ad295, e295, hx295_0⟩ := Kd.at_int HR1.out x6_1 p295 q295
       have hw295_0 := hx295_0
       cases e295
       replace hx295_0 := (HB.out.cell (World.block_lt_of_cell? w _ hx295_0)).trans hx295_0
       replace p295 := eq_true p295
       replace q295 := eq_true q295
       refine start_ (n := 18) (S := fun w' => w'.cell? (ad295.add (x6_1).toNat) = some (.int .i64 (rd l1 x6_1))) (ds := []) #[false, false, false, false, false, false, false, false, false, false, false, false, false, false, false, false, false, false] (by kernel_rfl) rfl rfl (((HB.out.cell (World.block_lt_of_cell? w _ hw295_0)).trans hw295_0)) (fun hHeld => ?_); refine with_tabW r8_Decode.tab7 r8_Decode.bits7 (fun HT_ HW_ => ?_)
       generalize wr.drew = w11 at HO_5 BK293 BK294 HB hx295_0 hHeld ⊢
       refine pure_ (i := 0) (N := some 20) (v := ?_) (a' := ?_) #[true, false, false, false, false, false, false, false, false, false, false, false, false, false, false, false, false, false] rfl rfl (any_of HT_.out (by kernel_rfl)) (fun _ _ _ h => h) (Or.inl ⟨by rfl, ?_⟩) ?_ ?_
       rotate_left
       ·intro w'
        go_simp
        with_reducible rfl
       rotate_left
       ·simp only [Act.put, List.setIfInBounds_toArray, List.set_cons_zero, List.set_cons_succ, i64_w, i32_w]
        rfl
       refine pure_ (i := 1) (N := some 21) (v := ?_) (a' := ?_) #[true, true, false, false, false, false, false, false, false, false, false, false, false, false, false, false, false, false] rfl rfl (any_of HT_.out (by kernel_rfl)) (fun _ _ _ h => h) (Or.inl ⟨by rfl, ?_⟩) ?_ ?_
       rotate_left
       ·intro w'
        go_simp
        with_reducible rfl
       rotate_left
       ·simp only [Act.put, List.setIfInBounds_toArray, List.set_cons_zero, List.set_cons_succ, i64_w, i32_w]
        rfl
       refine pure_ (i := 2) (N := some 22) (v := ?_) (a' := ?_) #[true, true, true, false, false, false, false, false, false, false, false, false, false, false, false, false, false, false] rfl rfl (any_of HT_.out (by kernel_rfl)) (fun _ _ _ h => h) (Or.inl ⟨by rfl, ?_⟩) ?_ ?_
       rotate_left
       ·intro w'
        go_simp
        with_reducible rfl
       rotate_left
       ·simp only [Act.put, List.setIfInBounds_toArray, List.set_cons_zero, List.set_cons_succ, i64_w, i32_w]
        rfl
       refine take_ (i := 3) (N := some 23) (v := ?_) (a' := ?_) #[true, true, true, true, false, false, false, false, false, false, false, false, false, false, false, false, false, false] rfl rfl (take_ofW HT_.out HW_.out (by kernel_rfl)) (fun _ _ _ h => h) (Or.inl ⟨by rfl, ?_⟩) hHeld ?_ ?_
       rotate_left
       ·intro w' s0
        go_simp
        with_reducible rfl
       rotate_left
       ·simp only [Act.put, List.setIfInBounds_toArray, List.set_cons_zero, List.set_cons_succ, i64_w, i32_w]
        rfl
       refine pure_ (i := 4) (N := some 24) (v := ?_) (a' := ?_) #[true, true, true, true, true, false, false, false, false, false, false, false, false, false, false, false, false, false] rfl rfl (any_of HT_.out (by kernel_rfl)) (fun _ _ _ h => h) (Or.inl ⟨by rfl, ?_⟩) ?_ ?_
       rotate_left
       ·intro w'
        go_simp
        with_reducible rfl
       rotate_left
       ·simp only [Act.put, List.setIfInBounds_toArray, List.set_cons_zero, List.set_cons_succ, i64_w, i32_w]
        rfl
       refine pure_ (i := 5) (N := some 25) (v := ?_) (a' := ?_) #[true, true, true, true, true, true, false, false, false, false, false, false, false, false, false, false, false, false] rfl rfl (any_of HT_.out (by kernel_rfl)) (fun _ _ _ h => h) (Or.inl ⟨by rfl, ?_⟩) ?_ ?_
       rotate_left
       ·intro w'
        go_simp
        with_reducible rfl
       rotate_left
       ·simp only [Act.put, List.setIfInBounds_toArray, List.set_cons_zero, List.set_cons_succ, i64_w, i32_w]
        rfl
       refine pure_ (i := 6) (N := some 26) (v := undef) (a' := ?_) #[true, true, true, true, true, true, true, false, false, false, false, false, false, false, false, false, false, false] rfl rfl (any_of HT_.out (by kernel_rfl)) (fun _ _ _ h => h) (Or.inr ⟨by rfl, rfl⟩) ?_ ?_
       rotate_left
       ·simp only [Act.put, List.setIfInBounds_toArray, List.set_cons_zero, List.set_cons_succ, i64_w, i32_w]
        rfl
       refine pure_ (i := 7) (N := some 27) (v := undef) (a' := ?_) #[true, true, true, true, true, true, true, true, false, false, false, false, false, false, false, false, false, false] rfl rfl (any_of HT_.out (by kernel_rfl)) (fun _ _ _ h => h) (Or.inr ⟨by rfl, rfl⟩) ?_ ?_
       rotate_left
       ·simp only [Act.put, List.setIfInBounds_toArray, List.set_cons_zero, List.set_cons_succ, i64_w, i32_w]
        rfl
       refine pure_ (i := 8) (N := some 28) (v := undef) (a' := ?_) #[true, true, true, true, true, true, true, true, true, false, false, false, false, false, false, false, false, false] rfl rfl (any_of HT_.out (by kernel_rfl)) (fun _ _ _ h => h) (Or.inr ⟨by rfl, rfl⟩) ?_ ?_
       rotate_left
       ·simp only [Act.put, List.setIfInBounds_toArray, List.set_cons_zero, List.set_cons_succ, i64_w, i32_w]
        rfl
       refine pure_ (i := 9) (N := some 29) (v := undef) (a' := ?_) #[true, true, true, true, true, true, true, true, true, true, false, false, false, false, false, false, false, false] rfl rfl (any_of HT_.out (by kernel_rfl)) (fun _ _ _ h => h) (Or.inr ⟨by rfl, rfl⟩) ?_ ?_
       rotate_left
       ·simp only [Act.put, List.setIfInBounds_toArray, List.set_cons_zero, List.set_cons_succ, i64_w, i32_w]
        rfl
       refine pure_ (i := 10) (N := some 30) (v := undef) (a' := ?_) #[true, true, true, true, true, true, true, true, true, true, true, false, false, false, false, false, false, false] rfl rfl (any_of HT_.out (by kernel_rfl)) (fun _ _ _ h => h) (Or.inr ⟨by rfl, rfl⟩) ?_ ?_
       rotate_left
       ·simp only [Act.put, List.setIfInBounds_toArray, List.set_cons_zero, List.set_cons_succ, i64_w, i32_w]
        rfl
       refine pure_ (i := 11) (N := some 31) (v := undef) (a' := ?_) #[true, true, true, true, true, true, true, true, true, true, true, true, false, false, false, false, false, false] rfl rfl (any_of HT_.out (by kernel_rfl)) (fun _ _ _ h => h) (Or.inr ⟨by rfl, rfl⟩) ?_ ?_
       rotate_left
       ·simp only [Act.put, List.setIfInBounds_toArray, List.set_cons_zero, List.set_cons_succ, i64_w, i32_w]
        rfl
       refine pure_ (i := 12) (N := some 32) (v := undef) (a' := ?_) #[true, true, true, true, true, true, true, true, true, true, true, true, true, false, false, false, false, false] rfl rfl (any_of HT_.out (by kernel_rfl)) (fun _ _ _ h => h) (Or.inr ⟨by rfl, rfl⟩) ?_ ?_
       rotate_left
       ·simp only [Act.put, List.setIfInBounds_toArray, List.set_cons_zero, List.set_cons_succ, i64_w, i32_w]
        rfl
       refine pure_ (i := 13) (N := some 33) (v := undef) (a' := ?_) #[true, true, true, true, true, true, true, true, true, true, true, true, true, true, false, false, false, false] rfl rfl (any_of HT_.out (by kernel_rfl)) (fun _ _ _ h => h) (Or.inr ⟨by rfl, rfl⟩) ?_ ?_
       rotate_left
       ·simp only [Act.put, List.setIfInBounds_toArray, List.set_cons_zero, List.set_cons_succ, i64_w, i32_w]
        rfl
       refine pure_ (i := 14) (N := some 34) (v := undef) (a' := ?_) #[true, true, true, true, true, true, true, true, true, true, true, true, true, true, true, false, false, false] rfl rfl (any_of HT_.out (by kernel_rfl)) (fun _ _ _ h => h) (Or.inr ⟨by rfl, rfl⟩) ?_ ?_
       rotate_left
       ·simp only [Act.put, List.setIfInBounds_toArray, List.set_cons_zero, List.set_cons_succ, i64_w, i32_w]
        rfl
       refine pure_ (i := 15) (N := some 35) (v := undef) (a' := ?_) #[true, true, true, true, true, true, true, true, true, true, true, true, true, true, true, true, false, false] rfl rfl (any_of HT_.out (by kernel_rfl)) (fun _ _ _ h => h) (Or.inr ⟨by rfl, rfl⟩) ?_ ?_
       rotate_left
       ·simp only [Act.put, List.setIfInBounds_toArray, List.set_cons_zero, List.set_cons_succ, i64_w, i32_w]
        rfl
       refine pure_ (i := 16) (N := some 36) (v := undef) (a' := ?_) #[true, true, true, true, true, true, true, true, true, true, true, true, true, true, true, true, true, false] rfl rfl (any_of HT_.out (by kernel_rfl)) (fun _ _ _ h => h) (Or.inr ⟨by rfl, rfl⟩) ?_ ?_
       rotate_left
       ·simp only [Act.put, List.setIfInBounds_toArray, List.set_cons_zero, List.set_cons_succ, i64_w, i32_w]
        rfl
       refine pure_ (i := 17) (N := some 37) (v := ?_) (a' := ?_) #[true, true, true, true, true, true, true, true, true, true, true, true, true, true, true, true, true, true] rfl rfl (any_of HT_.out (by kernel_rfl)) (fun _ _ _ h => h) (Or.inl ⟨by rfl, ?_⟩) ?_ ?_
       rotate_left
       ·intro w'
        go_simp
        with_reducible rfl
       rotate_left
       ·simp only [Act.put, List.setIfInBounds_toArray, List.set_cons_zero, List.set_cons_succ, i64_w, i32_w]
        rfl
       refine done_ (done_of HT_.out (by kernel_rfl)) ?_
       have hnb12 := NB294_293.out
       have hnc12 := NB293_294.out
       have hcz13_0 : w11.cell? ⟨gb294, 0, none⟩ = some (.slice none 0 0) := (blk_cell BK294.out 0).trans rfl
       have hcz13_1 : w11.cell? ⟨gb294, 1, none⟩ = some (.int .i64 x295001_1) := (blk_cell BK294.out 1).trans rfl
       have hfz13_0 := blk_frozen BK294.out 0
       have hfz13_1 := blk_frozen BK294.out 1
       try go_wp2
       refine bodyPost_ret (results_cell_row rfl _ _ gb294 34 #[.slice none 0 0, .int .i64 1] (0, 0) _ rfl (by (with_reducible repeat (first | refine blk_drewN ?_ _ | refine blk_drew ?_ | refine blk_alloc ?_ _)); refine blk_put (cs := #[.slice none 0 0, .int .i64 x295001_1]) ?_ 1 _ rfl; (with_reducible repeat (first | refine blk_drewN ?_ _ | refine blk_drew ?_ | refine blk_alloc ?_ _)); refine blk_put (cs := #[.slice none 0 0, .int .i64 x295001_1]) ?_ 0 _ rfl; (with_reducible repeat (first | refine blk_drewN ?_ _ | refine blk_drew ?_ | refine blk_alloc ?_ _)); exact BK294.out) Try.underlying34 rfl (by kernel_rfl)) rfl ?_
       exact ⟨_, by first | rfl | (simp [errW_none, errW_some] <;> rfl) | (simp [*, errW_none, errW_some] <;> rfl), by first | exact Kd.R_nil _ _ _ _ _ | exact Kd.N_nil _ _ _ _ _ | exact Kd.V_nil _ _ _ _ _ | exact Kd.Q_nil _ _ _ _ _ | exact Kd.S_nil _ _ _ _ _, by repeat (first | (with_reducible first | exact HB.out | apply below_alloc | apply pw_below_drewN | apply below_drew1 | refine below_set ?_ GE293.out | refine below_set ?_ GE294.out) | exact HB.out)⟩
      ·rw [if_neg c10] at H
       have c10b0 : decide ((rd l1 x6_1) < 0) = false := decide_eq_false c10
       clear c10
       by_cases c14 : x6_1 < (l0_2.length : Int)
       ·rw [if_pos c14] at H
        have c14b0 : decide (x6_1 < (l0_2.length : Int)) = true := decide_eq_true c14
        clear c14
        by_cases c15 : (rd l1 x6_1) ≥ ((rd_L2 l0_2 x6_1).length : Int)
        ·rw [if_pos c15] at H
         have c15b0 : decide (((rd_L2 l0_2 x6_1).length : Int) ≤ (rd l1 x6_1)) = true := decide_eq_true c15
         clear c15
         simp only [Option.some.injEq, Prod.mk.injEq] at H
         obtain ⟨rfl, rfl⟩ := H
         try go_wp2
         have n0_ := Aside0.mk (Kd.R_drew HO_5.out)
         have n1_ := Aside0.mk (blk_drew BK293.out)
         have n2_ := Aside0.mk (blk_drew BK294.out)
         have n3_ := Aside0.mk (below_drew1 HB.out)
         clear HO_5
         clear BK293
         clear BK294
         clear HB
         have HO_5 := n0_
         have BK293 := n1_
         have BK294 := n2_
         have HB := n3_
         clear n0_ n1_ n2_ n3_
         have p295 : 0 ≤ (x6_1 : Int) := of_decide_eq_true (by first | (with_reducible assumption) | assumption)
         have q295 : x6_1 < (l1.length : Int) := of_decide_eq_true (by first | (with_reducible assumption) | assumption)
         obtain ⟨ad295, e295, hx295_0⟩ := Kd.at_int HR1.out x6_1 p295 q295
         have hw295_0 := hx295_0
         cases e295
         replace hx295_0 := (HB.out.cell (World.block_lt_of_cell? w _ hx295_0)).trans hx295_0
         replace p295 := eq_true p295
         replace q295 := eq_true q295
         have p296 : 0 ≤ (x6_1 : Int) := of_decide_eq_true (by first | (with_reducible assumption) | assumption)
         have q296 : x6_1 < (l1.length : Int) := of_decide_eq_true (by first | (with_reducible assumption) | assumption)
         obtain ⟨ad296, e296, hx296_0⟩ := Kd.at_int HR1.out x6_1 p296 q296
         have hw296_0 := hx296_0
         obtain rfl : ad295 = ad296 := (by injection e296)
         replace hx296_0 := (HB.out.cell (World.block_lt_of_cell? w _ hx296_0)).trans hx296_0
         replace p296 := eq_true p296
         replace q296 := eq_true q296
         have p297 : 0 ≤ (x6_1 : Int) := of_decide_eq_true (by first | (with_reducible assumption) | assumption)
         have q297 : x6_1 < (l0_2.length : Int) := of_decide_eq_true (by first | (with_reducible assumption) | assumption)
         obtain ⟨ad297, A297_0, c297_0, e297, hx297_0, hl297_0, hi297_0⟩ := at_L2 HR0_2.out x6_1 p297 q297
         have hw297_0 := hx297_0
         cases e297
         replace hx297_0 := (HB.out.cell (World.block_lt_of_cell? w _ hx297_0)).trans hx297_0
         have HR297_0 := Aside0.mk hi297_0
         have HC297_0 := Aside0.mk hl297_0
         clear hi297_0 hl297_0
         replace p297 := eq_true p297
         replace q297 := eq_true q297
         refine start_ (n := 18) (S := fun w' => w'.cell? ⟨gb293, 0, none⟩ = some (.int .i64 a0_0) ∧ w'.cell? ⟨gb293, 1, none⟩ = some (.slice A0_1 l0_1.length c0_1) ∧ w'.cell? ⟨gb293, 2, none⟩ = some (.slice (some ad297) l0_2.length c0_2) ∧ w'.cell? (ad295.add (x6_1).toNat) = some (.int .i64 (rd l1 x6_1)) ∧ w'.cell? (ad295.add (x6_1).toNat) = some (.int .i64 (rd l1 x6_1)) ∧ w'.cell? (ad297.add (x6_1).toNat) = some (.slice A297_0 (rd_L2 l0_2 x6_1).length c297_0)) (ds := []) #[false, false, false, false, false, false, false, false, false, false, false, false, false, false, false, false, false, false] (by kernel_rfl) rfl rfl ⟨(blk_cell BK293.out 0).trans rfl, (blk_cell BK293.out 1).trans rfl, (blk_cell BK293.out 2).trans rfl, ((HB.out.cell (World.block_lt_of_cell? w _ hw295_0)).trans hw295_0), ((HB.out.cell (World.block_lt_of_cell? w _ hw296_0)).trans hw296_0), ((HB.out.cell (World.block_lt_of_cell? w _ hw297_0)).trans hw297_0)⟩ (fun hHeld => ?_); refine with_tabW r8_Decode.tab7 r8_Decode.bits7 (fun HT_ HW_ => ?_)
         generalize wr.drew = w16 at HO_5 BK293 BK294 HB HR297_0 hx295_0 hx296_0 hx297_0 hHeld ⊢
         refine pure_ (i := 0) (N := some 20) (v := ?_) (a' := ?_) #[true, false, false, false, false, false, false, false, false, false, false, false, false, false, false, false, false, false] rfl rfl (any_of HT_.out (by kernel_rfl)) (fun _ _ _ h => h) (Or.inl ⟨by rfl, ?_⟩) ?_ ?_
         rotate_left
         ·intro w'
          go_simp
          with_reducible rfl
         rotate_left
         ·simp only [Act.put, List.setIfInBounds_toArray, List.set_cons_zero, List.set_cons_succ, i64_w, i32_w]
          rfl
         refine pure_ (i := 1) (N := some 21) (v := ?_) (a' := ?_) #[true, true, false, false, false, false, false, false, false, false, false, false, false, false, false, false, false, false] rfl rfl (any_of HT_.out (by kernel_rfl)) (fun _ _ _ h => h) (Or.inl ⟨by rfl, ?_⟩) ?_ ?_
         rotate_left
         ·intro w'
          go_simp
          with_reducible rfl
         rotate_left
         ·simp only [Act.put, List.setIfInBounds_toArray, List.set_cons_zero, List.set_cons_succ, i64_w, i32_w]
          rfl
         refine pure_ (i := 2) (N := some 22) (v := ?_) (a' := ?_) #[true, true, true, false, false, false, false, false, false, false, false, false, false, false, false, false, false, false] rfl rfl (any_of HT_.out (by kernel_rfl)) (fun _ _ _ h => h) (Or.inl ⟨by rfl, ?_⟩) ?_ ?_
         rotate_left
         ·intro w'
          go_simp
          with_reducible rfl
         rotate_left
         ·simp only [Act.put, List.setIfInBounds_toArray, List.set_cons_zero, List.set_cons_succ, i64_w, i32_w]
          rfl
         refine take_ (i := 3) (N := some 23) (v := ?_) (a' := ?_) #[true, true, true, true, false, false, false, false, false, false, false, false, false, false, false, false, false, false] rfl rfl (take_ofW HT_.out HW_.out (by kernel_rfl)) (fun _ _ _ h => h) (Or.inl ⟨by rfl, ?_⟩) hHeld ?_ ?_
         rotate_left
         ·rintro w' ⟨s0, s1, s2, s3, s4, s5⟩
          go_simp
          with_reducible rfl
         rotate_left
         ·simp only [Act.put, List.setIfInBounds_toArray, List.set_cons_zero, List.set_cons_succ, i64_w, i32_w]
          rfl
         refine pure_ (i := 4) (N := some 24) (v := ?_) (a' := ?_) #[true, true, true, true, true, false, false, false, false, false, false, false, false, false, false, false, false, false] rfl rfl (any_of HT_.out (by kernel_rfl)) (fun _ _ _ h => h) (Or.inl ⟨by rfl, ?_⟩) ?_ ?_
         rotate_left
         ·intro w'
          go_simp
          with_reducible rfl
         rotate_left
         ·simp only [Act.put, List.setIfInBounds_toArray, List.set_cons_zero, List.set_cons_succ, i64_w, i32_w]
          rfl
         refine pure_ (i := 5) (N := some 25) (v := ?_) (a' := ?_) #[true, true, true, true, true, true, false, false, false, false, false, false, false, false, false, false, false, false] rfl rfl (any_of HT_.out (by kernel_rfl)) (fun _ _ _ h => h) (Or.inl ⟨by rfl, ?_⟩) ?_ ?_
         rotate_left
         ·intro w'
          go_simp
          with_reducible rfl
         rotate_left
         ·simp only [Act.put, List.setIfInBounds_toArray, List.set_cons_zero, List.set_cons_succ, i64_w, i32_w]
          rfl
         refine pure_ (i := 6) (N := some 26) (v := ?_) (a' := ?_) #[true, true, true, true, true, true, true, false, false, false, false, false, false, false, false, false, false, false] rfl rfl (any_of HT_.out (by kernel_rfl)) (fun _ _ _ h => h) (Or.inl ⟨by rfl, ?_⟩) ?_ ?_
         rotate_left
         ·intro w'
          go_simp
          with_reducible rfl
         rotate_left
         ·simp only [Act.put, List.setIfInBounds_toArray, List.set_cons_zero, List.set_cons_succ, i64_w, i32_w]
          rfl
         refine pure_ (i := 7) (N := some 27) (v := ?_) (a' := ?_) #[true, true, true, true, true, true, true, true, false, false, false, false, false, false, false, false, false, false] rfl rfl (any_of HT_.out (by kernel_rfl)) (fun _ _ _ h => h) (Or.inl ⟨by rfl, ?_⟩) ?_ ?_
         rotate_left
         ·intro w'
          go_simp
          with_reducible rfl
         rotate_left
         ·simp only [Act.put, List.setIfInBounds_toArray, List.set_cons_zero, List.set_cons_succ, i64_w, i32_w]
          rfl
         refine pure_ (i := 8) (N := some 28) (v := ?_) (a' := ?_) #[true, true, true, true, true, true, true, true, true, false, false, false, false, false, false, false, false, false] rfl rfl (any_of HT_.out (by kernel_rfl)) (fun _ _ _ h => h) (Or.inl ⟨by rfl, ?_⟩) ?_ ?_
         rotate_left
         ·intro w'
          go_simp
          with_reducible rfl
         rotate_left
         ·simp only [Act.put, List.setIfInBounds_toArray, List.set_cons_zero, List.set_cons_succ, i64_w, i32_w]
          rfl
         refine pure_ (i := 10) (N := some 30) (v := ?_) (a' := ?_) #[true, true, true, true, true, true, true, true, true, false, true, false, false, false, false, false, false, false] rfl rfl (any_of HT_.out (by kernel_rfl)) (fun _ _ _ h => h) (Or.inl ⟨by rfl, ?_⟩) ?_ ?_
         rotate_left
         ·intro w'
          go_simp
          with_reducible rfl
         rotate_left
         ·simp only [Act.put, List.setIfInBounds_toArray, List.set_cons_zero, List.set_cons_succ, i64_w, i32_w]
          rfl
         refine pure_ (i := 12) (N := some 32) (v := ?_) (a' := ?_) #[true, true, true, true, true, true, true, true, true, false, true, false, true, false, false, false, false, false] rfl rfl (any_of HT_.out (by kernel_rfl)) (fun _ _ _ h => h) (Or.inl ⟨by rfl, ?_⟩) ?_ ?_
         rotate_left
         ·intro w'
          go_simp
          with_reducible rfl
         rotate_left
         ·simp only [Act.put, List.setIfInBounds_toArray, List.set_cons_zero, List.set_cons_succ, i64_w, i32_w]
          rfl
         refine take_ (i := 9) (N := some 29) (v := ?_) (a' := ?_) #[true, true, true, true, true, true, true, true, true, true, true, false, true, false, false, false, false, false] rfl rfl (take_ofW HT_.out HW_.out (by kernel_rfl)) (fun _ _ _ h => h) (Or.inl ⟨by rfl, ?_⟩) hHeld ?_ ?_
         rotate_left
         ·rintro w' ⟨s0, s1, s2, s3, s4, s5⟩
          go_simp
          with_reducible rfl
         rotate_left
         ·simp only [Act.put, List.setIfInBounds_toArray, List.set_cons_zero, List.set_cons_succ, i64_w, i32_w]
          rfl
         refine take_ (i := 11) (N := some 31) (v := ?_) (a' := ?_) #[true, true, true, true, true, true, true, true, true, true, true, true, true, false, false, false, false, false] rfl rfl (take_ofW HT_.out HW_.out (by kernel_rfl)) (fun _ _ _ h => h) (Or.inl ⟨by rfl, ?_⟩) hHeld ?_ ?_
         rotate_left
         ·rintro w' ⟨s0, s1, s2, s3, s4, s5⟩
          go_simp
          with_reducible rfl
         rotate_left
         ·simp only [Act.put, List.setIfInBounds_toArray, List.set_cons_zero, List.set_cons_succ, i64_w, i32_w]
          rfl
         refine pure_ (i := 13) (N := some 33) (v := ?_) (a' := ?_) #[true, true, true, true, true, true, true, true, true, true, true, true, true, true, false, false, false, false] rfl rfl (any_of HT_.out (by kernel_rfl)) (fun _ _ _ h => h) (Or.inl ⟨by rfl, ?_⟩) ?_ ?_
         rotate_left
         ·intro w'
          go_simp
          with_reducible rfl
         rotate_left
         ·simp only [Act.put, List.setIfInBounds_toArray, List.set_cons_zero, List.set_cons_succ, i64_w, i32_w]
          rfl
         refine take_ (i := 14) (N := some 34) (v := ?_) (a' := ?_) #[true, true, true, true, true, true, true, true, true, true, true, true, true, true, true, false, false, false] rfl rfl (take_ofW HT_.out HW_.out (by kernel_rfl)) (fun _ _ _ h => h) (Or.inl ⟨by rfl, ?_⟩) hHeld ?_ ?_
         rotate_left
         ·rintro w' ⟨s0, s1, s2, s3, s4, s5⟩
          go_simp
          with_reducible rfl
         rotate_left
         ·simp only [Act.put, List.setIfInBounds_toArray, List.set_cons_zero, List.set_cons_succ, i64_w, i32_w]
          rfl
         refine pure_ (i := 15) (N := some 35) (v := ?_) (a' := ?_) #[true, true, true, true, true, true, true, true, true, true, true, true, true, true, true, true, false, false] rfl rfl (any_of HT_.out (by kernel_rfl)) (fun _ _ _ h => h) (Or.inl ⟨by rfl, ?_⟩) ?_ ?_
         rotate_left
         ·intro w'
          go_simp
          with_reducible rfl
         rotate_left
         ·simp only [Act.put, List.setIfInBounds_toArray, List.set_cons_zero, List.set_cons_succ, i64_w, i32_w]
          rfl
         refine pure_ (i := 16) (N := some 36) (v := ?_) (a' := ?_) #[true, true, true, true, true, true, true, true, true, true, true, true, true, true, true, true, true, false] rfl rfl (any_of HT_.out (by kernel_rfl)) (fun _ _ _ h => h) (Or.inl ⟨by rfl, ?_⟩) ?_ ?_
         rotate_left
         ·intro w'
          go_simp
          with_reducible rfl
         rotate_left
         ·simp only [Act.put, List.setIfInBounds_toArray, List.set_cons_zero, List.set_cons_succ, i64_w, i32_w]
          rfl
         refine pure_ (i := 17) (N := some 37) (v := ?_) (a' := ?_) #[true, true, true, true, true, true, true, true, true, true, true, true, true, true, true, true, true, true] rfl rfl (any_of HT_.out (by kernel_rfl)) (fun _ _ _ h => h) (Or.inl ⟨by rfl, ?_⟩) ?_ ?_
         rotate_left
         ·intro w'
          go_simp
          with_reducible rfl
         rotate_left
         ·simp only [Act.put, List.setIfInBounds_toArray, List.set_cons_zero, List.set_cons_succ, i64_w, i32_w]
          rfl
         refine done_ (done_of HT_.out (by kernel_rfl)) ?_
         have hnb17 := NB294_293.out
         have hnc17 := NB293_294.out
         have hcz18_0 : w16.cell? ⟨gb294, 0, none⟩ = some (.slice none 0 0) := (blk_cell BK294.out 0).trans rfl
         have hcz18_1 : w16.cell? ⟨gb294, 1, none⟩ = some (.int .i64 x295001_1) := (blk_cell BK294.out 1).trans rfl
         have hfz18_0 := blk_frozen BK294.out 0
         have hfz18_1 := blk_frozen BK294.out 1
         try go_wp2
         refine bodyPost_ret (results_cell_row rfl _ _ gb294 34 #[.slice none 0 0, .int .i64 1] (0, 0) _ rfl (by (with_reducible repeat (first | refine blk_drewN ?_ _ | refine blk_drew ?_ | refine blk_alloc ?_ _)); refine blk_put (cs := #[.slice none 0 0, .int .i64 x295001_1]) ?_ 1 _ rfl; (with_reducible repeat (first | refine blk_drewN ?_ _ | refine blk_drew ?_ | refine blk_alloc ?_ _)); refine blk_put (cs := #[.slice none 0 0, .int .i64 x295001_1]) ?_ 0 _ rfl; (with_reducible repeat (first | refine blk_drewN ?_ _ | refine blk_drew ?_ | refine blk_alloc ?_ _)); exact BK294.out) Try.underlying34 rfl (by kernel_rfl)) rfl ?_
         exact ⟨_, by first | rfl | (simp [errW_none, errW_some] <;> rfl) | (simp [*, errW_none, errW_some] <;> rfl), by first | exact Kd.R_nil _ _ _ _ _ | exact Kd.N_nil _ _ _ _ _ | exact Kd.V_nil _ _ _ _ _ | exact Kd.Q_nil _ _ _ _ _ | exact Kd.S_nil _ _ _ _ _, by repeat (first | (with_reducible first | exact HB.out | apply below_alloc | apply pw_below_drewN | apply below_drew1 | refine below_set ?_ GE293.out | refine below_set ?_ GE294.out) | exact HB.out)⟩
        ·rw [if_neg c15] at H
         have c15b0 : decide (((rd_L2 l0_2 x6_1).length : Int) ≤ (rd l1 x6_1)) = false := decide_eq_false c15
         clear c15
         by_cases c19 : 0 ≤ (rd l1 x6_1)
         ·rw [if_pos c19] at H
          have c19b0 : decide (0 ≤ (rd l1 x6_1)) = true := decide_eq_true c19
          clear c19
          by_cases c20 : (rd l1 x6_1) < ((rd_L2 l0_2 x6_1).length : Int)
          ·rw [if_pos c20] at H
           have c20b0 : decide ((rd l1 x6_1) < ((rd_L2 l0_2 x6_1).length : Int)) = true := decide_eq_true c20
           clear c20
           by_cases c21 : x5_1.length + (rd_L1 (rd_L2 l0_2 x6_1) (rd l1 x6_1)).length < 17592186044416
           ·rw [if_pos c21] at H
            have LMc21 := Aside0.mk c21
            clear c21
            obtain ⟨y301, hy301⟩ : ∃ y_ : List Int, y_ = (x5_1 ++ (rd_L1 (rd_L2 l0_2 x6_1) (rd l1 x6_1))) := ⟨_, rfl⟩
            replace H : (r8_Decode.l0 k1 l1 y301 (wrap64 (x6_1 + 1)) a0_0 l0_1 l0_2) = some (r1, r2) := by first | (rw [hy301]; with_reducible exact H) | (have H2_ := (Option.bind_some _ _).symm.trans H; rw [hy301]; with_reducible exact H2_) | (have H2_ := (Option.bind_some _ _).symm.trans H; with_reducible exact H2_) | with_reducible exact H | (rw [hy301]; exact H) | exact H
            have Ny301 := Aside0.mk hy301
            clear hy301
            have H' := Aside0.mk H
            clear H
            try go_wp2
            have n0_ := Aside0.mk (Kd.R_drew HO_5.out)
            have n1_ := Aside0.mk (blk_drew BK293.out)
            have n2_ := Aside0.mk (blk_drew BK294.out)
            have n3_ := Aside0.mk (below_drew1 HB.out)
            clear HO_5
            clear BK293
            clear BK294
            clear HB
            have HO_5 := n0_
            have BK293 := n1_
            have BK294 := n2_
            have HB := n3_
            clear n0_ n1_ n2_ n3_
            have p295 : 0 ≤ (x6_1 : Int) := of_decide_eq_true (by first | (with_reducible assumption) | assumption)
            have q295 : x6_1 < (l1.length : Int) := of_decide_eq_true (by first | (with_reducible assumption) | assumption)
            obtain ⟨ad295, e295, hx295_0⟩ := Kd.at_int HR1.out x6_1 p295 q295
            have hw295_0 := hx295_0
            cases e295
            replace hx295_0 := (HB.out.cell (World.block_lt_of_cell? w _ hx295_0)).trans hx295_0
            replace p295 := eq_true p295
            replace q295 := eq_true q295
            have p296 : 0 ≤ (x6_1 : Int) := of_decide_eq_true (by first | (with_reducible assumption) | assumption)
            have q296 : x6_1 < (l1.length : Int) := of_decide_eq_true (by first | (with_reducible assumption) | assumption)
            obtain ⟨ad296, e296, hx296_0⟩ := Kd.at_int HR1.out x6_1 p296 q296
            have hw296_0 := hx296_0
            obtain rfl : ad295 = ad296 := (by injection e296)
            replace hx296_0 := (HB.out.cell (World.block_lt_of_cell? w _ hx296_0)).trans hx296_0
            replace p296 := eq_true p296
            replace q296 := eq_true q296
            have p297 : 0 ≤ (x6_1 : Int) := of_decide_eq_true (by first | (with_reducible assumption) | assumption)
            have q297 : x6_1 < (l0_2.length : Int) := of_decide_eq_true (by first | (with_reducible assumption) | assumption)
            obtain ⟨ad297, A297_0, c297_0, e297, hx297_0, hl297_0, hi297_0⟩ := at_L2 HR0_2.out x6_1 p297 q297
            have hw297_0 := hx297_0
            cases e297
            replace hx297_0 := (HB.out.cell (World.block_lt_of_cell? w _ hx297_0)).trans hx297_0
            have HR297_0 := Aside0.mk hi297_0
            have HC297_0 := Aside0.mk hl297_0
            clear hi297_0 hl297_0
            replace p297 := eq_true p297
            replace q297 := eq_true q297
            refine start_ (n := 18) (S := fun w' => w'.cell? ⟨gb293, 0, none⟩ = some (.int .i64 a0_0) ∧ w'.cell? ⟨gb293, 1, none⟩ = some (.slice A0_1 l0_1.length c0_1) ∧ w'.cell? ⟨gb293, 2, none⟩ = some (.slice (some ad297) l0_2.length c0_2) ∧ w'.cell? (ad295.add (x6_1).toNat) = some (.int .i64 (rd l1 x6_1)) ∧ w'.cell? (ad295.add (x6_1).toNat) = some (.int .i64 (rd l1 x6_1)) ∧ w'.cell? (ad297.add (x6_1).toNat) = some (.slice A297_0 (rd_L2 l0_2 x6_1).length c297_0)) (ds := []) #[false, false, false, false, false, false, false, false, false, false, false, false, false, false, false, false, false, false] (by kernel_rfl) rfl rfl ⟨(blk_cell BK293.out 0).trans rfl, (blk_cell BK293.out 1).trans rfl, (blk_cell BK293.out 2).trans rfl, ((HB.out.cell (World.block_lt_of_cell? w _ hw295_0)).trans hw295_0), ((HB.out.cell (World.block_lt_of_cell? w _ hw296_0)).trans hw296_0), ((HB.out.cell (World.block_lt_of_cell? w _ hw297_0)).trans hw297_0)⟩ (fun hHeld => ?_); refine with_tabW r8_Decode.tab7 r8_Decode.bits7 (fun HT_ HW_ => ?_)
            generalize wr.drew = w22 at HO_5 BK293 BK294 HB HR297_0 hx295_0 hx296_0 hx297_0 hHeld ⊢
            refine pure_ (i := 0) (N := some 20) (v := ?_) (a' := ?_) #[true, false, false, false, false, false, false, false, false, false, false, false, false, false, false, false, false, false] rfl rfl (any_of HT_.out (by kernel_rfl)) (fun _ _ _ h => h) (Or.inl ⟨by rfl, ?_⟩) ?_ ?_
            rotate_left
            ·intro w'
             go_simp
             with_reducible rfl
            rotate_left
            ·simp only [Act.put, List.setIfInBounds_toArray, List.set_cons_zero, List.set_cons_succ, i64_w, i32_w]
             rfl
            refine pure_ (i := 1) (N := some 21) (v := ?_) (a' := ?_) #[true, true, false, false, false, false, false, false, false, false, false, false, false, false, false, false, false, false] rfl rfl (any_of HT_.out (by kernel_rfl)) (fun _ _ _ h => h) (Or.inl ⟨by rfl, ?_⟩) ?_ ?_
            rotate_left
            ·intro w'
             go_simp
             with_reducible rfl
            rotate_left
            ·simp only [Act.put, List.setIfInBounds_toArray, List.set_cons_zero, List.set_cons_succ, i64_w, i32_w]
             rfl
            refine pure_ (i := 2) (N := some 22) (v := ?_) (a' := ?_) #[true, true, true, false, false, false, false, false, false, false, false, false, false, false, false, false, false, false] rfl rfl (any_of HT_.out (by kernel_rfl)) (fun _ _ _ h => h) (Or.inl ⟨by rfl, ?_⟩) ?_ ?_
            rotate_left
            ·intro w'
             go_simp
             with_reducible rfl
            rotate_left
            ·simp only [Act.put, List.setIfInBounds_toArray, List.set_cons_zero, List.set_cons_succ, i64_w, i32_w]
             rfl
            refine take_ (i := 3) (N := some 23) (v := ?_) (a' := ?_) #[true, true, true, true, false, false, false, false, false, false, false, false, false, false, false, false, false, false] rfl rfl (take_ofW HT_.out HW_.out (by kernel_rfl)) (fun _ _ _ h => h) (Or.inl ⟨by rfl, ?_⟩) hHeld ?_ ?_
            rotate_left
            ·rintro w' ⟨s0, s1, s2, s3, s4, s5⟩
             go_simp
             with_reducible rfl
            rotate_left
            ·simp only [Act.put, List.setIfInBounds_toArray, List.set_cons_zero, List.set_cons_succ, i64_w, i32_w]
             rfl
            refine pure_ (i := 4) (N := some 24) (v := ?_) (a' := ?_) #[true, true, true, true, true, false, false, false, false, false, false, false, false, false, false, false, false, false] rfl rfl (any_of HT_.out (by kernel_rfl)) (fun _ _ _ h => h) (Or.inl ⟨by rfl, ?_⟩) ?_ ?_
            rotate_left
            ·intro w'
             go_simp
             with_reducible rfl
            rotate_left
            ·simp only [Act.put, List.setIfInBounds_toArray, List.set_cons_zero, List.set_cons_succ, i64_w, i32_w]
             rfl
            refine pure_ (i := 5) (N := some 25) (v := ?_) (a' := ?_) #[true, true, true, true, true, true, false, false, false, false, false, false, false, false, false, false, false, false] rfl rfl (any_of HT_.out (by kernel_rfl)) (fun _ _ _ h => h) (Or.inl ⟨by rfl, ?_⟩) ?_ ?_
            rotate_left
            ·intro w'
             go_simp
             with_reducible rfl
            rotate_left
            ·simp only [Act.put, List.setIfInBounds_toArray, List.set_cons_zero, List.set_cons_succ, i64_w, i32_w]
             rfl
            refine pure_ (i := 6) (N := some 26) (v := ?_) (a' := ?_) #[true, true, true, true, true, true, true, false, false, false, false, false, false, false, false, false, false, false] rfl rfl (any_of HT_.out (by kernel_rfl)) (fun _ _ _ h => h) (Or.inl ⟨by rfl, ?_⟩) ?_ ?_
            rotate_left
            ·intro w'
             go_simp
             with_reducible rfl
            rotate_left
            ·simp only [Act.put, List.setIfInBounds_toArray, List.set_cons_zero, List.set_cons_succ, i64_w, i32_w]
             rfl
            refine pure_ (i := 7) (N := some 27) (v := ?_) (a' := ?_) #[true, true, true, true, true, true, true, true, false, false, false, false, false, false, false, false, false, false] rfl rfl (any_of HT_.out (by kernel_rfl)) (fun _ _ _ h => h) (Or.inl ⟨by rfl, ?_⟩) ?_ ?_
            rotate_left
            ·intro w'
             go_simp
             with_reducible rfl
            rotate_left
            ·simp only [Act.put, List.setIfInBounds_toArray, List.set_cons_zero, List.set_cons_succ, i64_w, i32_w]
             rfl
            refine pure_ (i := 8) (N := some 28) (v := ?_) (a' := ?_) #[true, true, true, true, true, true, true, true, true, false, false, false, false, false, false, false, false, false] rfl rfl (any_of HT_.out (by kernel_rfl)) (fun _ _ _ h => h) (Or.inl ⟨by rfl, ?_⟩) ?_ ?_
            rotate_left
            ·intro w'
             go_simp
             with_reducible rfl
            rotate_left
            ·simp only [Act.put, List.setIfInBounds_toArray, List.set_cons_zero, List.set_cons_succ, i64_w, i32_w]
             rfl
            refine pure_ (i := 10) (N := some 30) (v := ?_) (a' := ?_) #[true, true, true, true, true, true, true, true, true, false, true, false, false, false, false, false, false, false] rfl rfl (any_of HT_.out (by kernel_rfl)) (fun _ _ _ h => h) (Or.inl ⟨by rfl, ?_⟩) ?_ ?_
            rotate_left
            ·intro w'
             go_simp
             with_reducible rfl
            rotate_left
            ·simp only [Act.put, List.setIfInBounds_toArray, List.set_cons_zero, List.set_cons_succ, i64_w, i32_w]
             rfl
            refine pure_ (i := 12) (N := some 32) (v := ?_) (a' := ?_) #[true, true, true, true, true, true, true, true, true, false, true, false, true, false, false, false, false, false] rfl rfl (any_of HT_.out (by kernel_rfl)) (fun _ _ _ h => h) (Or.inl ⟨by rfl, ?_⟩) ?_ ?_
            rotate_left
            ·intro w'
             go_simp
             with_reducible rfl
            rotate_left
            ·simp only [Act.put, List.setIfInBounds_toArray, List.set_cons_zero, List.set_cons_succ, i64_w, i32_w]
             rfl
            refine take_ (i := 9) (N := some 29) (v := ?_) (a' := ?_) #[true, true, true, true, true, true, true, true, true, true, true, false, true, false, false, false, false, false] rfl rfl (take_ofW HT_.out HW_.out (by kernel_rfl)) (fun _ _ _ h => h) (Or.inl ⟨by rfl, ?_⟩) hHeld ?_ ?_
            rotate_left
            ·rintro w' ⟨s0, s1, s2, s3, s4, s5⟩
             go_simp
             with_reducible rfl
            rotate_left
            ·simp only [Act.put, List.setIfInBounds_toArray, List.set_cons_zero, List.set_cons_succ, i64_w, i32_w]
             rfl
            refine take_ (i := 11) (N := some 31) (v := ?_) (a' := ?_) #[true, true, true, true, true, true, true, true, true, true, true, true, true, false, false, false, false, false] rfl rfl (take_ofW HT_.out HW_.out (by kernel_rfl)) (fun _ _ _ h => h) (Or.inl ⟨by rfl, ?_⟩) hHeld ?_ ?_
            rotate_left
            ·rintro w' ⟨s0, s1, s2, s3, s4, s5⟩
             go_simp
             with_reducible rfl
            rotate_left
            ·simp only [Act.put, List.setIfInBounds_toArray, List.set_cons_zero, List.set_cons_succ, i64_w, i32_w]
             rfl
            refine pure_ (i := 13) (N := some 33) (v := ?_) (a' := ?_) #[true, true, true, true, true, true, true, true, true, true, true, true, true, true, false, false, false, false] rfl rfl (any_of HT_.out (by kernel_rfl)) (fun _ _ _ h => h) (Or.inl ⟨by rfl, ?_⟩) ?_ ?_
            rotate_left
            ·intro w'
             go_simp
             with_reducible rfl
            rotate_left
            ·simp only [Act.put, List.setIfInBounds_toArray, List.set_cons_zero, List.set_cons_succ, i64_w, i32_w]
             rfl
            refine take_ (i := 14) (N := some 34) (v := ?_) (a' := ?_) #[true, true, true, true, true, true, true, true, true, true, true, true, true, true, true, false, false, false] rfl rfl (take_ofW HT_.out HW_.out (by kernel_rfl)) (fun _ _ _ h => h) (Or.inl ⟨by rfl, ?_⟩) hHeld ?_ ?_
            rotate_left
            ·rintro w' ⟨s0, s1, s2, s3, s4, s5⟩
             go_simp
             with_reducible rfl
            rotate_left
            ·simp only [Act.put, List.setIfInBounds_toArray, List.set_cons_zero, List.set_cons_succ, i64_w, i32_w]
             rfl
            refine pure_ (i := 15) (N := some 35) (v := ?_) (a' := ?_) #[true, true, true, true, true, true, true, true, true, true, true, true, true, true, true, true, false, false] rfl rfl (any_of HT_.out (by kernel_rfl)) (fun _ _ _ h => h) (Or.inl ⟨by rfl, ?_⟩) ?_ ?_
            rotate_left
            ·intro w'
             go_simp
             with_reducible rfl
            rotate_left
            ·simp only [Act.put, List.setIfInBounds_toArray, List.set_cons_zero, List.set_cons_succ, i64_w, i32_w]
             rfl
            refine pure_ (i := 16) (N := some 36) (v := ?_) (a' := ?_) #[true, true, true, true, true, true, true, true, true, true, true, true, true, true, true, true, true, false] rfl rfl (any_of HT_.out (by kernel_rfl)) (fun _ _ _ h => h) (Or.inl ⟨by rfl, ?_⟩) ?_ ?_
            rotate_left
            ·intro w'
             go_simp
             with_reducible rfl
            rotate_left
            ·simp only [Act.put, List.setIfInBounds_toArray, List.set_cons_zero, List.set_cons_succ, i64_w, i32_w]
             rfl
            refine pure_ (i := 17) (N := some 37) (v := ?_) (a' := ?_) #[true, true, true, true, true, true, true, true, true, true, true, true, true, true, true, true, true, true] rfl rfl (any_of HT_.out (by kernel_rfl)) (fun _ _ _ h => h) (Or.inl ⟨by rfl, ?_⟩) ?_ ?_
            rotate_left
            ·intro w'
             go_simp
             with_reducible rfl
            rotate_left
            ·simp only [Act.put, List.setIfInBounds_toArray, List.set_cons_zero, List.set_cons_succ, i64_w, i32_w]
             rfl
            refine done_ (done_of HT_.out (by kernel_rfl)) ?_
            try go_wp2
            have n0_ := Aside0.mk (Kd.R_drew HO_5.out)
            have n1_ := Aside0.mk (blk_drew BK293.out)
            have n2_ := Aside0.mk (blk_drew BK294.out)
            have n3_ := Aside0.mk (below_drew1 HB.out)
            clear HO_5
            clear BK293
            clear BK294
            clear HB
            have HO_5 := n0_
            have BK293 := n1_
            have BK294 := n2_
            have HB := n3_
            clear n0_ n1_ n2_ n3_
            have p298 : 0 ≤ (x6_1 : Int) := of_decide_eq_true (by first | (with_reducible assumption) | assumption)
            have q298 : x6_1 < (l0_2.length : Int) := of_decide_eq_true (by first | (with_reducible assumption) | assumption)
            obtain ⟨ad298, A298_0, c298_0, e298, hx298_0, hl298_0, hi298_0⟩ := at_L2 HR0_2.out x6_1 p298 q298
            have hw298_0 := hx298_0
            obtain rfl : ad297 = ad298 := (by injection e298)
            replace hx298_0 := (HB.out.cell (World.block_lt_of_cell? w _ hx298_0)).trans hx298_0
            have HR298_0 := Aside0.mk hi298_0
            have HC298_0 := Aside0.mk hl298_0
            clear hi298_0 hl298_0
            replace p298 := eq_true p298
            replace q298 := eq_true q298
            have p299 : 0 ≤ (x6_1 : Int) := of_decide_eq_true (by first | (with_reducible assumption) | assumption)
            have q299 : x6_1 < (l1.length : Int) := of_decide_eq_true (by first | (with_reducible assumption) | assumption)
            obtain ⟨ad299, e299, hx299_0⟩ := Kd.at_int HR1.out x6_1 p299 q299
            have hw299_0 := hx299_0
            obtain rfl : ad295 = ad299 := (by injection e299)
            replace hx299_0 := (HB.out.cell (World.block_lt_of_cell? w _ hx299_0)).trans hx299_0
            replace p299 := eq_true p299
            replace q299 := eq_true q299
            have p300 : 0 ≤ ((rd l1 x6_1) : Int) := of_decide_eq_true (by first | (with_reducible assumption) | assumption)
            have q300 : (rd l1 x6_1) < ((rd_L2 l0_2 x6_1).length : Int) := of_decide_eq_true (by first | (with_reducible assumption) | assumption)
            obtain ⟨ad300, A300_0, c300_0, e300, hx300_0, hl300_0, hi300_0⟩ := at_L1 HR298_0.out (rd l1 x6_1) p300 q300
            have hw300_0 := hx300_0
            cases e300
            replace hx300_0 := (HB.out.cell (World.block_lt_of_cell? w _ hx300_0)).trans hx300_0
            have HR300_0 := Aside0.mk hi300_0
            have HC300_0 := Aside0.mk hl300_0
            clear hi300_0 hl300_0
            replace p300 := eq_true p300
            replace q300 := eq_true q300
            refine start_ (n := 14) (S := fun w' => w'.cell? ⟨gb293, 0, none⟩ = some (.int .i64 a0_0) ∧ w'.cell? ⟨gb293, 1, none⟩ = some (.slice A0_1 l0_1.length c0_1) ∧ w'.cell? ⟨gb293, 2, none⟩ = some (.slice (some ad297) l0_2.length c0_2) ∧ w'.cell? (ad297.add (x6_1).toNat) = some (.slice (some ad300) (rd_L2 l0_2 x6_1).length c298_0) ∧ w'.cell? (ad295.add (x6_1).toNat) = some (.int .i64 (rd l1 x6_1)) ∧ w'.cell? (ad300.add ((rd l1 x6_1)).toNat) = some (.slice A300_0 (rd_L1 (rd_L2 l0_2 x6_1) (rd l1 x6_1)).length c300_0)) (ds := []) #[false, false, false, false, false, false, false, false, false, false, false, false, false, false] (by kernel_rfl) rfl rfl ⟨(blk_cell BK293.out 0).trans rfl, (blk_cell BK293.out 1).trans rfl, (blk_cell BK293.out 2).trans rfl, ((HB.out.cell (World.block_lt_of_cell? w _ hw298_0)).trans hw298_0), ((HB.out.cell (World.block_lt_of_cell? w _ hw299_0)).trans hw299_0), ((HB.out.cell (World.block_lt_of_cell? w _ hw300_0)).trans hw300_0)⟩ (fun hHeld => ?_); refine with_tabW r8_Decode.tab9 r8_Decode.bits9 (fun HT_ HW_ => ?_)
            generalize w22.drew = w23 at HO_5 BK293 BK294 HB HR298_0 HR300_0 hx298_0 hx299_0 hx300_0 hHeld ⊢
            refine pure_ (i := 0) (N := some 39) (v := ?_) (a' := ?_) #[true, false, false, false, false, false, false, false, false, false, false, false, false, false] rfl rfl (any_of HT_.out (by kernel_rfl)) (fun _ _ _ h => h) (Or.inl ⟨by rfl, ?_⟩) ?_ ?_
            rotate_left
            ·intro w'
             go_simp
             with_reducible rfl
            rotate_left
            ·simp only [Act.put, List.setIfInBounds_toArray, List.set_cons_zero, List.set_cons_succ, i64_w, i32_w]
             rfl
            refine pure_ (i := 1) (N := some 40) (v := ?_) (a' := ?_) #[true, true, false, false, false, false, false, false, false, false, false, false, false, false] rfl rfl (any_of HT_.out (by kernel_rfl)) (fun _ _ _ h => h) (Or.inl ⟨by rfl, ?_⟩) ?_ ?_
            rotate_left
            ·intro w'
             go_simp
             with_reducible rfl
            rotate_left
            ·simp only [Act.put, List.setIfInBounds_toArray, List.set_cons_zero, List.set_cons_succ, i64_w, i32_w]
             rfl
            refine pure_ (i := 3) (N := some 42) (v := ?_) (a' := ?_) #[true, true, false, true, false, false, false, false, false, false, false, false, false, false] rfl rfl (any_of HT_.out (by kernel_rfl)) (fun _ _ _ h => h) (Or.inl ⟨by rfl, ?_⟩) ?_ ?_
            rotate_left
            ·intro w'
             go_simp
             with_reducible rfl
            rotate_left
            ·simp only [Act.put, List.setIfInBounds_toArray, List.set_cons_zero, List.set_cons_succ, i64_w, i32_w]
             rfl
            refine pure_ (i := 6) (N := some 45) (v := ?_) (a' := ?_) #[true, true, false, true, false, false, true, false, false, false, false, false, false, false] rfl rfl (any_of HT_.out (by kernel_rfl)) (fun _ _ _ h => h) (Or.inl ⟨by rfl, ?_⟩) ?_ ?_
            rotate_left
            ·intro w'
             go_simp
             with_reducible rfl
            rotate_left
            ·simp only [Act.put, List.setIfInBounds_toArray, List.set_cons_zero, List.set_cons_succ, i64_w, i32_w]
             rfl
            refine pure_ (i := 7) (N := some 46) (v := ?_) (a' := ?_) #[true, true, false, true, false, false, true, true, false, false, false, false, false, false] rfl rfl (any_of HT_.out (by kernel_rfl)) (fun _ _ _ h => h) (Or.inl ⟨by rfl, ?_⟩) ?_ ?_
            rotate_left
            ·intro w'
             go_simp
             with_reducible rfl
            rotate_left
            ·simp only [Act.put, List.setIfInBounds_toArray, List.set_cons_zero, List.set_cons_succ, i64_w, i32_w]
             rfl
            refine pure_ (i := 8) (N := some 47) (v := ?_) (a' := ?_) #[true, true, false, true, false, false, true, true, true, false, false, false, false, false] rfl rfl (any_of HT_.out (by kernel_rfl)) (fun _ _ _ h => h) (Or.inl ⟨by rfl, ?_⟩) ?_ ?_
            rotate_left
            ·intro w'
             go_simp
             with_reducible rfl
            rotate_left
            ·simp only [Act.put, List.setIfInBounds_toArray, List.set_cons_zero, List.set_cons_succ, i64_w, i32_w]
             rfl
            refine take_ (i := 2) (N := some 41) (v := ?_) (a' := ?_) #[true, true, true, true, false, false, true, true, true, false, false, false, false, false] rfl rfl (take_ofW HT_.out HW_.out (by kernel_rfl)) (fun _ _ _ h => h) (Or.inl ⟨by rfl, ?_⟩) hHeld ?_ ?_
            rotate_left
            ·rintro w' ⟨s0, s1, s2, s3, s4, s5⟩
             go_simp
             with_reducible rfl
            rotate_left
            ·simp only [Act.put, List.setIfInBounds_toArray, List.set_cons_zero, List.set_cons_succ, i64_w, i32_w]
             rfl
            refine pure_ (i := 4) (N := some 43) (v := ?_) (a' := ?_) #[true, true, true, true, true, false, true, true, true, false, false, false, false, false] rfl rfl (any_of HT_.out (by kernel_rfl)) (fun _ _ _ h => h) (Or.inl ⟨by rfl, ?_⟩) ?_ ?_
            rotate_left
            ·intro w'
             go_simp
             with_reducible rfl
            rotate_left
            ·simp only [Act.put, List.setIfInBounds_toArray, List.set_cons_zero, List.set_cons_succ, i64_w, i32_w]
             rfl
            refine take_ (i := 5) (N := some 44) (v := ?_) (a' := ?_) #[true, true, true, true, true, true, true, true, true, false, false, false, false, false] rfl rfl (take_ofW HT_.out HW_.out (by kernel_rfl)) (fun _ _ _ h => h) (Or.inl ⟨by rfl, ?_⟩) hHeld ?_ ?_
            rotate_left
            ·rintro w' ⟨s0, s1, s2, s3, s4, s5⟩
             go_simp
             with_reducible rfl
            rotate_left
            ·simp only [Act.put, List.setIfInBounds_toArray, List.set_cons_zero, List.set_cons_succ, i64_w, i32_w]
             rfl
            refine take_ (i := 9) (N := some 48) (v := ?_) (a' := ?_) #[true, true, true, true, true, true, true, true, true, true, false, false, false, false] rfl rfl (take_ofW HT_.out HW_.out (by kernel_rfl)) (fun _ _ _ h => h) (Or.inl ⟨by rfl, ?_⟩) hHeld ?_ ?_
            rotate_left
            ·rintro w' ⟨s0, s1, s2, s3, s4, s5⟩
             go_simp
             with_reducible rfl
            rotate_left
            ·simp only [Act.put, List.setIfInBounds_toArray, List.set_cons_zero, List.set_cons_succ, i64_w, i32_w]
             rfl
            refine pure_ (i := 10) (N := some 49) (v := ?_) (a' := ?_) #[true, true, true, true, true, true, true, true, true, true, true, false, false, false] rfl rfl (any_of HT_.out (by kernel_rfl)) (fun _ _ _ h => h) (Or.inl ⟨by rfl, ?_⟩) ?_ ?_
            rotate_left
            ·intro w'
             go_simp
             with_reducible rfl
            rotate_left
            ·simp only [Act.put, List.setIfInBounds_toArray, List.set_cons_zero, List.set_cons_succ, i64_w, i32_w]
             rfl
            refine take_ (i := 11) (N := some 50) (v := ?_) (a' := ?_) #[true, true, true, true, true, true, true, true, true, true, true, true, false, false] rfl rfl (take_ofW HT_.out HW_.out (by kernel_rfl)) (fun _ _ _ h => h) (Or.inl ⟨by rfl, ?_⟩) hHeld ?_ ?_
            rotate_left
            ·rintro w' ⟨s0, s1, s2, s3, s4, s5⟩
             go_simp
             with_reducible rfl
            rotate_left
            ·simp only [Act.put, List.setIfInBounds_toArray, List.set_cons_zero, List.set_cons_succ, i64_w, i32_w]
             rfl
            refine one_ (i := 12) (N := some 51) #[true, true, true, true, true, true, true, true, true, true, true, true, true, false] rfl rfl (one_of HT_.out (by kernel_rfl)) (by decide) (fun K hK => ?_)
            refine Kd.R_append_rows_step (Kd.int .i64) (w0 := w) w.heap.size (by rfl) (.tmp 39) (.tmp 50) 22 3 (.int .i64 0) 8 rfl Try.underlying22 info3 rfl (by decide) (by omega) u5 x5_1 (rd_L1 (rd_L2 l0_2 x6_1) (rd l1 x6_1)) _ _ _ (fun _ => True) (fun _ => False) rfl rfl ?aO ?aR (fun _ _ h => h) (fun _ h => h.elim) ?aF ?aB ?aS ?aL ?_
            (case aR => repeat (first | exact (Kd.C_below HR300_0.out HB.out) | (with_reducible refine Kd.C_alloc ?_ _) | (with_reducible refine Kd.C_drewN ?_ _) | (with_reducible refine Kd.C_drew ?_)))
            (case aB => exact (by repeat (first | (with_reducible first | exact HB.out | apply below_alloc | apply pw_below_drewN | apply below_drew1 | refine below_set ?_ GE293.out | refine below_set ?_ GE294.out) | exact HB.out)))
            (case aF => exact (fun _ _ => trivial))
            (case aO => exact (by (with_reducible repeat (first | apply Kd.R_alloc | apply Kd.R_drewN | apply Kd.R_drew)); exact HO_5.out))
            (case aS => exact (below_size (by repeat (first | (with_reducible first | exact HB.out | apply below_alloc | apply pw_below_drewN | apply below_drew1 | refine below_set ?_ GE293.out | refine below_set ?_ GE294.out) | exact HB.out))))
            (case aL => have := LMc21.out; omega)
            intro v302 w24 ho hb hg hat
            rw [← Ny301.out] at ho
            have n0_ := Aside0.mk (blk_grown (g := gb293) (o := .cells #[.int .i64 a0_0, .slice A0_1 l0_1.length c0_1, .slice (some ad297) l0_2.length c0_2] 25 (0, 0)) (by (with_reducible repeat (first | refine blk_drewN ?_ _ | refine blk_drew ?_ | refine blk_alloc ?_ _)); exact BK293.out) hg (Kd.R_ne HO_5.out BK293.out (by decide)))
            have n1_ := Aside0.mk (blk_grown (g := gb294) (o := .cells #[.slice none 0 0, .int .i64 x295001_1] 34 (0, 0)) (by (with_reducible repeat (first | refine blk_drewN ?_ _ | refine blk_drew ?_ | refine blk_alloc ?_ _)); exact BK294.out) hg (Kd.R_ne HO_5.out BK294.out (by decide)))
            have n2_ := Aside0.mk (hb)
            have n3_ := Aside0.mk (ho)
            clear BK293
            clear BK294
            clear HB
            clear HO_5
            have BK293 := n0_
            have BK294 := n1_
            have HB := n2_
            have HO303 := n3_
            clear n0_ n1_ n2_ n3_
            clear ho hb hg hat
            refine hK.out _ _ ⟨(blk_cell BK293.out 0).trans rfl, (blk_cell BK293.out 1).trans rfl, (blk_cell BK293.out 2).trans rfl, ((HB.out.cell (World.block_lt_of_cell? w _ hw298_0)).trans hw298_0), ((HB.out.cell (World.block_lt_of_cell? w _ hw299_0)).trans hw299_0), ((HB.out.cell (World.block_lt_of_cell? w _ hw300_0)).trans hw300_0)⟩ (fun hHeld => ?_)
            clear hK K
            refine norm_ (a' := ?_) ?_ ?_
            rotate_left
            ·show Act.put _ (some 51) _ = _
             simp only [Act.put, List.setIfInBounds_toArray, List.set_cons_zero, List.set_cons_succ, i64_w, i32_w]
             rfl
            refine pure_ (i := 13) (N := some 5) (v := ?_) (a' := ?_) #[true, true, true, true, true, true, true, true, true, true, true, true, true, true] rfl rfl (any_of HT_.out (by kernel_rfl)) (fun _ _ _ h => h) (Or.inl ⟨by rfl, ?_⟩) ?_ ?_
            rotate_left
            ·intro w'
             go_simp
             with_reducible rfl
            rotate_left
            ·simp only [Act.put, List.setIfInBounds_toArray, List.set_cons_zero, List.set_cons_succ, i64_w, i32_w]
             rfl
            refine done_ (done_of HT_.out (by kernel_rfl)) ?_
            try go_wp2
            go_roundg k1
            case measure => have := HK1.out; omega
            case rel => exact ⟨(y301), (wrap64 (x6_1 + 1)), (x295001_1), (by first | rfl | (simp; done) | (simp [*]; done)), H', ⟨by have := HK1.out; omega⟩, ⟨by (with_reducible repeat (first | apply Kd.R_alloc | apply Kd.R_drewN | apply Kd.R_drew)); exact HO303.out⟩, ⟨by (with_reducible repeat (first | refine blk_drewN ?_ _ | refine blk_drew ?_ | refine blk_alloc ?_ _)); exact BK293.out⟩, ⟨by (with_reducible repeat (first | refine blk_drewN ?_ _ | refine blk_drew ?_ | refine blk_alloc ?_ _)); exact BK294.out⟩, ⟨by repeat (first | (with_reducible first | exact HB.out | apply below_alloc | apply pw_below_drewN | apply below_drew1 | refine below_set ?_ GE293.out | refine below_set ?_ GE294.out) | exact HB.out)⟩⟩
           ·rw [if_neg c21] at H
            exact absurd H (by simp)
          ·rw [if_neg c20] at H
           exact absurd H (by simp)
         ·rw [if_neg c19] at H
          exact absurd H (by simp)
       ·rw [if_neg c14] at H
        exact absurd H (by simp)
     ·rw [if_neg c9] at H
      exact absurd H (by simp)
    ·rw [if_neg c8] at H
     have c8b0 : decide (x6_1 < (l1.length : Int)) = false := decide_eq_false c8
     clear c8
     simp only [Option.some.injEq, Prod.mk.injEq] at H
     obtain ⟨rfl, rfl⟩ := H
     obtain ⟨Ao25, co25, eo25⟩ := Kd.R_slice HO_5.out
     subst eo25
     have hnb26 := NB294_293.out
     have hnc26 := NB293_294.out
     have hcz27_0 : wr.cell? ⟨gb294, 0, none⟩ = some (.slice none 0 0) := (blk_cell BK294.out 0).trans rfl
     have hcz27_1 : wr.cell? ⟨gb294, 1, none⟩ = some (.int .i64 x295001_1) := (blk_cell BK294.out 1).trans rfl
     have hfz27_0 := blk_frozen BK294.out 0
     have hfz27_1 := blk_frozen BK294.out 1
     go_wp2
     refine bodyPost_ret (results_cell_row rfl _ _ gb294 34 #[.slice Ao25 x5_1.length co25, .int .i64 0] (0, 0) _ rfl (by (with_reducible repeat (first | refine blk_drewN ?_ _ | refine blk_drew ?_ | refine blk_alloc ?_ _)); refine blk_put (cs := #[.slice Ao25 x5_1.length co25, .int .i64 x295001_1]) ?_ 1 _ rfl; (with_reducible repeat (first | refine blk_drewN ?_ _ | refine blk_drew ?_ | refine blk_alloc ?_ _)); refine blk_put (cs := #[.slice none 0 0, .int .i64 x295001_1]) ?_ 0 _ rfl; (with_reducible repeat (first | refine blk_drewN ?_ _ | refine blk_drew ?_ | refine blk_alloc ?_ _)); exact BK294.out) Try.underlying34 rfl (by kernel_rfl)) rfl ?_
     exact ⟨_, by first | rfl | (simp [errW_none, errW_some] <;> rfl) | (simp [*, errW_none, errW_some] <;> rfl), by (with_reducible repeat (first | apply Kd.R_alloc | apply Kd.R_drewN | apply Kd.R_drew)); exact Kd.R_mono (Kd.R_far (p := ⟨gb294, 1, none⟩) (Kd.R_far (p := ⟨gb294, 0, none⟩) (Kd.R_types HO_5.out BK294.out (by decide)) (fun _ hk => hk.2) (.slice Ao25 x5_1.length co25)) (fun _ hk => hk.2) (.int .i64 0)) (fun _ hk => trivial), by repeat (first | (with_reducible first | exact HB.out | apply below_alloc | apply pw_below_drewN | apply below_drew1 | refine below_set ?_ GE293.out | refine below_set ?_ GE294.out) | exact HB.out)⟩
 ·rw [if_neg c3] at H
  have c3b0 : ((l1.length : Int) == (l0_1.length : Int)) = false := beq_eq_false_iff_ne.mpr c3
  have c3b1 : ((l1.length : Int) != (l0_1.length : Int)) = true := bne_iff_ne.mpr c3
  have c3b2 : (l1.length == l0_1.length) = false := by first | simpa using c3 | (simp at c3 ⊢; omega)
  simp only [Option.some.injEq, Prod.mk.injEq] at H
  obtain ⟨rfl, rfl⟩ := H
  go_enter Try.func16, Try.ntmps16
  go_wp2_with (first | ((with_reducible refine gate_dst (N := 2) rfl ?_); (try (refine gate_guard (by rfl) ?_; dsimp only)); refine box_event ?hg (N := 2) ?hd (cs := #[.int .i64 a0_0, .slice A0_1 l0_1.length c0_1, .slice A0_2 l0_2.length c0_2]) (t := 25) ?hr ?_; (case hd => rfl); (case hg => rfl); (case hr => first | (go_simp; done) | (go_simp; rfl)); intro gb293 hg w28 hbox hb; have n0_ := Aside0.mk (below_step (by repeat (first | (with_reducible first | exact HB.out | apply below_alloc | apply pw_below_drewN | apply below_drew1) | exact HB.out)) hb); have n1_ := Aside0.mk (hbox); have n2_ := Aside0.mk ((by rw [hg]; exact (below_size (by repeat (first | (with_reducible first | exact HB.out | apply below_alloc | apply pw_below_drewN | apply below_drew1) | exact HB.out))) : w.heap.size ≤ gb293)); have n3_ := Aside0.mk ((by rw [hg]; exact (below_size (by repeat (first | (with_reducible first | exact HB.out | apply below_alloc | apply pw_below_drewN | apply below_drew1) | exact HB.out))) : w.heap.size ≤ gb293)); clear HB; have HB := n0_; have BK293 := n1_; have GW293 := n2_; have GE293 := n3_; clear n0_ n1_ n2_ n3_; clear hb hbox hg) | ((with_reducible refine gate_dst (N := 4) rfl ?_); (try (refine gate_guard (by rfl) ?_; dsimp only)); refine box_event ?hg (N := 4) ?hd (cs := #[.slice none 0 0, .int .i64 0]) (t := 34) ?hr ?_; (case hd => rfl); (case hg => rfl); (case hr => first | (go_simp; done) | (go_simp; rfl)); intro gb294 hg w29 hbox hb; have n0_ := Aside0.mk (blk_below (g := gb293) (o := .cells #[.int .i64 a0_0, .slice A0_1 l0_1.length c0_1, .slice A0_2 l0_2.length c0_2] 25 (0, 0)) (by (with_reducible repeat (first | refine blk_drewN ?_ _ | refine blk_drew ?_ | refine blk_alloc ?_ _)); exact BK293.out) hb); have n1_ := Aside0.mk (below_step (by repeat (first | (with_reducible first | exact HB.out | apply below_alloc | apply pw_below_drewN | apply below_drew1 | refine below_set ?_ GE293.out) | exact HB.out)) hb); have n2_ := Aside0.mk (hbox); have n3_ := Aside0.mk ((by rw [hg]; exact (below_size (by repeat (first | (with_reducible first | exact HB.out | apply below_alloc | apply pw_below_drewN | apply below_drew1 | refine below_set ?_ GE293.out) | exact HB.out))) : w.heap.size ≤ gb294)); have n4_ := Aside0.mk ((by rw [hg]; exact (below_size (by repeat (first | (with_reducible first | exact HB.out | apply below_alloc | apply pw_below_drewN | apply below_drew1 | refine below_set ?_ GE293.out) | exact HB.out))) : w.heap.size ≤ gb294)); have n5_ := Aside0.mk ((by rw [hg]; exact Nat.ne_of_lt (blk_lt (g := gb293) (o := .cells #[.int .i64 a0_0, .slice A0_1 l0_1.length c0_1, .slice A0_2 l0_2.length c0_2] 25 (0, 0)) (by (with_reducible repeat (first | refine blk_drewN ?_ _ | refine blk_drew ?_ | refine blk_alloc ?_ _)); exact BK293.out)) : gb293 ≠ gb294)); have n6_ := Aside0.mk ((by rw [hg]; exact Nat.ne_of_gt (blk_lt (g := gb293) (o := .cells #[.int .i64 a0_0, .slice A0_1 l0_1.length c0_1, .slice A0_2 l0_2.length c0_2] 25 (0, 0)) (by (with_reducible repeat (first | refine blk_drewN ?_ _ | refine blk_drew ?_ | refine blk_alloc ?_ _)); exact BK293.out)) : gb294 ≠ gb293)); clear BK293; clear HB; have BK293 := n0_; have HB := n1_; have BK294 := n2_; have GW294 := n3_; have GE294 := n4_; have NB293_294 := n5_; have NB294_293 := n6_; clear n0_ n1_ n2_ n3_ n4_ n5_ n6_; clear hb hbox hg; have hnb30 := NB293_294.out; have hnc30 := NB294_293.out; have hcz31_0 : w29.cell? ⟨gb293, 0, none⟩ = some (.int .i64 a0_0) := (blk_cell BK293.out 0).trans rfl; have hcz31_1 : w29.cell? ⟨gb293, 1, none⟩ = some (.slice A0_1 l0_1.length c0_1) := (blk_cell BK293.out 1).trans rfl; have hcz31_2 : w29.cell? ⟨gb293, 2, none⟩ = some (.slice A0_2 l0_2.length c0_2) := (blk_cell BK293.out 2).trans rfl; have hfz31_0 := blk_frozen BK293.out 0; have hfz31_1 := blk_frozen BK293.out 1; have hfz31_2 := blk_frozen BK293.out 2; have hcz32_0 : w29.cell? ⟨gb294, 0, none⟩ = some (.slice none 0 0) := (blk_cell BK294.out 0).trans rfl; have hcz32_1 : w29.cell? ⟨gb294, 1, none⟩ = some (.int .i64 0) := (blk_cell BK294.out 1).trans rfl; have hfz32_0 := blk_frozen BK294.out 0; have hfz32_1 := blk_frozen BK294.out 1))
  refine bodyPost_ret (results_cell_row rfl _ _ gb294 34 #[.slice none 0 0, .int .i64 1] (0, 0) _ rfl (by (with_reducible repeat (first | refine blk_drewN ?_ _ | refine blk_drew ?_ | refine blk_alloc ?_ _)); refine blk_put (cs := #[.slice none 0 0, .int .i64 0]) ?_ 1 _ rfl; (with_reducible repeat (first | refine blk_drewN ?_ _ | refine blk_drew ?_ | refine blk_alloc ?_ _)); refine blk_put (cs := #[.slice none 0 0, .int .i64 0]) ?_ 0 _ rfl; (with_reducible repeat (first | refine blk_drewN ?_ _ | refine blk_drew ?_ | refine blk_alloc ?_ _)); exact BK294.out) Try.underlying34 rfl (by kernel_rfl)) rfl ?_
  exact ⟨_, by first | rfl | (simp [errW_none, errW_some] <;> rfl) | (simp [*, errW_none, errW_some] <;> rfl), by first | exact Kd.R_nil _ _ _ _ _ | exact Kd.N_nil _ _ _ _ _ | exact Kd.V_nil _ _ _ _ _ | exact Kd.Q_nil _ _ _ _ _ | exact Kd.S_nil _ _ _ _ _, by repeat (first | (with_reducible first | exact HB.out | apply below_alloc | apply pw_below_drewN | apply below_drew1 | refine below_set ?_ GE293.out | refine below_set ?_ GE294.out) | exact HB.out)⟩
end Go.Proofs.Ytgpdfalopdhjlaa.Q
end
