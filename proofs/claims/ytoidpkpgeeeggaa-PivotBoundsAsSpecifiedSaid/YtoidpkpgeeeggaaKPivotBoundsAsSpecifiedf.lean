/- A part of the proof of PivotBoundsAsSpecified: what the row's text reaches (packed by a program of this claim out of its texts). -/
import Derived.Test.YtoidpkpgeeeggaaKPivotBoundsAsSpecifiede
section
namespace Go.Proofs.Ytoidpkpgeeeggaa.Q
open Go.RowKit Go.Proofs.YtoidpkpgeeeggaaW.PrintWords Go.Proofs.YtoidpkpgeeeggaaW.PrintLast Go.Proofs.YtoidpkpgeeeggaaW.PrintMore
attribute [local go_sem] max2_int min2_int max_two min_two max_three min_three max_four min_four   -- for this text's walks alone
set_option linter.unusedVariables false
set_option linter.unusedSimpArgs false
def r9_asked.l0 : Nat → Int → List (S57) → List Int → Int → Option (Bool)
 | 0, _, _, _, _ => none
 | k + 1, x0, x1, x2, x7 => if x7 < (x2.length : Int) then (if 0 ≤ x7 then (if (rd x2 x7) < 0 then (some false) else (if (rd x2 x7) > 134217728 then (some false) else (r9_asked.l0 k x0 x1 x2 (wrap64 (x7 + 1))))) else (none)) else ((r9_Metric.f x0).bind fun t577 => (if t577 = true then ((r9_Valid.f k x1).bind fun t578 => (if t578 = true then (some ((x2.length : Int) == (x1.length : Int))) else (some false))) else (some false)))
def r9_asked.f (k : Nat) (a0 : Int) (l1 : List (S57)) (l2 : List Int) : Option (Bool) := r9_asked.l0 k a0 l1 l2 0
set_option maxHeartbeats 8000000 in
set_option maxRecDepth 100000 in
theorem r9_asked.calls (k : Nat) (a0 : Int) (A1 : Option Addr) (c1 : Nat) (l1 : List (S57)) (A2 : Option Addr) (c2 : Nat) (l2 : List Int) (r : Bool) (w : World) (hr1 : Kd.C k57 w A1 l1.length l1) (hc1 : l1.length ≤ c1) (hr2 : Kd.C (Kd.int .i64) w A2 l2.length l2) (hc2 : l2.length ≤ c2) (h : r9_asked.f k a0 l1 l2 = some r) :
  Calls Try.prog 68 #[.int .i64 a0, .slice A1 l1.length c1, .slice A2 l2.length c2] w fun e w' => e = .returned (.bool r) ∧ Drawn0 w w' := by
 have HR1 := Aside0.mk hr1
 have HC1 := Aside0.mk hc1
 clear hr1 hc1
 have HR2 := Aside0.mk hr2
 have HC2 := Aside0.mk hc2
 clear hr2 hc2
 have H : (r9_asked.l0 k a0 l1 l2 0) = some r := h
 clear h
 have H' := Aside0.mk H
 clear H
 go_enter Try.func68, Try.ntmps68
 go_wp2
 go_loopg [7] k (fun kq v7 w' => ∃ (x7_1 : Int), v7 = .int .i64 x7_1 ∧ Aside0 (r9_asked.l0 kq a0 l1 l2 x7_1 = some r) ∧ Aside0 (kq ≤ k) ∧ Drawn0 w w')
 case atStart => exact ⟨(0), (by first | rfl | (simp; done) | (simp [*]; done)), H', ⟨Nat.le_refl _⟩, by repeat (first | exact Drawn0.refl _ | apply Drawn0.step)⟩
 case round =>
  clear H'
  try clear c1
  try clear c2
  try clear p2
  obtain ⟨x7_1, rfl, HA, HK1, ⟨m1, rfl⟩⟩ := hrel
  cases gk with
  | zero => exact absurd HA.out (by simp [r9_asked.l0])
  | succ k1 =>
   have H := HA.out
   clear HA
   simp only [r9_asked.l0] at H
   by_cases c4 : x7_1 < (l2.length : Int)
   ·rw [if_pos c4] at H
    have c4b0 : decide (x7_1 < (l2.length : Int)) = true := decide_eq_true c4
    clear c4
    by_cases c5 : 0 ≤ x7_1
    ·rw [if_pos c5] at H
     have c5b0 : decide (0 ≤ x7_1) = true := decide_eq_true c5
     clear c5
     by_cases c6 : (rd l2 x7_1) < 0
     ·rw [if_pos c6] at H
      have c6b0 : decide ((rd l2 x7_1) < 0) = true := decide_eq_true c6
      clear c6
      obtain rfl := Option.some.inj H
      have p575 : 0 ≤ (x7_1 : Int) := of_decide_eq_true (by first | (with_reducible assumption) | assumption)
      have q575 : x7_1 < (l2.length : Int) := of_decide_eq_true (by first | (with_reducible assumption) | assumption)
      obtain ⟨ad575, e575, hx575_0⟩ := Kd.at_int HR2.out x7_1 p575 q575
      cases e575
      replace p575 := eq_true p575
      replace q575 := eq_true q575
      go_wp2
      go_ret
      exact ⟨by first | rfl | (simp; done) | (simp [*]; done), by repeat (first | exact Drawn0.refl _ | apply Drawn0.step)⟩
     ·rw [if_neg c6] at H
      have c6b0 : decide ((rd l2 x7_1) < 0) = false := decide_eq_false c6
      clear c6
      by_cases c7 : (rd l2 x7_1) > 134217728
      ·rw [if_pos c7] at H
       have c7b0 : decide (134217728 < (rd l2 x7_1)) = true := decide_eq_true c7
       clear c7
       obtain rfl := Option.some.inj H
       have p575 : 0 ≤ (x7_1 : Int) := of_decide_eq_true (by first | (with_reducible assumption) | assumption)
       have q575 : x7_1 < (l2.length : Int) := of_decide_eq_true (by first | (with_reducible assumption) | assumption)
       obtain ⟨ad575, e575, hx575_0⟩ := Kd.at_int HR2.out x7_1 p575 q575
       cases e575
       replace p575 := eq_true p575
       replace q575 := eq_true q575
       have p576 : 0 ≤ (x7_1 : Int) := of_decide_eq_true (by first | (with_reducible assumption) | assumption)
       have q576 : x7_1 < (l2.length : Int) := of_decide_eq_true (by first | (with_reducible assumption) | assumption)
       obtain ⟨ad576, e576, hx576_0⟩ := Kd.at_int HR2.out x7_1 p576 q576
       obtain rfl : ad575 = ad576 := (by injection e576)
       replace p576 := eq_true p576
       replace q576 := eq_true q576
       go_wp2
       go_ret
       exact ⟨by first | rfl | (simp; done) | (simp [*]; done), by repeat (first | exact Drawn0.refl _ | apply Drawn0.step)⟩
      ·rw [if_neg c7] at H
       have c7b0 : decide (134217728 < (rd l2 x7_1)) = false := decide_eq_false c7
       clear c7
       have H' := Aside0.mk H
       clear H
       have p575 : 0 ≤ (x7_1 : Int) := of_decide_eq_true (by first | (with_reducible assumption) | assumption)
       have q575 : x7_1 < (l2.length : Int) := of_decide_eq_true (by first | (with_reducible assumption) | assumption)
       obtain ⟨ad575, e575, hx575_0⟩ := Kd.at_int HR2.out x7_1 p575 q575
       cases e575
       replace p575 := eq_true p575
       replace q575 := eq_true q575
       have p576 : 0 ≤ (x7_1 : Int) := of_decide_eq_true (by first | (with_reducible assumption) | assumption)
       have q576 : x7_1 < (l2.length : Int) := of_decide_eq_true (by first | (with_reducible assumption) | assumption)
       obtain ⟨ad576, e576, hx576_0⟩ := Kd.at_int HR2.out x7_1 p576 q576
       obtain rfl : ad575 = ad576 := (by injection e576)
       replace p576 := eq_true p576
       replace q576 := eq_true q576
       go_wp2
       go_roundg k1
       case measure => have := HK1.out; omega
       case rel => exact ⟨(wrap64 (x7_1 + 1)), (by first | rfl | (simp; done) | (simp [*]; done)), H', ⟨by have := HK1.out; omega⟩, by repeat (first | exact Drawn0.refl _ | apply Drawn0.step)⟩
    ·rw [if_neg c5] at H
     exact absurd H (by simp)
   ·rw [if_neg c4] at H
    have c4b0 : decide (x7_1 < (l2.length : Int)) = false := decide_eq_false c4
    clear c4
    replace H := Option.bind_eq_some_iff.mp H
    obtain ⟨t577, A80, H⟩ := H
    replace H : (if t577 = true then ((r9_Valid.f k1 l1).bind fun t578 => (if t578 = true then (some ((l2.length : Int) == (l1.length : Int))) else (some false))) else (some false)) = some r := H
    have A8 := Aside0.mk A80
    clear A80
    by_cases c9 : t577 = true
    ·subst c9
     have H1 : ((r9_Valid.f k1 l1).bind fun t578 => (if t578 = true then (some ((l2.length : Int) == (l1.length : Int))) else (some false))) = some r := by rw [if_pos rfl] at H; exact H
     clear H
     have H := H1
     clear H1
     replace H := Option.bind_eq_some_iff.mp H
     obtain ⟨t578, A100, H⟩ := H
     replace H : (if t578 = true then (some ((l2.length : Int) == (l1.length : Int))) else (some false)) = some r := H
     have A10 := Aside0.mk A100
     clear A100
     by_cases c11 : t578 = true
     ·subst c11
      have H1 : (some ((l2.length : Int) == (l1.length : Int))) = some r := by rw [if_pos rfl] at H; exact H
      clear H
      have H := H1
      clear H1
      obtain rfl := Option.some.inj H
      go_wp2_with (first | ((with_reducible refine gate_callee (f := 29) rfl ?_); refine goesL_ (some 27) rfl rfl Try.func29 (by kernel_rfl) rfl #[.int .i64 a0] rfl (by (try simp only [List.map_toArray, List.map_cons, List.map_nil]); first | done | rfl | (simp only [List.length_drop, List.length_take]; rfl)) ?_; (with_reducible refine (r9_Metric.calls a0 true _ A8.out).mono ?_); rintro e w' ⟨rfl, ⟨nd, rfl⟩⟩; refine ⟨_, rfl, ?_⟩) | (go_at_call 39; (with_reducible refine (r9_Valid.calls k1 _ _ l1 true _ ?side1 ?side2 A10.out).mono ?_); (case side1 => repeat (first | exact HR1.out | (with_reducible refine Kd.C_alloc ?_ _) | (with_reducible refine Kd.C_drewN ?_ _) | (with_reducible refine Kd.C_drew ?_))); (case side2 => exact HC1.out); rintro e w' ⟨rfl, ⟨nd, rfl⟩⟩))
      go_ret
      exact ⟨by first | rfl | (simp; done) | (simp [*]; done), by repeat (first | exact Drawn0.refl _ | apply Drawn0.step)⟩
     ·replace c11 := Bool.eq_false_iff.mpr c11
      subst c11
      have H1 : (some false) = some r := by rw [if_neg (show ¬ (false = true) by decide)] at H; exact H
      clear H
      have H := H1
      clear H1
      obtain rfl := Option.some.inj H
      go_wp2_with (first | ((with_reducible refine gate_callee (f := 29) rfl ?_); refine goesL_ (some 27) rfl rfl Try.func29 (by kernel_rfl) rfl #[.int .i64 a0] rfl (by (try simp only [List.map_toArray, List.map_cons, List.map_nil]); first | done | rfl | (simp only [List.length_drop, List.length_take]; rfl)) ?_; (with_reducible refine (r9_Metric.calls a0 true _ A8.out).mono ?_); rintro e w' ⟨rfl, ⟨nd, rfl⟩⟩; refine ⟨_, rfl, ?_⟩) | (go_at_call 39; (with_reducible refine (r9_Valid.calls k1 _ _ l1 false _ ?side1 ?side2 A10.out).mono ?_); (case side1 => repeat (first | exact HR1.out | (with_reducible refine Kd.C_alloc ?_ _) | (with_reducible refine Kd.C_drewN ?_ _) | (with_reducible refine Kd.C_drew ?_))); (case side2 => exact HC1.out); rintro e w' ⟨rfl, ⟨nd, rfl⟩⟩))
      go_ret
      exact ⟨by first | rfl | (simp; done) | (simp [*]; done), by repeat (first | exact Drawn0.refl _ | apply Drawn0.step)⟩
    ·replace c9 := Bool.eq_false_iff.mpr c9
     subst c9
     have H1 : (some false) = some r := by rw [if_neg (show ¬ (false = true) by decide)] at H; exact H
     clear H
     have H := H1
     clear H1
     obtain rfl := Option.some.inj H
     go_wp2_with (first | ((with_reducible refine gate_callee (f := 29) rfl ?_); refine goesL_ (some 27) rfl rfl Try.func29 (by kernel_rfl) rfl #[.int .i64 a0] rfl (by (try simp only [List.map_toArray, List.map_cons, List.map_nil]); first | done | rfl | (simp only [List.length_drop, List.length_take]; rfl)) ?_; (with_reducible refine (r9_Metric.calls a0 false _ A8.out).mono ?_); rintro e w' ⟨rfl, ⟨nd, rfl⟩⟩; refine ⟨_, rfl, ?_⟩))
     go_ret
     exact ⟨by first | rfl | (simp; done) | (simp [*]; done), by repeat (first | exact Drawn0.refl _ | apply Drawn0.step)⟩
mutual
def r5_Isqrt.j0 : Nat → Int → Option (Int)
 | 0, _ => none
 | k + 1, x0 => r5_Isqrt.l0 k x0 0 30
def r5_Isqrt.l0 : Nat → Int → Int → Int → Option (Int)
 | 0, _, _, _ => none
 | k + 1, x0, x3, x4 => if x4 ≥ 0 then (if 0 ≤ x4 then (if (wrap64 ((wrap64 (x3 + (shl .i64 1 x4))) * (wrap64 (x3 + (shl .i64 1 x4))))) ≤ x0 then (r5_Isqrt.l0 k x0 (wrap64 (x3 + (shl .i64 1 x4))) (wrap64 (x4 - 1))) else (r5_Isqrt.l0 k x0 x3 (wrap64 (x4 - 1)))) else (none)) else (some x3)
end
def r5_Isqrt.f (k : Nat) (a0 : Int) : Option (Int) := if a0 > 1152921504606846976 then (r5_Isqrt.j0 k 1152921504606846976) else (r5_Isqrt.j0 k a0)
set_option maxHeartbeats 8000000 in
set_option maxRecDepth 100000 in
theorem r5_Isqrt.calls (k : Nat) (a0 : Int) (r : Int) (w : World) (h : r5_Isqrt.f k a0 = some r) :
  Calls Try.prog 100 #[.int .i64 a0] w fun e w' => e = .returned (.int .i64 r) ∧ Drawn0 w w' := by
 have H : (if a0 > 1152921504606846976 then (r5_Isqrt.j0 k 1152921504606846976) else (r5_Isqrt.j0 k a0)) = some r := h
 clear h
 have HC2 := Aside0.mk H
 clear H
 go_enter Try.func100, Try.ntmps100
 go_upto_if 7 with (fail)
 go_cut [0] (fun v0 wc => ∃ (kq : Nat) (x0_1 : Int), v0 = .int .i64 x0_1 ∧ Aside0 (r5_Isqrt.j0 kq x0_1 = some r) ∧ Aside0 (kq ≤ k) ∧ Drawn0 w wc)
 case first =>
  have H := HC2.out
  clear HC2
  by_cases c3 : a0 > 1152921504606846976
  ·rw [if_pos c3] at H
   have c3b0 : decide (1152921504606846976 < a0) = true := decide_eq_true c3
   clear c3
   (first | rw [c3b0] | (simp only [i64_w, i32_w]; rw [c3b0]) | skip)
   have H' := Aside0.mk H
   clear H
   go_wp2
   go_meet
   case rel => exact ⟨_, (1152921504606846976), (by first | rfl | (simp; done) | (simp [*]; done)), H', ⟨by first | omega | exact Nat.le_refl _⟩, by repeat (first | exact Drawn0.refl _ | apply Drawn0.step)⟩
  ·rw [if_neg c3] at H
   have c3b0 : decide (1152921504606846976 < a0) = false := decide_eq_false c3
   clear c3
   (first | rw [c3b0] | (simp only [i64_w, i32_w]; rw [c3b0]) | skip)
   have H' := Aside0.mk H
   clear H
   go_wp2
   go_meet
   case rel => exact ⟨_, (a0), (by first | rfl | (simp; done) | (simp [*]; done)), H', ⟨by first | omega | exact Nat.le_refl _⟩, by repeat (first | exact Drawn0.refl _ | apply Drawn0.step)⟩
 case rest =>
  clear HC2
  try clear c1
  try clear p2
  try clear c3
  try clear c3b0
  obtain ⟨kq, x0_1, rfl, HA, HJ1, ⟨mc1, rfl⟩⟩ := hcut
  cases kq with
  | zero => exact absurd HA.out (by simp [r5_Isqrt.j0])
  | succ kj1 =>
   have H := HA.out
   clear HA
   simp only [r5_Isqrt.j0] at H
   have H' := Aside0.mk H
   clear H
   go_wp2
   go_loopg [3, 4] kj1 (fun kq v3 v4 w' => ∃ (x3_2 : Int) (x4_2 : Int), v3 = .int .i64 x3_2 ∧ v4 = .int .i64 x4_2 ∧ Aside0 (r5_Isqrt.l0 kq x0_1 x3_2 x4_2 = some r) ∧ Aside0 (kq ≤ kj1) ∧ Drawn0 w w')
   case atStart => exact ⟨(0), (30), (by first | rfl | (simp; done) | (simp [*]; done)), (by first | rfl | (simp; done) | (simp [*]; done)), H', ⟨Nat.le_refl _⟩, by repeat (first | exact Drawn0.refl _ | apply Drawn0.step)⟩
   case round =>
    clear H'
    try clear c1
    try clear p2
    try clear c3
    try clear c3b0
    try clear p2
    obtain ⟨x3_2, x4_2, rfl, rfl, HA, HK2, ⟨m2, rfl⟩⟩ := hrel
    cases gk with
    | zero => exact absurd HA.out (by simp [r5_Isqrt.l0])
    | succ k2 =>
     have H := HA.out
     clear HA
     simp only [r5_Isqrt.l0] at H
     by_cases c4 : x4_2 ≥ 0
     ·rw [if_pos c4] at H
      have c4b0 : decide (0 ≤ x4_2) = true := decide_eq_true c4
      clear c4
      by_cases c5 : 0 ≤ x4_2
      ·rw [if_pos c5] at H
       have c5b0 := eq_true c5
       have c5b1 : decide (0 ≤ x4_2) = true := decide_eq_true c5
       clear c5
       obtain ⟨ji6, hji6⟩ : ∃ j_ : Int, (shl .i64 1 x4_2) = j_ := ⟨_, rfl⟩
       replace H : (if (wrap64 ((wrap64 (x3_2 + (ji6))) * (wrap64 (x3_2 + (ji6))))) ≤ x0_1 then (r5_Isqrt.l0 k2 x0_1 (wrap64 (x3_2 + (ji6))) (wrap64 (x4_2 - 1))) else (r5_Isqrt.l0 k2 x0_1 x3_2 (wrap64 (x4_2 - 1)))) = some r := by first | (rw [hji6] at H; exact H) | (simp only [hji6] at H ⊢; exact H)
       have hji6_ : (IntKind.i64.wrap (1 * 2 ^ min x4_2.toNat 64)) = ji6 := hji6
       have hji6z : x4_2 ≤ 64 → (IntKind.i64.wrap (1 * 2 ^ x4_2.toNat)) = ji6 := shl_small hji6
       have hji6u : (IntKind.i64.wrap (2 ^ min x4_2.toNat 64)) = ji6 := by have h_ := hji6_; rw [Int.one_mul] at h_; exact h_
       have hji6v : x4_2 ≤ 64 → (IntKind.i64.wrap (2 ^ x4_2.toNat)) = ji6 := fun hle_ => by have h_ := hji6z hle_; rw [Int.one_mul] at h_; exact h_
       have hji6y : (wrap64 (1 * 2 ^ min x4_2.toNat 64)) = ji6 := (i64_w _).symm.trans hji6_
       have hji6x : x4_2 ≤ 64 → (wrap64 (1 * 2 ^ x4_2.toNat)) = ji6 := fun h_ => (i64_w _).symm.trans (hji6z h_)
       by_cases c7 : (wrap64 ((wrap64 (x3_2 + (ji6))) * (wrap64 (x3_2 + (ji6))))) ≤ x0_1
       ·rw [if_pos c7] at H
        have c7b0 : decide ((wrap64 ((wrap64 (x3_2 + (ji6))) * (wrap64 (x3_2 + (ji6))))) ≤ x0_1) = true := decide_eq_true c7
        clear c7
        have H' := Aside0.mk H
        clear H
        go_wp2
        go_roundg k2
        case measure => have := HJ1.out; have := HK2.out; omega
        case rel => exact ⟨(wrap64 (x3_2 + (ji6))), (wrap64 (x4_2 - 1)), (by first | rfl | (simp; done) | (simp only [← hji6] <;> (first | rfl | simp)) | (simp [*]; done)), (by first | rfl | (simp; done) | (simp [*]; done)), H', ⟨by have := HJ1.out; have := HK2.out; omega⟩, by repeat (first | exact Drawn0.refl _ | apply Drawn0.step)⟩
       ·rw [if_neg c7] at H
        have c7b0 : decide ((wrap64 ((wrap64 (x3_2 + (ji6))) * (wrap64 (x3_2 + (ji6))))) ≤ x0_1) = false := decide_eq_false c7
        clear c7
        have H' := Aside0.mk H
        clear H
        go_wp2
        go_roundg k2
        case measure => have := HJ1.out; have := HK2.out; omega
        case rel => exact ⟨(x3_2), (wrap64 (x4_2 - 1)), (by first | rfl | (simp; done) | (simp [*]; done)), (by first | rfl | (simp; done) | (simp [*]; done)), H', ⟨by have := HJ1.out; have := HK2.out; omega⟩, by repeat (first | exact Drawn0.refl _ | apply Drawn0.step)⟩
      ·rw [if_neg c5] at H
       exact absurd H (by simp)
     ·rw [if_neg c4] at H
      have c4b0 : decide (0 ≤ x4_2) = false := decide_eq_false c4
      clear c4
      obtain rfl := Option.some.inj H
      go_wp2
      go_ret
      exact ⟨by first | rfl | (simp; done) | (simp [*]; done), by repeat (first | exact Drawn0.refl _ | apply Drawn0.step)⟩
def r5_Low.f (k : Nat) (a0 : Int) (a1 : Int) (a2 : Int) : Option (Int) := if a0 = 2 then ((r5_Isqrt.f k (wrap64 ((wrap64 (4 * a1)) * a2))).bind fun t579 => (some (wrap64 ((wrap64 (a1 + a2)) - t579)))) else (if a1 < a2 then (some (wrap64 (a2 - a1))) else (some (wrap64 (a1 - a2))))
set_option maxHeartbeats 8000000 in
set_option maxRecDepth 100000 in
theorem r5_Low.calls (k : Nat) (a0 : Int) (a1 : Int) (a2 : Int) (r : Int) (w : World) (h : r5_Low.f k a0 a1 a2 = some r) :
  Calls Try.prog 88 #[.int .i64 a0, .int .i64 a1, .int .i64 a2] w fun e w' => e = .returned (.int .i64 r) ∧ Below w.heap.size w w' := by
 have HB := Aside0.mk (Below.refl w.heap.size w)
 have H : (if a0 = 2 then ((r5_Isqrt.f k (wrap64 ((wrap64 (4 * a1)) * a2))).bind fun t579 => (some (wrap64 ((wrap64 (a1 + a2)) - t579)))) else (if a1 < a2 then (some (wrap64 (a2 - a1))) else (some (wrap64 (a1 - a2))))) = some r := h
 clear h
 by_cases c4 : a0 = 2
 ·rw [if_pos c4] at H
  have c4b0 : (a0 == 2) = true := beq_iff_eq.mpr c4
  have c4b1 : (a0 != 2) = false := bne_eq_false_iff_eq.mpr c4
  clear c4
  replace H := Option.bind_eq_some_iff.mp H
  obtain ⟨t579, A50, H⟩ := H
  replace H : (some (wrap64 ((wrap64 (a1 + a2)) - t579))) = some r := H
  have A5 := Aside0.mk A50
  clear A50
  obtain rfl := Option.some.inj H
  go_enter Try.func88, Try.ntmps88
  go_wp2_with (first | ((with_reducible refine gate_callee (f := 100) rfl ?_); refine goesL_ (some 16) rfl rfl Try.func100 (by kernel_rfl) rfl #[.int .i64 (wrap64 ((wrap64 (4 * a1)) * a2))] rfl (by (try simp only [List.map_toArray, List.map_cons, List.map_nil]); first | done | rfl | (simp only [List.length_drop, List.length_take]; rfl)) ?_; (with_reducible refine (r5_Isqrt.calls k (wrap64 ((wrap64 (4 * a1)) * a2)) t579 _ A5.out).mono ?_); rintro e w' ⟨rfl, ⟨nd, rfl⟩⟩; refine ⟨_, rfl, ?_⟩))
  go_ret
  exact ⟨by first | rfl | (simp [errW_none, errW_some] <;> rfl) | (simp [*, errW_none, errW_some] <;> rfl), by repeat (first | (with_reducible first | exact HB.out | apply below_alloc | apply pw_below_drewN | apply below_drew1) | exact HB.out)⟩
 ·rw [if_neg c4] at H
  have c4b0 : (a0 == 2) = false := beq_eq_false_iff_ne.mpr c4
  have c4b1 : (a0 != 2) = true := bne_iff_ne.mpr c4
  by_cases c6 : a1 < a2
  ·rw [if_pos c6] at H
   have c6b0 : decide (a1 < a2) = true := decide_eq_true c6
   clear c6
   obtain rfl := Option.some.inj H
   go_enter Try.func88, Try.ntmps88
   go_wp2
   go_ret
   exact ⟨by first | rfl | (simp [errW_none, errW_some] <;> rfl) | (simp [*, errW_none, errW_some] <;> rfl), by repeat (first | (with_reducible first | exact HB.out | apply below_alloc | apply pw_below_drewN | apply below_drew1) | exact HB.out)⟩
  ·rw [if_neg c6] at H
   have c6b0 : decide (a1 < a2) = false := decide_eq_false c6
   clear c6
   obtain rfl := Option.some.inj H
   go_enter Try.func88, Try.ntmps88
   go_wp2
   go_ret
   exact ⟨by first | rfl | (simp [errW_none, errW_some] <;> rfl) | (simp [*, errW_none, errW_some] <;> rfl), by repeat (first | (with_reducible first | exact HB.out | apply below_alloc | apply pw_below_drewN | apply below_drew1) | exact HB.out)⟩
def r5_Gap.f (k : Nat) (a0 : Int) (a1 : Int) (a2 : Int) (a3 : Int) : Option (Int) := if a3 < a1 then ((r5_Low.f k a0 a3 a1).bind fun t580 => (some t580)) else (if a3 > a2 then ((r5_Low.f k a0 a3 a2).bind fun t581 => (some t581)) else (some 0))
set_option maxHeartbeats 8000000 in
set_option maxRecDepth 100000 in
theorem r5_Gap.calls (k : Nat) (a0 : Int) (a1 : Int) (a2 : Int) (a3 : Int) (r : Int) (w : World) (h : r5_Gap.f k a0 a1 a2 a3 = some r) :
  Calls Try.prog 69 #[.int .i64 a0, .int .i64 a1, .int .i64 a2, .int .i64 a3] w fun e w' => e = .returned (.int .i64 r) ∧ Below w.heap.size w w' := by
 have HB := Aside0.mk (Below.refl w.heap.size w)
 have H : (if a3 < a1 then ((r5_Low.f k a0 a3 a1).bind fun t580 => (some t580)) else (if a3 > a2 then ((r5_Low.f k a0 a3 a2).bind fun t581 => (some t581)) else (some 0))) = some r := h
 clear h
 by_cases c5 : a3 < a1
 ·rw [if_pos c5] at H
  have c5b0 : decide (a3 < a1) = true := decide_eq_true c5
  clear c5
  replace H := Option.bind_eq_some_iff.mp H
  obtain ⟨t580, A60, H⟩ := H
  replace H : (some t580) = some r := H
  have A6 := Aside0.mk A60
  clear A60
  obtain rfl := Option.some.inj H
  go_enter Try.func69, Try.ntmps69
  go_wp2_with (first | ((with_reducible refine gate_callee (f := 88) rfl ?_); refine goesL_ (some 15) rfl rfl Try.func88 (by kernel_rfl) rfl #[.int .i64 a0, .int .i64 a3, .int .i64 a1] rfl (by (try simp only [List.map_toArray, List.map_cons, List.map_nil]); first | done | rfl | (simp only [List.length_drop, List.length_take]; rfl)) ?_; (with_reducible refine (r5_Low.calls k a0 a3 a1 t580 _ A6.out).mono ?_); rintro e w7 ⟨rfl, hb⟩; refine ⟨_, rfl, ?_⟩; have n0_ := Aside0.mk (below_step (by repeat (first | (with_reducible first | exact HB.out | apply below_alloc | apply pw_below_drewN | apply below_drew1) | exact HB.out)) hb); clear HB; have HB := n0_; clear n0_; (try clear hb); (try clear hb2); (try clear hk); (try clear hi)))
  go_ret
  exact ⟨by first | rfl | (simp [errW_none, errW_some] <;> rfl) | (simp [*, errW_none, errW_some] <;> rfl), by repeat (first | (with_reducible first | exact HB.out | apply below_alloc | apply pw_below_drewN | apply below_drew1) | exact HB.out)⟩
 ·rw [if_neg c5] at H
  have c5b0 : decide (a3 < a1) = false := decide_eq_false c5
  clear c5
  by_cases c8 : a3 > a2
  ·rw [if_pos c8] at H
   have c8b0 : decide (a2 < a3) = true := decide_eq_true c8
   clear c8
   replace H := Option.bind_eq_some_iff.mp H
   obtain ⟨t581, A90, H⟩ := H
   replace H : (some t581) = some r := H
   have A9 := Aside0.mk A90
   clear A90
   obtain rfl := Option.some.inj H
   go_enter Try.func69, Try.ntmps69
   go_wp2_with (first | ((with_reducible refine gate_callee (f := 88) rfl ?_); refine goesL_ (some 22) rfl rfl Try.func88 (by kernel_rfl) rfl #[.int .i64 a0, .int .i64 a3, .int .i64 a2] rfl (by (try simp only [List.map_toArray, List.map_cons, List.map_nil]); first | done | rfl | (simp only [List.length_drop, List.length_take]; rfl)) ?_; (with_reducible refine (r5_Low.calls k a0 a3 a2 t581 _ A9.out).mono ?_); rintro e w10 ⟨rfl, hb⟩; refine ⟨_, rfl, ?_⟩; have n0_ := Aside0.mk (below_step (by repeat (first | (with_reducible first | exact HB.out | apply below_alloc | apply pw_below_drewN | apply below_drew1) | exact HB.out)) hb); clear HB; have HB := n0_; clear n0_; (try clear hb); (try clear hb2); (try clear hk); (try clear hi)))
   go_ret
   exact ⟨by first | rfl | (simp [errW_none, errW_some] <;> rfl) | (simp [*, errW_none, errW_some] <;> rfl), by repeat (first | (with_reducible first | exact HB.out | apply below_alloc | apply pw_below_drewN | apply below_drew1) | exact HB.out)⟩
  ·rw [if_neg c8] at H
   have c8b0 : decide (a2 < a3) = false := decide_eq_false c8
   clear c8
   obtain rfl := Option.some.inj H
   go_enter Try.func69, Try.ntmps69
   go_wp2
   go_ret
   exact ⟨by first | rfl | (simp [errW_none, errW_some] <;> rfl) | (simp [*, errW_none, errW_some] <;> rfl), by repeat (first | (with_reducible first | exact HB.out | apply below_alloc | apply pw_below_drewN | apply below_drew1) | exact HB.out)⟩
def r9_Low.l0 : Nat → Int → List (S57) → List Int → Int → Int → Option (Int × Int × Int)
 | 0, _, _, _, _, _ => none
 | k + 1, x0, x1, x2, x8, x9 => if x9 < (x1.length : Int) then (if 0 ≤ x9 then (if x9 < (x2.length : Int) then ((r5_Gap.f k x0 ((rd_T57 x1 x9).f0) ((rd_T57 x1 x9).f1) (rd x2 x9)).bind fun t587 => (r9_Low.l0 k x0 x1 x2 (mx x8 t587) (wrap64 (x9 + 1)))) else (none)) else (none)) else (some (0, x8, 0))
def r9_Low.f (k : Nat) (a0 : Int) (l1 : List (S57)) (l2 : List Int) : Option (Int × Int × Int) := (r9_asked.f k a0 l1 l2).bind fun t583 => (if t583 = true then (r9_Low.l0 k a0 l1 l2 0 0) else (some (0, 0, 1)))
def r9_Low.T8 : Bool × List (List Nat × List Nat) := (true, [([], []), ([], []), ([], []), ([], []), ([2, 3], [2, 3]), ([4], [4]), ([5], [5]), ([], []), ([], []), ([7, 8], [7, 8]), ([9], [9]), ([10], [10]), ([], []), ([], []), ([12, 13], [12, 13]), ([14], [14]), ([1, 6, 11, 15], [1, 6, 11, 15]), ([0, 16], [0, 16]), ([17, 16, 0, 1, 2, 3, 4, 5, 6, 7, 8, 9, 10, 11, 12, 13, 14, 15, 16, 17], [0, 17])])
def r9_Low.B8 : List Nat := [0, 0, 0, 0, 12, 28, 60, 0, 0, 384, 896, 1920, 0, 0, 12288, 28672, 65534, 131071, 262143]
theorem r9_Low.tab8 : rtab .any (opsOf Try.f36 8) = r9_Low.T8 := by kernel_rfl
theorem r9_Low.bits8 : waitsOk r9_Low.T8.2 r9_Low.B8 = true := by kernel_rfl
set_option maxHeartbeats 8000000 in
set_option maxRecDepth 100000 in
theorem r9_Low.calls (k : Nat) (a0 : Int) (A1 : Option Addr) (c1 : Nat) (l1 : List (S57)) (A2 : Option Addr) (c2 : Nat) (l2 : List Int) (r1 : Int) (r2 : Int) (r3 : Int) (w : World) (hr1 : Kd.C k57 w A1 l1.length l1) (hc1 : l1.length ≤ c1) (hr2 : Kd.C (Kd.int .i64) w A2 l2.length l2) (hc2 : l2.length ≤ c2) (h : r9_Low.f k a0 l1 l2 = some (r1, r2, r3)) :
  Calls Try.prog 36 #[.int .i64 a0, .slice A1 l1.length c1, .slice A2 l2.length c2] w fun e w' => e = .returned (.agg #[.int .i64 r1, .int .i64 r2, .int .i64 r3]) ∧ Below w.heap.size w w' := by
 have hu39 := Try.underlying39
 have HR1 := Aside0.mk hr1
 have HC1 := Aside0.mk hc1
 clear hr1 hc1
 have HR2 := Aside0.mk hr2
 have HC2 := Aside0.mk hc2
 clear hr2 hc2
 have HB := Aside0.mk (Below.refl w.heap.size w)
 have H : ((r9_asked.f k a0 l1 l2).bind fun t583 => (if t583 = true then (r9_Low.l0 k a0 l1 l2 0 0) else (some (0, 0, 1)))) = some (r1, r2, r3) := h
 clear h
 replace H := Option.bind_eq_some_iff.mp H
 obtain ⟨t583, A40, H⟩ := H
 replace H : (if t583 = true then (r9_Low.l0 k a0 l1 l2 0 0) else (some (0, 0, 1))) = some (r1, r2, r3) := H
 have A4 := Aside0.mk A40
 clear A40
 by_cases c5 : t583 = true
 ·subst c5
  have H1 : (r9_Low.l0 k a0 l1 l2 0 0) = some (r1, r2, r3) := by rw [if_pos rfl] at H; exact H
  clear H
  have H := H1
  clear H1
  have H' := Aside0.mk H
  clear H
  go_enter Try.func36, Try.ntmps36
  go_wp2_with (first | ((with_reducible refine gate_dst (N := 6) rfl ?_); refine box_event ?hg (N := 6) ?hd (cs := #[.int .i64 0, .int .i64 0, .int .i64 0]) (t := 39) ?hr ?_; (case hd => rfl); (case hg => rfl); (case hr => first | (go_simp; done) | (go_simp; rfl)); intro gb582 hg w6 hbox hb; have n0_ := Aside0.mk (below_step (by repeat (first | (with_reducible first | exact HB.out | apply below_alloc | apply pw_below_drewN | apply below_drew1) | exact HB.out)) hb); have n1_ := Aside0.mk (hbox); have n2_ := Aside0.mk ((by rw [hg]; exact (below_size (by repeat (first | (with_reducible first | exact HB.out | apply below_alloc | apply pw_below_drewN | apply below_drew1) | exact HB.out))) : w.heap.size ≤ gb582)); have n3_ := Aside0.mk ((by rw [hg]; exact (below_size (by repeat (first | (with_reducible first | exact HB.out | apply below_alloc | apply pw_below_drewN | apply below_drew1) | exact HB.out))) : w.heap.size ≤ gb582)); clear HB; have HB := n0_; have BK582 := n1_; have GW582 := n2_; have GE582 := n3_; clear n0_ n1_ n2_ n3_; clear hb hbox hg) | ((with_reducible refine gate_callee (f := 68) rfl ?_); refine goesL_ (some 13) rfl rfl Try.func68 (by kernel_rfl) rfl #[.int .i64 a0, .slice A1 l1.length c1, .slice A2 l2.length c2] rfl (by (try simp only [List.map_toArray, List.map_cons, List.map_nil]); first | done | rfl | (simp only [List.length_drop, List.length_take]; rfl)) ?_; (with_reducible refine (r9_asked.calls k a0 _ _ l1 _ _ l2 true _ ?side1 ?side2 ?side3 ?side4 A4.out).mono ?_); (case side1 => repeat (first | exact (Kd.C_below HR1.out HB.out) | (with_reducible refine Kd.C_alloc ?_ _) | (with_reducible refine Kd.C_drewN ?_ _) | (with_reducible refine Kd.C_drew ?_))); (case side2 => exact HC1.out); (case side3 => repeat (first | exact (Kd.C_below HR2.out HB.out) | (with_reducible refine Kd.C_alloc ?_ _) | (with_reducible refine Kd.C_drewN ?_ _) | (with_reducible refine Kd.C_drew ?_))); (case side4 => exact HC2.out); rintro e w' ⟨rfl, ⟨nd, rfl⟩⟩; refine ⟨_, rfl, ?_⟩))
  go_loopg [8, 9] k (fun kq v8 v9 w' => ∃ (x8_1 : Int) (x9_1 : Int), v8 = .int .i64 x8_1 ∧ v9 = .int .i64 x9_1 ∧ Aside0 (r9_Low.l0 kq a0 l1 l2 x8_1 x9_1 = some (r1, r2, r3)) ∧ Aside0 (kq ≤ k) ∧ Aside0 (w'.heap[gb582]? = some (.cells #[.int .i64 0, .int .i64 0, .int .i64 0] 39 (0, 0))) ∧ Aside0 (Below w.heap.size w w'))
  case atStart => exact ⟨(0), (0), (by first | rfl | (simp; done) | (simp [*]; done)), (by first | rfl | (simp; done) | (simp [*]; done)), H', ⟨Nat.le_refl _⟩, ⟨by (with_reducible repeat (first | refine blk_drewN ?_ _ | refine blk_drew ?_ | refine blk_alloc ?_ _)); exact BK582.out⟩, ⟨by repeat (first | (with_reducible first | exact HB.out | apply below_alloc | apply pw_below_drewN | apply below_drew1 | refine below_set ?_ GE582.out) | exact HB.out)⟩⟩
  case round =>
   clear H'
   try clear c1
   try clear c2
   try clear p2
   try clear c3
   try clear c5
   try clear c6
   obtain ⟨x8_1, x9_1, rfl, rfl, HA, HK1, BK582, HB⟩ := hrel
   cases gk with
   | zero => exact absurd HA.out (by simp [r9_Low.l0])
   | succ k1 =>
    have H := HA.out
    clear HA
    simp only [r9_Low.l0] at H
    by_cases c7 : x9_1 < (l1.length : Int)
    ·rw [if_pos c7] at H
     have c7b0 : decide (x9_1 < (l1.length : Int)) = true := decide_eq_true c7
     clear c7
     by_cases c8 : 0 ≤ x9_1
     ·rw [if_pos c8] at H
      have c8b0 : decide (0 ≤ x9_1) = true := decide_eq_true c8
      clear c8
      by_cases c9 : x9_1 < (l2.length : Int)
      ·rw [if_pos c9] at H
       have c9b0 : decide (x9_1 < (l2.length : Int)) = true := decide_eq_true c9
       clear c9
       replace H := Option.bind_eq_some_iff.mp H
       obtain ⟨t587, A100, H⟩ := H
       replace H : (r9_Low.l0 k1 a0 l1 l2 (mx x8_1 t587) (wrap64 (x9_1 + 1))) = some (r1, r2, r3) := H
       have A10 := Aside0.mk A100
       clear A100
       obtain ⟨ji11, hji11⟩ : ∃ j_ : Int, (mx x8_1 t587) = j_ := ⟨_, rfl⟩
       replace H : (r9_Low.l0 k1 a0 l1 l2 ji11 (wrap64 (x9_1 + 1))) = some (r1, r2, r3) := by first | (rw [hji11] at H; exact H) | (simp only [hji11] at H ⊢; exact H)
       (try rw [hji11] at A10)
       have hji11_ : (if x8_1 < t587 then t587 else x8_1) = ji11 := hji11
       have H' := Aside0.mk H
       clear H
       try go_wp2
       have n0_ := Aside0.mk (blk_drew BK582.out)
       have n1_ := Aside0.mk (below_drew1 HB.out)
       clear BK582
       clear HB
       have BK582 := n0_
       have HB := n1_
       clear n0_ n1_
       have p584 : 0 ≤ (x9_1 : Int) := of_decide_eq_true (by first | (with_reducible assumption) | assumption)
       have q584 : x9_1 < (l1.length : Int) := of_decide_eq_true (by first | (with_reducible assumption) | assumption)
       obtain ⟨ad584, e584, hx584_0, hx584_1⟩ := at_T57 HR1.out x9_1 p584 q584
       have hw584_1 := hx584_1
       have hw584_0 := hx584_0
       cases e584
       replace hx584_0 := (HB.out.cell (World.block_lt_of_cell? w _ hx584_0)).trans hx584_0
       replace hx584_1 := (HB.out.cell (World.block_lt_of_cell? w _ hx584_1)).trans hx584_1
       replace p584 := eq_true p584
       replace q584 := eq_true q584
       have p585 : 0 ≤ (x9_1 : Int) := of_decide_eq_true (by first | (with_reducible assumption) | assumption)
       have q585 : x9_1 < (l1.length : Int) := of_decide_eq_true (by first | (with_reducible assumption) | assumption)
       obtain ⟨ad585, e585, hx585_0, hx585_1⟩ := at_T57 HR1.out x9_1 p585 q585
       have hw585_1 := hx585_1
       have hw585_0 := hx585_0
       obtain rfl : ad584 = ad585 := (by injection e585)
       replace hx585_0 := (HB.out.cell (World.block_lt_of_cell? w _ hx585_0)).trans hx585_0
       replace hx585_1 := (HB.out.cell (World.block_lt_of_cell? w _ hx585_1)).trans hx585_1
       replace p585 := eq_true p585
       replace q585 := eq_true q585
       have p586 : 0 ≤ (x9_1 : Int) := of_decide_eq_true (by first | (with_reducible assumption) | assumption)
       have q586 : x9_1 < (l2.length : Int) := of_decide_eq_true (by first | (with_reducible assumption) | assumption)
       obtain ⟨ad586, e586, hx586_0⟩ := Kd.at_int HR2.out x9_1 p586 q586
       have hw586_0 := hx586_0
       cases e586
       replace hx586_0 := (HB.out.cell (World.block_lt_of_cell? w _ hx586_0)).trans hx586_0
       replace p586 := eq_true p586
       replace q586 := eq_true q586
       refine start_ (n := 19) (S := fun w' => w'.cell? (ad584.add ((x9_1).toNat * 2)) = some (.int .i64 ((rd_T57 l1 x9_1).f0)) ∧ w'.cell? ⟨(ad584.add ((x9_1).toNat * 2)).block, (ad584.add ((x9_1).toNat * 2)).off + 1, none⟩ = some (.int .i64 ((rd_T57 l1 x9_1).f1)) ∧ w'.cell? (ad584.add ((x9_1).toNat * 2)) = some (.int .i64 ((rd_T57 l1 x9_1).f0)) ∧ w'.cell? ⟨(ad584.add ((x9_1).toNat * 2)).block, (ad584.add ((x9_1).toNat * 2)).off + 1, none⟩ = some (.int .i64 ((rd_T57 l1 x9_1).f1)) ∧ w'.cell? (ad586.add (x9_1).toNat) = some (.int .i64 (rd l2 x9_1))) (ds := []) #[false, false, false, false, false, false, false, false, false, false, false, false, false, false, false, false, false, false, false] (by kernel_rfl) rfl rfl ⟨((HB.out.cell (World.block_lt_of_cell? w _ hw584_0)).trans hw584_0), ((HB.out.cell (World.block_lt_of_cell? w _ hw584_1)).trans hw584_1), ((HB.out.cell (World.block_lt_of_cell? w _ hw585_0)).trans hw585_0), ((HB.out.cell (World.block_lt_of_cell? w _ hw585_1)).trans hw585_1), ((HB.out.cell (World.block_lt_of_cell? w _ hw586_0)).trans hw586_0)⟩ (fun hHeld => ?_); refine with_tabW r9_Low.tab8 r9_Low.bits8 (fun HT_ HW_ => ?_)
       generalize wr.drew = w12 at BK582 HB hx584_0 hx584_1 hx585_0 hx585_1 hx586_0 hHeld ⊢
       refine pure_ (i := 0) (N := some 23) (v := ?_) (a' := ?_) #[true, false, false, false, false, false, false, false, false, false, false, false, false, false, false, false, false, false, false] rfl rfl (any_of HT_.out (by kernel_rfl)) (fun _ _ _ h => h) (Or.inl ⟨by rfl, ?_⟩) ?_ ?_
       rotate_left
       ·intro w'
        go_simp
        with_reducible rfl
       rotate_left
       ·simp only [Act.put, List.setIfInBounds_toArray, List.set_cons_zero, List.set_cons_succ, i64_w, i32_w]
        rfl
       refine pure_ (i := 1) (N := some 24) (v := ?_) (a' := ?_) #[true, true, false, false, false, false, false, false, false, false, false, false, false, false, false, false, false, false, false] rfl rfl (any_of HT_.out (by kernel_rfl)) (fun _ _ _ h => h) (Or.inl ⟨by rfl, ?_⟩) ?_ ?_
       rotate_left
       ·intro w'
        go_simp
        with_reducible rfl
       rotate_left
       ·simp only [Act.put, List.setIfInBounds_toArray, List.set_cons_zero, List.set_cons_succ, i64_w, i32_w]
        rfl
       refine pure_ (i := 2) (N := some 25) (v := ?_) (a' := ?_) #[true, true, true, false, false, false, false, false, false, false, false, false, false, false, false, false, false, false, false] rfl rfl (any_of HT_.out (by kernel_rfl)) (fun _ _ _ h => h) (Or.inl ⟨by rfl, ?_⟩) ?_ ?_
       rotate_left
       ·intro w'
        go_simp
        with_reducible rfl
       rotate_left
       ·simp only [Act.put, List.setIfInBounds_toArray, List.set_cons_zero, List.set_cons_succ, i64_w, i32_w]
        rfl
       refine pure_ (i := 3) (N := some 26) (v := ?_) (a' := ?_) #[true, true, true, true, false, false, false, false, false, false, false, false, false, false, false, false, false, false, false] rfl rfl (any_of HT_.out (by kernel_rfl)) (fun _ _ _ h => h) (Or.inl ⟨by rfl, ?_⟩) ?_ ?_
       rotate_left
       ·intro w'
        go_simp
        with_reducible rfl
       rotate_left
       ·simp only [Act.put, List.setIfInBounds_toArray, List.set_cons_zero, List.set_cons_succ, i64_w, i32_w]
        rfl
       refine pure_ (i := 4) (N := some 27) (v := ?_) (a' := ?_) #[true, true, true, true, true, false, false, false, false, false, false, false, false, false, false, false, false, false, false] rfl rfl (any_of HT_.out (by kernel_rfl)) (fun _ _ _ h => h) (Or.inl ⟨by rfl, ?_⟩) ?_ ?_
       rotate_left
       ·intro w'
        go_simp
        with_reducible rfl
       rotate_left
       ·simp only [Act.put, List.setIfInBounds_toArray, List.set_cons_zero, List.set_cons_succ, i64_w, i32_w]
        rfl
       refine pure_ (i := 5) (N := some 28) (v := ?_) (a' := ?_) #[true, true, true, true, true, true, false, false, false, false, false, false, false, false, false, false, false, false, false] rfl rfl (any_of HT_.out (by kernel_rfl)) (fun _ _ _ h => h) (Or.inl ⟨by rfl, ?_⟩) ?_ ?_
       rotate_left
       ·intro w'
        go_simp
        with_reducible rfl
       rotate_left
       ·simp only [Act.put, List.setIfInBounds_toArray, List.set_cons_zero, List.set_cons_succ, i64_w, i32_w]
        rfl
       refine pure_ (i := 7) (N := some 30) (v := ?_) (a' := ?_) #[true, true, true, true, true, true, false, true, false, false, false, false, false, false, false, false, false, false, false] rfl rfl (any_of HT_.out (by kernel_rfl)) (fun _ _ _ h => h) (Or.inl ⟨by rfl, ?_⟩) ?_ ?_
       rotate_left
       ·intro w'
        go_simp
        with_reducible rfl
       rotate_left
       ·simp only [Act.put, List.setIfInBounds_toArray, List.set_cons_zero, List.set_cons_succ, i64_w, i32_w]
        rfl
       refine pure_ (i := 8) (N := some 31) (v := ?_) (a' := ?_) #[true, true, true, true, true, true, false, true, true, false, false, false, false, false, false, false, false, false, false] rfl rfl (any_of HT_.out (by kernel_rfl)) (fun _ _ _ h => h) (Or.inl ⟨by rfl, ?_⟩) ?_ ?_
       rotate_left
       ·intro w'
        go_simp
        with_reducible rfl
       rotate_left
       ·simp only [Act.put, List.setIfInBounds_toArray, List.set_cons_zero, List.set_cons_succ, i64_w, i32_w]
        rfl
       refine pure_ (i := 9) (N := some 32) (v := ?_) (a' := ?_) #[true, true, true, true, true, true, false, true, true, true, false, false, false, false, false, false, false, false, false] rfl rfl (any_of HT_.out (by kernel_rfl)) (fun _ _ _ h => h) (Or.inl ⟨by rfl, ?_⟩) ?_ ?_
       rotate_left
       ·intro w'
        go_simp
        with_reducible rfl
       rotate_left
       ·simp only [Act.put, List.setIfInBounds_toArray, List.set_cons_zero, List.set_cons_succ, i64_w, i32_w]
        rfl
       refine pure_ (i := 10) (N := some 33) (v := ?_) (a' := ?_) #[true, true, true, true, true, true, false, true, true, true, true, false, false, false, false, false, false, false, false] rfl rfl (any_of HT_.out (by kernel_rfl)) (fun _ _ _ h => h) (Or.inl ⟨by rfl, ?_⟩) ?_ ?_
       rotate_left
       ·intro w'
        go_simp
        with_reducible rfl
       rotate_left
       ·simp only [Act.put, List.setIfInBounds_toArray, List.set_cons_zero, List.set_cons_succ, i64_w, i32_w]
        rfl
       refine pure_ (i := 12) (N := some 35) (v := ?_) (a' := ?_) #[true, true, true, true, true, true, false, true, true, true, true, false, true, false, false, false, false, false, false] rfl rfl (any_of HT_.out (by kernel_rfl)) (fun _ _ _ h => h) (Or.inl ⟨by rfl, ?_⟩) ?_ ?_
       rotate_left
       ·intro w'
        go_simp
        with_reducible rfl
       rotate_left
       ·simp only [Act.put, List.setIfInBounds_toArray, List.set_cons_zero, List.set_cons_succ, i64_w, i32_w]
        rfl
       refine pure_ (i := 13) (N := some 36) (v := ?_) (a' := ?_) #[true, true, true, true, true, true, false, true, true, true, true, false, true, true, false, false, false, false, false] rfl rfl (any_of HT_.out (by kernel_rfl)) (fun _ _ _ h => h) (Or.inl ⟨by rfl, ?_⟩) ?_ ?_
       rotate_left
       ·intro w'
        go_simp
        with_reducible rfl
       rotate_left
       ·simp only [Act.put, List.setIfInBounds_toArray, List.set_cons_zero, List.set_cons_succ, i64_w, i32_w]
        rfl
       refine pure_ (i := 14) (N := some 37) (v := ?_) (a' := ?_) #[true, true, true, true, true, true, false, true, true, true, true, false, true, true, true, false, false, false, false] rfl rfl (any_of HT_.out (by kernel_rfl)) (fun _ _ _ h => h) (Or.inl ⟨by rfl, ?_⟩) ?_ ?_
       rotate_left
       ·intro w'
        go_simp
        with_reducible rfl
       rotate_left
       ·simp only [Act.put, List.setIfInBounds_toArray, List.set_cons_zero, List.set_cons_succ, i64_w, i32_w]
        rfl
       refine take_ (i := 6) (N := some 29) (v := ?_) (a' := ?_) #[true, true, true, true, true, true, true, true, true, true, true, false, true, true, true, false, false, false, false] rfl rfl (take_ofW HT_.out HW_.out (by kernel_rfl)) (fun _ _ _ h => h) (Or.inl ⟨by rfl, ?_⟩) hHeld ?_ ?_
       rotate_left
       ·rintro w' ⟨s0, s1, s2, s3, s4⟩
        go_simp
        with_reducible rfl
       rotate_left
       ·simp only [Act.put, List.setIfInBounds_toArray, List.set_cons_zero, List.set_cons_succ, i64_w, i32_w]
        rfl
       refine take_ (i := 11) (N := some 34) (v := ?_) (a' := ?_) #[true, true, true, true, true, true, true, true, true, true, true, true, true, true, true, false, false, false, false] rfl rfl (take_ofW HT_.out HW_.out (by kernel_rfl)) (fun _ _ _ h => h) (Or.inl ⟨by rfl, ?_⟩) hHeld ?_ ?_
       rotate_left
       ·rintro w' ⟨s0, s1, s2, s3, s4⟩
        go_simp
        with_reducible rfl
       rotate_left
       ·simp only [Act.put, List.setIfInBounds_toArray, List.set_cons_zero, List.set_cons_succ, i64_w, i32_w]
        rfl
       refine take_ (i := 15) (N := some 38) (v := ?_) (a' := ?_) #[true, true, true, true, true, true, true, true, true, true, true, true, true, true, true, true, false, false, false] rfl rfl (take_ofW HT_.out HW_.out (by kernel_rfl)) (fun _ _ _ h => h) (Or.inl ⟨by rfl, ?_⟩) hHeld ?_ ?_
       rotate_left
       ·rintro w' ⟨s0, s1, s2, s3, s4⟩
        go_simp
        with_reducible rfl
       rotate_left
       ·simp only [Act.put, List.setIfInBounds_toArray, List.set_cons_zero, List.set_cons_succ, i64_w, i32_w]
        rfl
       refine one_ (i := 16) (N := some 39) #[true, true, true, true, true, true, true, true, true, true, true, true, true, true, true, true, true, false, false] rfl rfl (one_of HT_.out (by kernel_rfl)) (by decide) (fun K hK => ?_)
       refine goes_ Try.func69 (by kernel_rfl) rfl #[.int .i64 a0, .int .i64 ((rd_T57 l1 x9_1).f0), .int .i64 ((rd_T57 l1 x9_1).f1), .int .i64 (rd l2 x9_1)] (by rfl) rfl rfl (by (try simp only [List.map_toArray, List.map_cons, List.map_nil]); first | done | rfl | (simp only [List.length_drop, List.length_take]; rfl)) ?_
       with_reducible refine (r5_Gap.calls k1 a0 ((rd_T57 l1 x9_1).f0) ((rd_T57 l1 x9_1).f1) (rd l2 x9_1) t587 _ A10.out).mono ?_
       rintro e w13 ⟨rfl, hb⟩
       refine ⟨_, rfl, ?_⟩
       have n0_ := Aside0.mk (blk_below (g := gb582) (o := .cells #[.int .i64 0, .int .i64 0, .int .i64 0] 39 (0, 0)) (by (with_reducible repeat (first | refine blk_drewN ?_ _ | refine blk_drew ?_ | refine blk_alloc ?_ _)); exact BK582.out) hb)
       have n1_ := Aside0.mk (below_step (by repeat (first | (with_reducible first | exact HB.out | apply below_alloc | apply pw_below_drewN | apply below_drew1 | refine below_set ?_ GE582.out) | exact HB.out)) hb)
       clear BK582
       clear HB
       have BK582 := n0_
       have HB := n1_
       clear n0_ n1_
       (try clear hb)
       (try clear hb2)
       (try clear hk)
       (try clear hi)
       refine hK.out _ _ ⟨((HB.out.cell (World.block_lt_of_cell? w _ hw584_0)).trans hw584_0), ((HB.out.cell (World.block_lt_of_cell? w _ hw584_1)).trans hw584_1), ((HB.out.cell (World.block_lt_of_cell? w _ hw585_0)).trans hw585_0), ((HB.out.cell (World.block_lt_of_cell? w _ hw585_1)).trans hw585_1), ((HB.out.cell (World.block_lt_of_cell? w _ hw586_0)).trans hw586_0)⟩ (fun hHeld => ?_)
       clear hK K
       refine norm_ (a' := ?_) ?_ ?_
       rotate_left
       ·show Act.put _ (some 39) _ = _
        simp only [Act.put, List.setIfInBounds_toArray, List.set_cons_zero, List.set_cons_succ, i64_w, i32_w]
        rfl
       refine pure_ (i := 17) (N := some 40) (v := ?_) (a' := ?_) #[true, true, true, true, true, true, true, true, true, true, true, true, true, true, true, true, true, true, false] rfl rfl (any_of HT_.out (by kernel_rfl)) (fun _ _ _ h => h) (Or.inl ⟨by rfl, ?_⟩) ?_ ?_
       rotate_left
       ·intro w'
        go_simp
        with_reducible rfl
       rotate_left
       ·simp only [Act.put, List.setIfInBounds_toArray, List.set_cons_zero, List.set_cons_succ, i64_w, i32_w]
        rfl
       refine pure_ (i := 18) (N := some 8) (v := ?_) (a' := ?_) #[true, true, true, true, true, true, true, true, true, true, true, true, true, true, true, true, true, true, true] rfl rfl (any_of HT_.out (by kernel_rfl)) (fun _ _ _ h => h) (Or.inl ⟨by rfl, ?_⟩) ?_ ?_
       rotate_left
       ·intro w'
        go_simp
        with_reducible rfl
       rotate_left
       ·simp only [Act.put, List.setIfInBounds_toArray, List.set_cons_zero, List.set_cons_succ, i64_w, i32_w]
        rfl
       refine done_ (done_of HT_.out (by kernel_rfl)) ?_
       try go_wp2
       go_roundg k1
       case measure => have := HK1.out; omega
       case rel => exact ⟨(ji11), (wrap64 (x9_1 + 1)), (by first | rfl | (simp; done) | (simp only [← hji11] <;> (first | rfl | simp)) | (simp [*]; done)), (by first | rfl | (simp; done) | (simp [*]; done)), H', ⟨by have := HK1.out; omega⟩, ⟨by (with_reducible repeat (first | refine blk_drewN ?_ _ | refine blk_drew ?_ | refine blk_alloc ?_ _)); exact BK582.out⟩, ⟨by repeat (first | (with_reducible first | exact HB.out | apply below_alloc | apply pw_below_drewN | apply below_drew1 | refine below_set ?_ GE582.out) | exact HB.out)⟩⟩
      ·rw [if_neg c9] at H
       exact absurd H (by simp)
     ·rw [if_neg c8] at H
      exact absurd H (by simp)
    ·rw [if_neg c7] at H
     have c7b0 : decide (x9_1 < (l1.length : Int)) = false := decide_eq_false c7
     clear c7
     simp only [Option.some.injEq, Prod.mk.injEq] at H
     obtain ⟨rfl, rfl, rfl⟩ := H
     have hcz14_0 : wr.cell? ⟨gb582, 0, none⟩ = some (.int .i64 0) := (blk_cell BK582.out 0).trans rfl
     have hcz14_1 : wr.cell? ⟨gb582, 1, none⟩ = some (.int .i64 0) := (blk_cell BK582.out 1).trans rfl
     have hcz14_2 : wr.cell? ⟨gb582, 2, none⟩ = some (.int .i64 0) := (blk_cell BK582.out 2).trans rfl
     have hfz14_0 := blk_frozen BK582.out 0
     have hfz14_1 := blk_frozen BK582.out 1
     have hfz14_2 := blk_frozen BK582.out 2
     go_wp2
     refine bodyPost_ret (results_cell_row rfl _ _ gb582 39 #[.int .i64 0, .int .i64 x8_1, .int .i64 0] (0, 0) _ rfl (by (with_reducible repeat (first | refine blk_drewN ?_ _ | refine blk_drew ?_ | refine blk_alloc ?_ _)); refine blk_put (cs := #[.int .i64 0, .int .i64 x8_1, .int .i64 0]) ?_ 2 _ rfl; (with_reducible repeat (first | refine blk_drewN ?_ _ | refine blk_drew ?_ | refine blk_alloc ?_ _)); refine blk_put (cs := #[.int .i64 0, .int .i64 0, .int .i64 0]) ?_ 1 _ rfl; (with_reducible repeat (first | refine blk_drewN ?_ _ | refine blk_drew ?_ | refine blk_alloc ?_ _)); refine blk_put (cs := #[.int .i64 0, .int .i64 0, .int .i64 0]) ?_ 0 _ rfl; (with_reducible repeat (first | refine blk_drewN ?_ _ | refine blk_drew ?_ | refine blk_alloc ?_ _)); exact BK582.out) Try.underlying39 rfl (by kernel_rfl)) rfl ?_
     exact ⟨by first | rfl | (simp [errW_none, errW_some] <;> rfl) | (simp [*, errW_none, errW_some] <;> rfl), by repeat (first | (with_reducible first | exact HB.out | apply below_alloc | apply pw_below_drewN | apply below_drew1 | refine below_set ?_ GE582.out) | exact HB.out)⟩
 ·replace c5 := Bool.eq_false_iff.mpr c5
  subst c5
  have H1 : (some (0, 0, 1)) = some (r1, r2, r3) := by rw [if_neg (show ¬ (false = true) by decide)] at H; exact H
  clear H
  have H := H1
  clear H1
  simp only [Option.some.injEq, Prod.mk.injEq] at H
  obtain ⟨rfl, rfl, rfl⟩ := H
  go_enter Try.func36, Try.ntmps36
  go_wp2_with (first | ((with_reducible refine gate_dst (N := 6) rfl ?_); refine box_event ?hg (N := 6) ?hd (cs := #[.int .i64 0, .int .i64 0, .int .i64 0]) (t := 39) ?hr ?_; (case hd => rfl); (case hg => rfl); (case hr => first | (go_simp; done) | (go_simp; rfl)); intro gb582 hg w15 hbox hb; have n0_ := Aside0.mk (below_step (by repeat (first | (with_reducible first | exact HB.out | apply below_alloc | apply pw_below_drewN | apply below_drew1) | exact HB.out)) hb); have n1_ := Aside0.mk (hbox); have n2_ := Aside0.mk ((by rw [hg]; exact (below_size (by repeat (first | (with_reducible first | exact HB.out | apply below_alloc | apply pw_below_drewN | apply below_drew1) | exact HB.out))) : w.heap.size ≤ gb582)); have n3_ := Aside0.mk ((by rw [hg]; exact (below_size (by repeat (first | (with_reducible first | exact HB.out | apply below_alloc | apply pw_below_drewN | apply below_drew1) | exact HB.out))) : w.heap.size ≤ gb582)); clear HB; have HB := n0_; have BK582 := n1_; have GW582 := n2_; have GE582 := n3_; clear n0_ n1_ n2_ n3_; clear hb hbox hg) | ((with_reducible refine gate_callee (f := 68) rfl ?_); refine goesL_ (some 13) rfl rfl Try.func68 (by kernel_rfl) rfl #[.int .i64 a0, .slice A1 l1.length c1, .slice A2 l2.length c2] rfl (by (try simp only [List.map_toArray, List.map_cons, List.map_nil]); first | done | rfl | (simp only [List.length_drop, List.length_take]; rfl)) ?_; (with_reducible refine (r9_asked.calls k a0 _ _ l1 _ _ l2 false _ ?side1 ?side2 ?side3 ?side4 A4.out).mono ?_); (case side1 => repeat (first | exact (Kd.C_below HR1.out HB.out) | (with_reducible refine Kd.C_alloc ?_ _) | (with_reducible refine Kd.C_drewN ?_ _) | (with_reducible refine Kd.C_drew ?_))); (case side2 => exact HC1.out); (case side3 => repeat (first | exact (Kd.C_below HR2.out HB.out) | (with_reducible refine Kd.C_alloc ?_ _) | (with_reducible refine Kd.C_drewN ?_ _) | (with_reducible refine Kd.C_drew ?_))); (case side4 => exact HC2.out); rintro e w' ⟨rfl, ⟨nd, rfl⟩⟩; refine ⟨_, rfl, ?_⟩; (try (rw [drewN_self w15]; generalize hq_ : World.drewN w15 _ = w15; have n0_ : Aside0 (w15.heap[gb582]? = some (.cells #[.int .i64 0, .int .i64 0, .int .i64 0] 39 (0, 0))) := ⟨by rw [← hq_]; exact (by (with_reducible repeat (first | refine blk_drewN ?_ _ | refine blk_drew ?_ | refine blk_alloc ?_ _)); exact BK582.out)⟩; have n1_ : Aside0 (Below w.heap.size w w15) := ⟨by rw [← hq_]; exact (by repeat (first | (with_reducible first | exact HB.out | apply below_alloc | apply pw_below_drewN | apply below_drew1 | refine below_set ?_ GE582.out) | exact HB.out))⟩; clear BK582 HB hq_; have BK582 := n0_; have HB := n1_; clear n0_ n1_)); have hcz16_0 : w15.cell? ⟨gb582, 0, none⟩ = some (.int .i64 0) := (blk_cell BK582.out 0).trans rfl; have hcz16_1 : w15.cell? ⟨gb582, 1, none⟩ = some (.int .i64 0) := (blk_cell BK582.out 1).trans rfl; have hcz16_2 : w15.cell? ⟨gb582, 2, none⟩ = some (.int .i64 0) := (blk_cell BK582.out 2).trans rfl; have hfz16_0 := blk_frozen BK582.out 0; have hfz16_1 := blk_frozen BK582.out 1; have hfz16_2 := blk_frozen BK582.out 2))
  refine bodyPost_ret (results_cell_row rfl _ _ gb582 39 #[.int .i64 0, .int .i64 0, .int .i64 1] (0, 0) _ rfl (by (with_reducible repeat (first | refine blk_drewN ?_ _ | refine blk_drew ?_ | refine blk_alloc ?_ _)); refine blk_put (cs := #[.int .i64 0, .int .i64 0, .int .i64 0]) ?_ 2 _ rfl; (with_reducible repeat (first | refine blk_drewN ?_ _ | refine blk_drew ?_ | refine blk_alloc ?_ _)); refine blk_put (cs := #[.int .i64 0, .int .i64 0, .int .i64 0]) ?_ 1 _ rfl; (with_reducible repeat (first | refine blk_drewN ?_ _ | refine blk_drew ?_ | refine blk_alloc ?_ _)); refine blk_put (cs := #[.int .i64 0, .int .i64 0, .int .i64 0]) ?_ 0 _ rfl; (with_reducible repeat (first | refine blk_drewN ?_ _ | refine blk_drew ?_ | refine blk_alloc ?_ _)); exact BK582.out) Try.underlying39 rfl (by kernel_rfl)) rfl ?_
  exact ⟨by first | rfl | (simp [errW_none, errW_some] <;> rfl) | (simp [*, errW_none, errW_some] <;> rfl), by repeat (first | (with_reducible first | exact HB.out | apply below_alloc | apply pw_below_drewN | apply below_drew1 | refine below_set ?_ GE582.out) | exact HB.out)⟩
def r5_High.f (k : Nat) (a0 : Int) (a1 : Int) (a2 : Int) : Option (Int) := if a0 = 2 then ((r5_Isqrt.f k (wrap64 ((wrap64 (4 * a1)) * a2))).bind fun t588 => (if (wrap64 ((wrap64 (a1 + a2)) + t588)) > 134217728 then (some 134217728) else (some (wrap64 ((wrap64 (a1 + a2)) + t588))))) else (if (wrap64 (a1 + a2)) > 134217728 then (some 134217728) else (some (wrap64 (a1 + a2))))
set_option maxHeartbeats 8000000 in
set_option maxRecDepth 100000 in
theorem r5_High.calls (k : Nat) (a0 : Int) (a1 : Int) (a2 : Int) (r : Int) (w : World) (h : r5_High.f k a0 a1 a2 = some r) :
  Calls Try.prog 89 #[.int .i64 a0, .int .i64 a1, .int .i64 a2] w fun e w' => e = .returned (.int .i64 r) ∧ Drawn0 w w' := by
 have H : (if a0 = 2 then ((r5_Isqrt.f k (wrap64 ((wrap64 (4 * a1)) * a2))).bind fun t588 => (if (wrap64 ((wrap64 (a1 + a2)) + t588)) > 134217728 then (some 134217728) else (some (wrap64 ((wrap64 (a1 + a2)) + t588))))) else (if (wrap64 (a1 + a2)) > 134217728 then (some 134217728) else (some (wrap64 (a1 + a2))))) = some r := h
 clear h
 by_cases c4 : a0 = 2
 ·rw [if_pos c4] at H
  have c4b0 : (a0 == 2) = true := beq_iff_eq.mpr c4
  have c4b1 : (a0 != 2) = false := bne_eq_false_iff_eq.mpr c4
  clear c4
  replace H := Option.bind_eq_some_iff.mp H
  obtain ⟨t588, A50, H⟩ := H
  replace H : (if (wrap64 ((wrap64 (a1 + a2)) + t588)) > 134217728 then (some 134217728) else (some (wrap64 ((wrap64 (a1 + a2)) + t588)))) = some r := H
  have A5 := Aside0.mk A50
  clear A50
  by_cases c6 : (wrap64 ((wrap64 (a1 + a2)) + t588)) > 134217728
  ·rw [if_pos c6] at H
   have c6b0 : decide (134217728 < (wrap64 ((wrap64 (a1 + a2)) + t588))) = true := decide_eq_true c6
   clear c6
   obtain rfl := Option.some.inj H
   go_enter Try.func89, Try.ntmps89
   go_wp2_with (first | ((with_reducible refine gate_callee (f := 100) rfl ?_); refine goesL_ (some 18) rfl rfl Try.func100 (by kernel_rfl) rfl #[.int .i64 (wrap64 ((wrap64 (4 * a1)) * a2))] rfl (by (try simp only [List.map_toArray, List.map_cons, List.map_nil]); first | done | rfl | (simp only [List.length_drop, List.length_take]; rfl)) ?_; (with_reducible refine (r5_Isqrt.calls k (wrap64 ((wrap64 (4 * a1)) * a2)) t588 _ A5.out).mono ?_); rintro e w' ⟨rfl, ⟨nd, rfl⟩⟩; refine ⟨_, rfl, ?_⟩))
   go_ret
   exact ⟨by first | rfl | (simp; done) | (simp [*]; done), by repeat (first | exact Drawn0.refl _ | apply Drawn0.step)⟩
  ·rw [if_neg c6] at H
   have c6b0 : decide (134217728 < (wrap64 ((wrap64 (a1 + a2)) + t588))) = false := decide_eq_false c6
   clear c6
   obtain rfl := Option.some.inj H
   go_enter Try.func89, Try.ntmps89
   go_wp2_with (first | ((with_reducible refine gate_callee (f := 100) rfl ?_); refine goesL_ (some 18) rfl rfl Try.func100 (by kernel_rfl) rfl #[.int .i64 (wrap64 ((wrap64 (4 * a1)) * a2))] rfl (by (try simp only [List.map_toArray, List.map_cons, List.map_nil]); first | done | rfl | (simp only [List.length_drop, List.length_take]; rfl)) ?_; (with_reducible refine (r5_Isqrt.calls k (wrap64 ((wrap64 (4 * a1)) * a2)) t588 _ A5.out).mono ?_); rintro e w' ⟨rfl, ⟨nd, rfl⟩⟩; refine ⟨_, rfl, ?_⟩))
   go_ret
   exact ⟨by first | rfl | (simp; done) | (simp [*]; done), by repeat (first | exact Drawn0.refl _ | apply Drawn0.step)⟩
 ·rw [if_neg c4] at H
  have c4b0 : (a0 == 2) = false := beq_eq_false_iff_ne.mpr c4
  have c4b1 : (a0 != 2) = true := bne_iff_ne.mpr c4
  by_cases c7 : (wrap64 (a1 + a2)) > 134217728
  ·rw [if_pos c7] at H
   have c7b0 : decide (134217728 < (wrap64 (a1 + a2))) = true := decide_eq_true c7
   clear c7
   obtain rfl := Option.some.inj H
   go_enter Try.func89, Try.ntmps89
   go_wp2
   go_ret
   exact ⟨by first | rfl | (simp; done) | (simp [*]; done), by repeat (first | exact Drawn0.refl _ | apply Drawn0.step)⟩
  ·rw [if_neg c7] at H
   have c7b0 : decide (134217728 < (wrap64 (a1 + a2))) = false := decide_eq_false c7
   clear c7
   obtain rfl := Option.some.inj H
   go_enter Try.func89, Try.ntmps89
   go_wp2
   go_ret
   exact ⟨by first | rfl | (simp; done) | (simp [*]; done), by repeat (first | exact Drawn0.refl _ | apply Drawn0.step)⟩
end Go.Proofs.Ytoidpkpgeeeggaa.Q
end
section
namespace Go.Proofs.Ytoidpkpgeeeggaa.Q
open Go.RowKit Go.Proofs.YtoidpkpgeeeggaaW.PrintWords Go.Proofs.YtoidpkpgeeeggaaW.PrintLast Go.Proofs.YtoidpkpgeeeggaaW.PrintMore
attribute [local go_sem] max2_int min2_int max_two min_two max_three min_three max_four min_four   -- for this text's walks alone
set_option linter.unusedVariables false
set_option linter.unusedSimpArgs false
def r5_Reach.f (k : Nat) (a0 : Int) (a1 : Int) (a2 : Int) (a3 : Int) : Option (Int) := (r5_High.f k a0 a3 a1).bind fun t589 => ((r5_High.f k a0 a3 a2).bind fun t590 => (if t589 > t590 then (some t589) else (some t590)))
set_option maxHeartbeats 8000000 in
set_option maxRecDepth 100000 in
theorem r5_Reach.calls (k : Nat) (a0 : Int) (a1 : Int) (a2 : Int) (a3 : Int) (r : Int) (w : World) (h : r5_Reach.f k a0 a1 a2 a3 = some r) :
  Calls Try.prog 70 #[.int .i64 a0, .int .i64 a1, .int .i64 a2, .int .i64 a3] w fun e w' => e = .returned (.int .i64 r) ∧ Drawn0 w w' := by
 have H : ((r5_High.f k a0 a3 a1).bind fun t589 => ((r5_High.f k a0 a3 a2).bind fun t590 => (if t589 > t590 then (some t589) else (some t590)))) = some r := h
 clear h
 replace H := Option.bind_eq_some_iff.mp H
 obtain ⟨t589, A50, H⟩ := H
 replace H : ((r5_High.f k a0 a3 a2).bind fun t590 => (if t589 > t590 then (some t589) else (some t590))) = some r := H
 have A5 := Aside0.mk A50
 clear A50
 replace H := Option.bind_eq_some_iff.mp H
 obtain ⟨t590, A60, H⟩ := H
 replace H : (if t589 > t590 then (some t589) else (some t590)) = some r := H
 have A6 := Aside0.mk A60
 clear A60
 by_cases c7 : t589 > t590
 ·rw [if_pos c7] at H
  have c7b0 : decide (t590 < t589) = true := decide_eq_true c7
  clear c7
  obtain rfl := Option.some.inj H
  go_enter Try.func70, Try.ntmps70
  go_wp2_with (first | ((with_reducible refine gate_callee (f := 89) rfl ?_); refine goesL_ (some 14) rfl rfl Try.func89 (by kernel_rfl) rfl #[.int .i64 a0, .int .i64 a3, .int .i64 a1] rfl (by (try simp only [List.map_toArray, List.map_cons, List.map_nil]); first | done | rfl | (simp only [List.length_drop, List.length_take]; rfl)) ?_; (with_reducible refine (r5_High.calls k a0 a3 a1 t589 _ A5.out).mono ?_); rintro e w' ⟨rfl, ⟨nd, rfl⟩⟩; refine ⟨_, rfl, ?_⟩) | ((with_reducible refine gate_callee (f := 89) rfl ?_); refine goesL_ (some 18) rfl rfl Try.func89 (by kernel_rfl) rfl #[.int .i64 a0, .int .i64 a3, .int .i64 a2] rfl (by (try simp only [List.map_toArray, List.map_cons, List.map_nil]); first | done | rfl | (simp only [List.length_drop, List.length_take]; rfl)) ?_; (with_reducible refine (r5_High.calls k a0 a3 a2 t590 _ A6.out).mono ?_); rintro e w' ⟨rfl, ⟨nd, rfl⟩⟩; refine ⟨_, rfl, ?_⟩))
  go_ret
  exact ⟨by first | rfl | (simp; done) | (simp [*]; done), by repeat (first | exact Drawn0.refl _ | apply Drawn0.step)⟩
 ·rw [if_neg c7] at H
  have c7b0 : decide (t590 < t589) = false := decide_eq_false c7
  clear c7
  obtain rfl := Option.some.inj H
  go_enter Try.func70, Try.ntmps70
  go_wp2_with (first | ((with_reducible refine gate_callee (f := 89) rfl ?_); refine goesL_ (some 14) rfl rfl Try.func89 (by kernel_rfl) rfl #[.int .i64 a0, .int .i64 a3, .int .i64 a1] rfl (by (try simp only [List.map_toArray, List.map_cons, List.map_nil]); first | done | rfl | (simp only [List.length_drop, List.length_take]; rfl)) ?_; (with_reducible refine (r5_High.calls k a0 a3 a1 t589 _ A5.out).mono ?_); rintro e w' ⟨rfl, ⟨nd, rfl⟩⟩; refine ⟨_, rfl, ?_⟩) | ((with_reducible refine gate_callee (f := 89) rfl ?_); refine goesL_ (some 18) rfl rfl Try.func89 (by kernel_rfl) rfl #[.int .i64 a0, .int .i64 a3, .int .i64 a2] rfl (by (try simp only [List.map_toArray, List.map_cons, List.map_nil]); first | done | rfl | (simp only [List.length_drop, List.length_take]; rfl)) ?_; (with_reducible refine (r5_High.calls k a0 a3 a2 t590 _ A6.out).mono ?_); rintro e w' ⟨rfl, ⟨nd, rfl⟩⟩; refine ⟨_, rfl, ?_⟩))
  go_ret
  exact ⟨by first | rfl | (simp; done) | (simp [*]; done), by repeat (first | exact Drawn0.refl _ | apply Drawn0.step)⟩
def r9_High.l0 : Nat → Int → List (S57) → List Int → Int → Int → Option (Int × Int × Int)
 | 0, _, _, _, _, _ => none
 | k + 1, x0, x1, x2, x8, x9 => if x9 < (x1.length : Int) then (if 0 ≤ x9 then (if x9 < (x2.length : Int) then ((r5_Reach.f k x0 ((rd_T57 x1 x9).f0) ((rd_T57 x1 x9).f1) (rd x2 x9)).bind fun t596 => (r9_High.l0 k x0 x1 x2 (mn x8 t596) (wrap64 (x9 + 1)))) else (none)) else (none)) else (some (0, x8, 0))
def r9_High.f (k : Nat) (a0 : Int) (l1 : List (S57)) (l2 : List Int) : Option (Int × Int × Int) := (r9_asked.f k a0 l1 l2).bind fun t592 => (if t592 = true then (r9_High.l0 k a0 l1 l2 134217728 0) else (some (0, 0, 1)))
set_option maxHeartbeats 8000000 in
set_option maxRecDepth 100000 in
theorem r9_High.calls (k : Nat) (a0 : Int) (A1 : Option Addr) (c1 : Nat) (l1 : List (S57)) (A2 : Option Addr) (c2 : Nat) (l2 : List Int) (r1 : Int) (r2 : Int) (r3 : Int) (w : World) (hr1 : Kd.C k57 w A1 l1.length l1) (hc1 : l1.length ≤ c1) (hr2 : Kd.C (Kd.int .i64) w A2 l2.length l2) (hc2 : l2.length ≤ c2) (h : r9_High.f k a0 l1 l2 = some (r1, r2, r3)) :
  Calls Try.prog 37 #[.int .i64 a0, .slice A1 l1.length c1, .slice A2 l2.length c2] w fun e w' => e = .returned (.agg #[.int .i64 r1, .int .i64 r2, .int .i64 r3]) ∧ Below w.heap.size w w' := by
 have hu39 := Try.underlying39
 have HR1 := Aside0.mk hr1
 have HC1 := Aside0.mk hc1
 clear hr1 hc1
 have HR2 := Aside0.mk hr2
 have HC2 := Aside0.mk hc2
 clear hr2 hc2
 have HB := Aside0.mk (Below.refl w.heap.size w)
 have H : ((r9_asked.f k a0 l1 l2).bind fun t592 => (if t592 = true then (r9_High.l0 k a0 l1 l2 134217728 0) else (some (0, 0, 1)))) = some (r1, r2, r3) := h
 clear h
 replace H := Option.bind_eq_some_iff.mp H
 obtain ⟨t592, A40, H⟩ := H
 replace H : (if t592 = true then (r9_High.l0 k a0 l1 l2 134217728 0) else (some (0, 0, 1))) = some (r1, r2, r3) := H
 have A4 := Aside0.mk A40
 clear A40
 by_cases c5 : t592 = true
 ·subst c5
  have H1 : (r9_High.l0 k a0 l1 l2 134217728 0) = some (r1, r2, r3) := by rw [if_pos rfl] at H; exact H
  clear H
  have H := H1
  clear H1
  have H' := Aside0.mk H
  clear H
  go_enter Try.func37, Try.ntmps37
  go_wp2_with (first | ((with_reducible refine gate_dst (N := 6) rfl ?_); refine box_event ?hg (N := 6) ?hd (cs := #[.int .i64 0, .int .i64 0, .int .i64 0]) (t := 39) ?hr ?_; (case hd => rfl); (case hg => rfl); (case hr => first | (go_simp; done) | (go_simp; rfl)); intro gb591 hg w6 hbox hb; have n0_ := Aside0.mk (below_step (by repeat (first | (with_reducible first | exact HB.out | apply below_alloc | apply pw_below_drewN | apply below_drew1) | exact HB.out)) hb); have n1_ := Aside0.mk (hbox); have n2_ := Aside0.mk ((by rw [hg]; exact (below_size (by repeat (first | (with_reducible first | exact HB.out | apply below_alloc | apply pw_below_drewN | apply below_drew1) | exact HB.out))) : w.heap.size ≤ gb591)); have n3_ := Aside0.mk ((by rw [hg]; exact (below_size (by repeat (first | (with_reducible first | exact HB.out | apply below_alloc | apply pw_below_drewN | apply below_drew1) | exact HB.out))) : w.heap.size ≤ gb591)); clear HB; have HB := n0_; have BK591 := n1_; have GW591 := n2_; have GE591 := n3_; clear n0_ n1_ n2_ n3_; clear hb hbox hg) | (go_at_call 68; (with_reducible refine (r9_asked.calls k a0 _ _ l1 _ _ l2 true _ ?side1 ?side2 ?side3 ?side4 A4.out).mono ?_); (case side1 => repeat (first | exact (Kd.C_below HR1.out HB.out) | (with_reducible refine Kd.C_alloc ?_ _) | (with_reducible refine Kd.C_drewN ?_ _) | (with_reducible refine Kd.C_drew ?_))); (case side2 => exact HC1.out); (case side3 => repeat (first | exact (Kd.C_below HR2.out HB.out) | (with_reducible refine Kd.C_alloc ?_ _) | (with_reducible refine Kd.C_drewN ?_ _) | (with_reducible refine Kd.C_drew ?_))); (case side4 => exact HC2.out); rintro e w' ⟨rfl, ⟨nd, rfl⟩⟩; (try first | exact ⟨rfl, _, World.drewN_drewN _ _ _⟩ | exact ⟨rfl, _, Eq.trans (World.drewN_drewN _ _ _) (congrArg (World.drewN _) (Nat.add_assoc _ _ _))⟩)))
  repeat (go_quiet (first | ((with_reducible refine gate_dst (N := 6) rfl ?_); refine box_event ?hg (N := 6) ?hd (cs := #[.int .i64 0, .int .i64 0, .int .i64 0]) (t := 39) ?hr ?_; (case hd => rfl); (case hg => rfl); (case hr => first | (go_simp; done) | (go_simp; rfl)); intro gb591 hg w6 hbox hb; have n0_ := Aside0.mk (below_step (by repeat (first | (with_reducible first | exact HB.out | apply below_alloc | apply pw_below_drewN | apply below_drew1) | exact HB.out)) hb); have n1_ := Aside0.mk (hbox); have n2_ := Aside0.mk ((by rw [hg]; exact (below_size (by repeat (first | (with_reducible first | exact HB.out | apply below_alloc | apply pw_below_drewN | apply below_drew1) | exact HB.out))) : w.heap.size ≤ gb591)); have n3_ := Aside0.mk ((by rw [hg]; exact (below_size (by repeat (first | (with_reducible first | exact HB.out | apply below_alloc | apply pw_below_drewN | apply below_drew1) | exact HB.out))) : w.heap.size ≤ gb591)); clear HB; have HB := n0_; have BK591 := n1_; have GW591 := n2_; have GE591 := n3_; clear n0_ n1_ n2_ n3_; clear hb hbox hg) | (go_at_call 68; (with_reducible refine (r9_asked.calls k a0 _ _ l1 _ _ l2 true _ ?side1 ?side2 ?side3 ?side4 A4.out).mono ?_); (case side1 => repeat (first | exact (Kd.C_below HR1.out HB.out) | (with_reducible refine Kd.C_alloc ?_ _) | (with_reducible refine Kd.C_drewN ?_ _) | (with_reducible refine Kd.C_drew ?_))); (case side2 => exact HC1.out); (case side3 => repeat (first | exact (Kd.C_below HR2.out HB.out) | (with_reducible refine Kd.C_alloc ?_ _) | (with_reducible refine Kd.C_drewN ?_ _) | (with_reducible refine Kd.C_drew ?_))); (case side4 => exact HC2.out); rintro e w' ⟨rfl, ⟨nd, rfl⟩⟩; (try first | exact ⟨rfl, _, World.drewN_drewN _ _ _⟩ | exact ⟨rfl, _, Eq.trans (World.drewN_drewN _ _ _) (congrArg (World.drewN _) (Nat.add_assoc _ _ _))⟩))); try go_wp2_with (first | ((with_reducible refine gate_dst (N := 6) rfl ?_); refine box_event ?hg (N := 6) ?hd (cs := #[.int .i64 0, .int .i64 0, .int .i64 0]) (t := 39) ?hr ?_; (case hd => rfl); (case hg => rfl); (case hr => first | (go_simp; done) | (go_simp; rfl)); intro gb591 hg w6 hbox hb; have n0_ := Aside0.mk (below_step (by repeat (first | (with_reducible first | exact HB.out | apply below_alloc | apply pw_below_drewN | apply below_drew1) | exact HB.out)) hb); have n1_ := Aside0.mk (hbox); have n2_ := Aside0.mk ((by rw [hg]; exact (below_size (by repeat (first | (with_reducible first | exact HB.out | apply below_alloc | apply pw_below_drewN | apply below_drew1) | exact HB.out))) : w.heap.size ≤ gb591)); have n3_ := Aside0.mk ((by rw [hg]; exact (below_size (by repeat (first | (with_reducible first | exact HB.out | apply below_alloc | apply pw_below_drewN | apply below_drew1) | exact HB.out))) : w.heap.size ≤ gb591)); clear HB; have HB := n0_; have BK591 := n1_; have GW591 := n2_; have GE591 := n3_; clear n0_ n1_ n2_ n3_; clear hb hbox hg) | (go_at_call 68; (with_reducible refine (r9_asked.calls k a0 _ _ l1 _ _ l2 true _ ?side1 ?side2 ?side3 ?side4 A4.out).mono ?_); (case side1 => repeat (first | exact (Kd.C_below HR1.out HB.out) | (with_reducible refine Kd.C_alloc ?_ _) | (with_reducible refine Kd.C_drewN ?_ _) | (with_reducible refine Kd.C_drew ?_))); (case side2 => exact HC1.out); (case side3 => repeat (first | exact (Kd.C_below HR2.out HB.out) | (with_reducible refine Kd.C_alloc ?_ _) | (with_reducible refine Kd.C_drewN ?_ _) | (with_reducible refine Kd.C_drew ?_))); (case side4 => exact HC2.out); rintro e w' ⟨rfl, ⟨nd, rfl⟩⟩; (try first | exact ⟨rfl, _, World.drewN_drewN _ _ _⟩ | exact ⟨rfl, _, Eq.trans (World.drewN_drewN _ _ _) (congrArg (World.drewN _) (Nat.add_assoc _ _ _))⟩))))
  go_loopg [8, 9] k (fun kq v8 v9 w' => ∃ (x8_1 : Int) (x9_1 : Int), v8 = .int .i64 x8_1 ∧ v9 = .int .i64 x9_1 ∧ Aside0 (r9_High.l0 kq a0 l1 l2 x8_1 x9_1 = some (r1, r2, r3)) ∧ Aside0 (kq ≤ k) ∧ Aside0 (w'.heap[gb591]? = some (.cells #[.int .i64 0, .int .i64 0, .int .i64 0] 39 (0, 0))) ∧ Aside0 (Below w.heap.size w w'))
  case atStart => exact ⟨(134217728), (0), (by first | rfl | (simp; done) | (simp [*]; done)), (by first | rfl | (simp; done) | (simp [*]; done)), H', ⟨Nat.le_refl _⟩, ⟨by (with_reducible repeat (first | refine blk_drewN ?_ _ | refine blk_drew ?_ | refine blk_alloc ?_ _)); exact BK591.out⟩, ⟨by repeat (first | (with_reducible first | exact HB.out | apply below_alloc | apply pw_below_drewN | apply below_drew1 | refine below_set ?_ GE591.out) | exact HB.out)⟩⟩
  case round =>
   clear H'
   try clear c1
   try clear c2
   try clear p2
   try clear c3
   try clear c5
   obtain ⟨x8_1, x9_1, rfl, rfl, HA, HK1, BK591, HB⟩ := hrel
   cases gk with
   | zero => exact absurd HA.out (by simp [r9_High.l0])
   | succ k1 =>
    have H := HA.out
    clear HA
    simp only [r9_High.l0] at H
    by_cases c7 : x9_1 < (l1.length : Int)
    ·rw [if_pos c7] at H
     have c7b0 : decide (x9_1 < (l1.length : Int)) = true := decide_eq_true c7
     clear c7
     by_cases c8 : 0 ≤ x9_1
     ·rw [if_pos c8] at H
      have c8b0 : decide (0 ≤ x9_1) = true := decide_eq_true c8
      clear c8
      by_cases c9 : x9_1 < (l2.length : Int)
      ·rw [if_pos c9] at H
       have c9b0 : decide (x9_1 < (l2.length : Int)) = true := decide_eq_true c9
       clear c9
       replace H := Option.bind_eq_some_iff.mp H
       obtain ⟨t596, A100, H⟩ := H
       replace H : (r9_High.l0 k1 a0 l1 l2 (mn x8_1 t596) (wrap64 (x9_1 + 1))) = some (r1, r2, r3) := H
       have A10 := Aside0.mk A100
       clear A100
       obtain ⟨ji11, hji11⟩ : ∃ j_ : Int, (mn x8_1 t596) = j_ := ⟨_, rfl⟩
       replace H : (r9_High.l0 k1 a0 l1 l2 ji11 (wrap64 (x9_1 + 1))) = some (r1, r2, r3) := by first | (rw [hji11] at H; exact H) | (simp only [hji11] at H ⊢; exact H)
       (try rw [hji11] at A10)
       have hji11_ : (if t596 < x8_1 then t596 else x8_1) = ji11 := hji11
       have H' := Aside0.mk H
       clear H
       have p593 : 0 ≤ (x9_1 : Int) := of_decide_eq_true (by first | (with_reducible assumption) | assumption)
       have q593 : x9_1 < (l1.length : Int) := of_decide_eq_true (by first | (with_reducible assumption) | assumption)
       obtain ⟨ad593, e593, hx593_0, hx593_1⟩ := at_T57 HR1.out x9_1 p593 q593
       cases e593
       replace hx593_0 := (HB.out.cell (World.block_lt_of_cell? w _ hx593_0)).trans hx593_0
       replace hx593_1 := (HB.out.cell (World.block_lt_of_cell? w _ hx593_1)).trans hx593_1
       replace p593 := eq_true p593
       replace q593 := eq_true q593
       have p594 : 0 ≤ (x9_1 : Int) := of_decide_eq_true (by first | (with_reducible assumption) | assumption)
       have q594 : x9_1 < (l1.length : Int) := of_decide_eq_true (by first | (with_reducible assumption) | assumption)
       obtain ⟨ad594, e594, hx594_0, hx594_1⟩ := at_T57 HR1.out x9_1 p594 q594
       obtain rfl : ad593 = ad594 := (by injection e594)
       replace hx594_0 := (HB.out.cell (World.block_lt_of_cell? w _ hx594_0)).trans hx594_0
       replace hx594_1 := (HB.out.cell (World.block_lt_of_cell? w _ hx594_1)).trans hx594_1
       replace p594 := eq_true p594
       replace q594 := eq_true q594
       have p595 : 0 ≤ (x9_1 : Int) := of_decide_eq_true (by first | (with_reducible assumption) | assumption)
       have q595 : x9_1 < (l2.length : Int) := of_decide_eq_true (by first | (with_reducible assumption) | assumption)
       obtain ⟨ad595, e595, hx595_0⟩ := Kd.at_int HR2.out x9_1 p595 q595
       cases e595
       replace hx595_0 := (HB.out.cell (World.block_lt_of_cell? w _ hx595_0)).trans hx595_0
       replace p595 := eq_true p595
       replace q595 := eq_true q595
       go_wp2_with (first | (go_at_call 70; (with_reducible refine (r5_Reach.calls k1 a0 ((rd_T57 l1 x9_1).f0) ((rd_T57 l1 x9_1).f1) (rd l2 x9_1) t596 _ A10.out).mono ?_); rintro e w' ⟨rfl, ⟨nd, rfl⟩⟩; (try first | exact ⟨rfl, _, World.drewN_drewN _ _ _⟩ | exact ⟨rfl, _, Eq.trans (World.drewN_drewN _ _ _) (congrArg (World.drewN _) (Nat.add_assoc _ _ _))⟩)))
       repeat (go_quiet (first | (go_at_call 70; (with_reducible refine (r5_Reach.calls k1 a0 ((rd_T57 l1 x9_1).f0) ((rd_T57 l1 x9_1).f1) (rd l2 x9_1) t596 _ A10.out).mono ?_); rintro e w' ⟨rfl, ⟨nd, rfl⟩⟩; (try first | exact ⟨rfl, _, World.drewN_drewN _ _ _⟩ | exact ⟨rfl, _, Eq.trans (World.drewN_drewN _ _ _) (congrArg (World.drewN _) (Nat.add_assoc _ _ _))⟩))); try go_wp2_with (first | (go_at_call 70; (with_reducible refine (r5_Reach.calls k1 a0 ((rd_T57 l1 x9_1).f0) ((rd_T57 l1 x9_1).f1) (rd l2 x9_1) t596 _ A10.out).mono ?_); rintro e w' ⟨rfl, ⟨nd, rfl⟩⟩; (try first | exact ⟨rfl, _, World.drewN_drewN _ _ _⟩ | exact ⟨rfl, _, Eq.trans (World.drewN_drewN _ _ _) (congrArg (World.drewN _) (Nat.add_assoc _ _ _))⟩))))
       go_roundg k1
       case measure => have := HK1.out; omega
       case rel => exact ⟨(ji11), (wrap64 (x9_1 + 1)), (by first | rfl | (simp; done) | (simp only [← hji11] <;> (first | rfl | simp)) | (simp [*]; done)), (by first | rfl | (simp; done) | (simp [*]; done)), H', ⟨by have := HK1.out; omega⟩, ⟨by (with_reducible repeat (first | refine blk_drewN ?_ _ | refine blk_drew ?_ | refine blk_alloc ?_ _)); exact BK591.out⟩, ⟨by repeat (first | (with_reducible first | exact HB.out | apply below_alloc | apply pw_below_drewN | apply below_drew1 | refine below_set ?_ GE591.out) | exact HB.out)⟩⟩
      ·rw [if_neg c9] at H
       exact absurd H (by simp)
     ·rw [if_neg c8] at H
      exact absurd H (by simp)
    ·rw [if_neg c7] at H
     have c7b0 : decide (x9_1 < (l1.length : Int)) = false := decide_eq_false c7
     clear c7
     simp only [Option.some.injEq, Prod.mk.injEq] at H
     obtain ⟨rfl, rfl, rfl⟩ := H
     have hcz12_0 : wr.cell? ⟨gb591, 0, none⟩ = some (.int .i64 0) := (blk_cell BK591.out 0).trans rfl
     have hcz12_1 : wr.cell? ⟨gb591, 1, none⟩ = some (.int .i64 0) := (blk_cell BK591.out 1).trans rfl
     have hcz12_2 : wr.cell? ⟨gb591, 2, none⟩ = some (.int .i64 0) := (blk_cell BK591.out 2).trans rfl
     have hfz12_0 := blk_frozen BK591.out 0
     have hfz12_1 := blk_frozen BK591.out 1
     have hfz12_2 := blk_frozen BK591.out 2
     go_wp2
     repeat (go_quiet (fail); try go_wp2)
     refine bodyPost_ret (results_cell_row rfl _ _ gb591 39 #[.int .i64 0, .int .i64 x8_1, .int .i64 0] (0, 0) _ rfl (by (with_reducible repeat (first | refine blk_drewN ?_ _ | refine blk_drew ?_ | refine blk_alloc ?_ _)); refine blk_put (cs := #[.int .i64 0, .int .i64 x8_1, .int .i64 0]) ?_ 2 _ rfl; (with_reducible repeat (first | refine blk_drewN ?_ _ | refine blk_drew ?_ | refine blk_alloc ?_ _)); refine blk_put (cs := #[.int .i64 0, .int .i64 0, .int .i64 0]) ?_ 1 _ rfl; (with_reducible repeat (first | refine blk_drewN ?_ _ | refine blk_drew ?_ | refine blk_alloc ?_ _)); refine blk_put (cs := #[.int .i64 0, .int .i64 0, .int .i64 0]) ?_ 0 _ rfl; (with_reducible repeat (first | refine blk_drewN ?_ _ | refine blk_drew ?_ | refine blk_alloc ?_ _)); exact BK591.out) Try.underlying39 rfl (by kernel_rfl)) rfl ?_
     exact ⟨by first | rfl | (simp [errW_none, errW_some] <;> rfl) | (simp [*, errW_none, errW_some] <;> rfl), by repeat (first | (with_reducible first | exact HB.out | apply below_alloc | apply pw_below_drewN | apply below_drew1 | refine below_set ?_ GE591.out) | exact HB.out)⟩
 ·replace c5 := Bool.eq_false_iff.mpr c5
  subst c5
  have H1 : (some (0, 0, 1)) = some (r1, r2, r3) := by rw [if_neg (show ¬ (false = true) by decide)] at H; exact H
  clear H
  have H := H1
  clear H1
  simp only [Option.some.injEq, Prod.mk.injEq] at H
  obtain ⟨rfl, rfl, rfl⟩ := H
  go_enter Try.func37, Try.ntmps37
  go_wp2_with (first | ((with_reducible refine gate_dst (N := 6) rfl ?_); refine box_event ?hg (N := 6) ?hd (cs := #[.int .i64 0, .int .i64 0, .int .i64 0]) (t := 39) ?hr ?_; (case hd => rfl); (case hg => rfl); (case hr => first | (go_simp; done) | (go_simp; rfl)); intro gb591 hg w13 hbox hb; have n0_ := Aside0.mk (below_step (by repeat (first | (with_reducible first | exact HB.out | apply below_alloc | apply pw_below_drewN | apply below_drew1) | exact HB.out)) hb); have n1_ := Aside0.mk (hbox); have n2_ := Aside0.mk ((by rw [hg]; exact (below_size (by repeat (first | (with_reducible first | exact HB.out | apply below_alloc | apply pw_below_drewN | apply below_drew1) | exact HB.out))) : w.heap.size ≤ gb591)); have n3_ := Aside0.mk ((by rw [hg]; exact (below_size (by repeat (first | (with_reducible first | exact HB.out | apply below_alloc | apply pw_below_drewN | apply below_drew1) | exact HB.out))) : w.heap.size ≤ gb591)); clear HB; have HB := n0_; have BK591 := n1_; have GW591 := n2_; have GE591 := n3_; clear n0_ n1_ n2_ n3_; clear hb hbox hg) | (go_at_call 68; (with_reducible refine (r9_asked.calls k a0 _ _ l1 _ _ l2 false _ ?side1 ?side2 ?side3 ?side4 A4.out).mono ?_); (case side1 => repeat (first | exact (Kd.C_below HR1.out HB.out) | (with_reducible refine Kd.C_alloc ?_ _) | (with_reducible refine Kd.C_drewN ?_ _) | (with_reducible refine Kd.C_drew ?_))); (case side2 => exact HC1.out); (case side3 => repeat (first | exact (Kd.C_below HR2.out HB.out) | (with_reducible refine Kd.C_alloc ?_ _) | (with_reducible refine Kd.C_drewN ?_ _) | (with_reducible refine Kd.C_drew ?_))); (case side4 => exact HC2.out); rintro e w' ⟨rfl, ⟨nd, rfl⟩⟩; (try first | exact ⟨rfl, _, World.drewN_drewN _ _ _⟩ | exact ⟨rfl, _, Eq.trans (World.drewN_drewN _ _ _) (congrArg (World.drewN _) (Nat.add_assoc _ _ _))⟩); have hcz14_0 : w13.cell? ⟨gb591, 0, none⟩ = some (.int .i64 0) := (blk_cell BK591.out 0).trans rfl; have hcz14_1 : w13.cell? ⟨gb591, 1, none⟩ = some (.int .i64 0) := (blk_cell BK591.out 1).trans rfl; have hcz14_2 : w13.cell? ⟨gb591, 2, none⟩ = some (.int .i64 0) := (blk_cell BK591.out 2).trans rfl; have hfz14_0 := blk_frozen BK591.out 0; have hfz14_1 := blk_frozen BK591.out 1; have hfz14_2 := blk_frozen BK591.out 2))
  repeat (go_quiet (first | ((with_reducible refine gate_dst (N := 6) rfl ?_); refine box_event ?hg (N := 6) ?hd (cs := #[.int .i64 0, .int .i64 0, .int .i64 0]) (t := 39) ?hr ?_; (case hd => rfl); (case hg => rfl); (case hr => first | (go_simp; done) | (go_simp; rfl)); intro gb591 hg w13 hbox hb; have n0_ := Aside0.mk (below_step (by repeat (first | (with_reducible first | exact HB.out | apply below_alloc | apply pw_below_drewN | apply below_drew1) | exact HB.out)) hb); have n1_ := Aside0.mk (hbox); have n2_ := Aside0.mk ((by rw [hg]; exact (below_size (by repeat (first | (with_reducible first | exact HB.out | apply below_alloc | apply pw_below_drewN | apply below_drew1) | exact HB.out))) : w.heap.size ≤ gb591)); have n3_ := Aside0.mk ((by rw [hg]; exact (below_size (by repeat (first | (with_reducible first | exact HB.out | apply below_alloc | apply pw_below_drewN | apply below_drew1) | exact HB.out))) : w.heap.size ≤ gb591)); clear HB; have HB := n0_; have BK591 := n1_; have GW591 := n2_; have GE591 := n3_; clear n0_ n1_ n2_ n3_; clear hb hbox hg) | (go_at_call 68; (with_reducible refine (r9_asked.calls k a0 _ _ l1 _ _ l2 false _ ?side1 ?side2 ?side3 ?side4 A4.out).mono ?_); (case side1 => repeat (first | exact (Kd.C_below HR1.out HB.out) | (with_reducible refine Kd.C_alloc ?_ _) | (with_reducible refine Kd.C_drewN ?_ _) | (with_reducible refine Kd.C_drew ?_))); (case side2 => exact HC1.out); (case side3 => repeat (first | exact (Kd.C_below HR2.out HB.out) | (with_reducible refine Kd.C_alloc ?_ _) | (with_reducible refine Kd.C_drewN ?_ _) | (with_reducible refine Kd.C_drew ?_))); (case side4 => exact HC2.out); rintro e w' ⟨rfl, ⟨nd, rfl⟩⟩; (try first | exact ⟨rfl, _, World.drewN_drewN _ _ _⟩ | exact ⟨rfl, _, Eq.trans (World.drewN_drewN _ _ _) (congrArg (World.drewN _) (Nat.add_assoc _ _ _))⟩); have hcz14_0 : w13.cell? ⟨gb591, 0, none⟩ = some (.int .i64 0) := (blk_cell BK591.out 0).trans rfl; have hcz14_1 : w13.cell? ⟨gb591, 1, none⟩ = some (.int .i64 0) := (blk_cell BK591.out 1).trans rfl; have hcz14_2 : w13.cell? ⟨gb591, 2, none⟩ = some (.int .i64 0) := (blk_cell BK591.out 2).trans rfl; have hfz14_0 := blk_frozen BK591.out 0; have hfz14_1 := blk_frozen BK591.out 1; have hfz14_2 := blk_frozen BK591.out 2)); try go_wp2_with (first | ((with_reducible refine gate_dst (N := 6) rfl ?_); refine box_event ?hg (N := 6) ?hd (cs := #[.int .i64 0, .int .i64 0, .int .i64 0]) (t := 39) ?hr ?_; (case hd => rfl); (case hg => rfl); (case hr => first | (go_simp; done) | (go_simp; rfl)); intro gb591 hg w13 hbox hb; have n0_ := Aside0.mk (below_step (by repeat (first | (with_reducible first | exact HB.out | apply below_alloc | apply pw_below_drewN | apply below_drew1) | exact HB.out)) hb); have n1_ := Aside0.mk (hbox); have n2_ := Aside0.mk ((by rw [hg]; exact (below_size (by repeat (first | (with_reducible first | exact HB.out | apply below_alloc | apply pw_below_drewN | apply below_drew1) | exact HB.out))) : w.heap.size ≤ gb591)); have n3_ := Aside0.mk ((by rw [hg]; exact (below_size (by repeat (first | (with_reducible first | exact HB.out | apply below_alloc | apply pw_below_drewN | apply below_drew1) | exact HB.out))) : w.heap.size ≤ gb591)); clear HB; have HB := n0_; have BK591 := n1_; have GW591 := n2_; have GE591 := n3_; clear n0_ n1_ n2_ n3_; clear hb hbox hg) | (go_at_call 68; (with_reducible refine (r9_asked.calls k a0 _ _ l1 _ _ l2 false _ ?side1 ?side2 ?side3 ?side4 A4.out).mono ?_); (case side1 => repeat (first | exact (Kd.C_below HR1.out HB.out) | (with_reducible refine Kd.C_alloc ?_ _) | (with_reducible refine Kd.C_drewN ?_ _) | (with_reducible refine Kd.C_drew ?_))); (case side2 => exact HC1.out); (case side3 => repeat (first | exact (Kd.C_below HR2.out HB.out) | (with_reducible refine Kd.C_alloc ?_ _) | (with_reducible refine Kd.C_drewN ?_ _) | (with_reducible refine Kd.C_drew ?_))); (case side4 => exact HC2.out); rintro e w' ⟨rfl, ⟨nd, rfl⟩⟩; (try first | exact ⟨rfl, _, World.drewN_drewN _ _ _⟩ | exact ⟨rfl, _, Eq.trans (World.drewN_drewN _ _ _) (congrArg (World.drewN _) (Nat.add_assoc _ _ _))⟩); have hcz14_0 : w13.cell? ⟨gb591, 0, none⟩ = some (.int .i64 0) := (blk_cell BK591.out 0).trans rfl; have hcz14_1 : w13.cell? ⟨gb591, 1, none⟩ = some (.int .i64 0) := (blk_cell BK591.out 1).trans rfl; have hcz14_2 : w13.cell? ⟨gb591, 2, none⟩ = some (.int .i64 0) := (blk_cell BK591.out 2).trans rfl; have hfz14_0 := blk_frozen BK591.out 0; have hfz14_1 := blk_frozen BK591.out 1; have hfz14_2 := blk_frozen BK591.out 2)))
  refine bodyPost_ret (results_cell_row rfl _ _ gb591 39 #[.int .i64 0, .int .i64 0, .int .i64 1] (0, 0) _ rfl (by (with_reducible repeat (first | refine blk_drewN ?_ _ | refine blk_drew ?_ | refine blk_alloc ?_ _)); refine blk_put (cs := #[.int .i64 0, .int .i64 0, .int .i64 0]) ?_ 2 _ rfl; (with_reducible repeat (first | refine blk_drewN ?_ _ | refine blk_drew ?_ | refine blk_alloc ?_ _)); refine blk_put (cs := #[.int .i64 0, .int .i64 0, .int .i64 0]) ?_ 1 _ rfl; (with_reducible repeat (first | refine blk_drewN ?_ _ | refine blk_drew ?_ | refine blk_alloc ?_ _)); refine blk_put (cs := #[.int .i64 0, .int .i64 0, .int .i64 0]) ?_ 0 _ rfl; (with_reducible repeat (first | refine blk_drewN ?_ _ | refine blk_drew ?_ | refine blk_alloc ?_ _)); exact BK591.out) Try.underlying39 rfl (by kernel_rfl)) rfl ?_
  exact ⟨by first | rfl | (simp [errW_none, errW_some] <;> rfl) | (simp [*, errW_none, errW_some] <;> rfl), by repeat (first | (with_reducible first | exact HB.out | apply below_alloc | apply pw_below_drewN | apply below_drew1 | refine below_set ?_ GE591.out) | exact HB.out)⟩
mutual
def r9_In.j0 : Nat → List (S57) → List Int → Bool → Option (Bool)
 | 0, _, _, _ => none
 | k + 1, x0, x1, x15 => if x15 = true then (some false) else (r9_In.l0 k x0 x1 0)
def r9_In.l0 : Nat → List (S57) → List Int → Int → Option (Bool)
 | 0, _, _, _ => none
 | k + 1, x0, x1, x5 => if x5 < (x0.length : Int) then (if 0 ≤ x5 then (if x5 < (x1.length : Int) then (if (rd x1 x5) < ((rd_T57 x0 x5).f0) then (some false) else (if (rd x1 x5) > ((rd_T57 x0 x5).f1) then (some false) else (r9_In.l0 k x0 x1 (wrap64 (x5 + 1))))) else (none)) else (none)) else (some true)
end
def r9_In.f (k : Nat) (l0 : List (S57)) (l1 : List Int) : Option (Bool) := (r9_Valid.f k l0).bind fun t597 => (if t597 = true then (r9_In.j0 k l0 l1 ((l1.length : Int) != (l0.length : Int))) else (r9_In.j0 k l0 l1 true))
set_option maxHeartbeats 8000000 in
set_option maxRecDepth 100000 in
theorem r9_In.calls (k : Nat) (A0 : Option Addr) (c0 : Nat) (l0 : List (S57)) (A1 : Option Addr) (c1 : Nat) (l1 : List Int) (r : Bool) (w : World) (hr0 : Kd.C k57 w A0 l0.length l0) (hc0 : l0.length ≤ c0) (hr1 : Kd.C (Kd.int .i64) w A1 l1.length l1) (hc1 : l1.length ≤ c1) (h : r9_In.f k l0 l1 = some r) :
  Calls Try.prog 40 #[.slice A0 l0.length c0, .slice A1 l1.length c1] w fun e w' => e = .returned (.bool r) ∧ Drawn0 w w' := by
 have HR0 := Aside0.mk hr0
 have HC0 := Aside0.mk hc0
 clear hr0 hc0
 have HR1 := Aside0.mk hr1
 have HC1 := Aside0.mk hc1
 clear hr1 hc1
 have H : ((r9_Valid.f k l0).bind fun t597 => (if t597 = true then (r9_In.j0 k l0 l1 ((l1.length : Int) != (l0.length : Int))) else (r9_In.j0 k l0 l1 true))) = some r := h
 clear h
 have HC3 := Aside0.mk H
 clear H
 go_enter Try.func40, Try.ntmps40
 go_upto_region 1 with (fail)
 repeat (go_quiet (fail); go_upto_region 1 with (fail))
 go_cut [15] (fun v15 wc => ∃ (kq : Nat) (x15_2 : Bool), v15 = .bool x15_2 ∧ Aside0 (r9_In.j0 kq l0 l1 x15_2 = some r) ∧ Aside0 (kq ≤ k) ∧ Drawn0 w wc)
 case first =>
  have H := HC3.out
  clear HC3
  replace H := Option.bind_eq_some_iff.mp H
  obtain ⟨t597, A40, H⟩ := H
  replace H : (if t597 = true then (r9_In.j0 k l0 l1 ((l1.length : Int) != (l0.length : Int))) else (r9_In.j0 k l0 l1 true)) = some r := H
  have A4 := Aside0.mk A40
  clear A40
  by_cases c5 : t597 = true
  ·subst c5
   have H1 : (r9_In.j0 k l0 l1 ((l1.length : Int) != (l0.length : Int))) = some r := by rw [if_pos rfl] at H; exact H
   clear H
   have H := H1
   clear H1
   have H' := Aside0.mk H
   clear H
   go_wp2_with (first | (go_at_call 39; (with_reducible refine (r9_Valid.calls k _ _ l0 true _ ?side1 ?side2 A4.out).mono ?_); (case side1 => repeat (first | exact HR0.out | (with_reducible refine Kd.C_alloc ?_ _) | (with_reducible refine Kd.C_drewN ?_ _) | (with_reducible refine Kd.C_drew ?_))); (case side2 => exact HC0.out); rintro e w' ⟨rfl, ⟨nd, rfl⟩⟩; (try first | exact ⟨rfl, _, World.drewN_drewN _ _ _⟩ | exact ⟨rfl, _, Eq.trans (World.drewN_drewN _ _ _) (congrArg (World.drewN _) (Nat.add_assoc _ _ _))⟩)))
   repeat (go_quiet (first | (go_at_call 39; (with_reducible refine (r9_Valid.calls k _ _ l0 true _ ?side1 ?side2 A4.out).mono ?_); (case side1 => repeat (first | exact HR0.out | (with_reducible refine Kd.C_alloc ?_ _) | (with_reducible refine Kd.C_drewN ?_ _) | (with_reducible refine Kd.C_drew ?_))); (case side2 => exact HC0.out); rintro e w' ⟨rfl, ⟨nd, rfl⟩⟩; (try first | exact ⟨rfl, _, World.drewN_drewN _ _ _⟩ | exact ⟨rfl, _, Eq.trans (World.drewN_drewN _ _ _) (congrArg (World.drewN _) (Nat.add_assoc _ _ _))⟩))); try go_wp2_with (first | (go_at_call 39; (with_reducible refine (r9_Valid.calls k _ _ l0 true _ ?side1 ?side2 A4.out).mono ?_); (case side1 => repeat (first | exact HR0.out | (with_reducible refine Kd.C_alloc ?_ _) | (with_reducible refine Kd.C_drewN ?_ _) | (with_reducible refine Kd.C_drew ?_))); (case side2 => exact HC0.out); rintro e w' ⟨rfl, ⟨nd, rfl⟩⟩; (try first | exact ⟨rfl, _, World.drewN_drewN _ _ _⟩ | exact ⟨rfl, _, Eq.trans (World.drewN_drewN _ _ _) (congrArg (World.drewN _) (Nat.add_assoc _ _ _))⟩))))
   go_meet
   case rel => exact ⟨_, (((l1.length : Int) != (l0.length : Int))), (by first | rfl | (simp; done) | (simp [*]; done)), H', ⟨by first | omega | exact Nat.le_refl _⟩, by repeat (first | exact Drawn0.refl _ | apply Drawn0.step)⟩
  ·replace c5 := Bool.eq_false_iff.mpr c5
   subst c5
   have H1 : (r9_In.j0 k l0 l1 true) = some r := by rw [if_neg (show ¬ (false = true) by decide)] at H; exact H
   clear H
   have H := H1
   clear H1
   have H' := Aside0.mk H
   clear H
   go_wp2_with (first | (go_at_call 39; (with_reducible refine (r9_Valid.calls k _ _ l0 false _ ?side1 ?side2 A4.out).mono ?_); (case side1 => repeat (first | exact HR0.out | (with_reducible refine Kd.C_alloc ?_ _) | (with_reducible refine Kd.C_drewN ?_ _) | (with_reducible refine Kd.C_drew ?_))); (case side2 => exact HC0.out); rintro e w' ⟨rfl, ⟨nd, rfl⟩⟩; (try first | exact ⟨rfl, _, World.drewN_drewN _ _ _⟩ | exact ⟨rfl, _, Eq.trans (World.drewN_drewN _ _ _) (congrArg (World.drewN _) (Nat.add_assoc _ _ _))⟩)))
   repeat (go_quiet (first | (go_at_call 39; (with_reducible refine (r9_Valid.calls k _ _ l0 false _ ?side1 ?side2 A4.out).mono ?_); (case side1 => repeat (first | exact HR0.out | (with_reducible refine Kd.C_alloc ?_ _) | (with_reducible refine Kd.C_drewN ?_ _) | (with_reducible refine Kd.C_drew ?_))); (case side2 => exact HC0.out); rintro e w' ⟨rfl, ⟨nd, rfl⟩⟩; (try first | exact ⟨rfl, _, World.drewN_drewN _ _ _⟩ | exact ⟨rfl, _, Eq.trans (World.drewN_drewN _ _ _) (congrArg (World.drewN _) (Nat.add_assoc _ _ _))⟩))); try go_wp2_with (first | (go_at_call 39; (with_reducible refine (r9_Valid.calls k _ _ l0 false _ ?side1 ?side2 A4.out).mono ?_); (case side1 => repeat (first | exact HR0.out | (with_reducible refine Kd.C_alloc ?_ _) | (with_reducible refine Kd.C_drewN ?_ _) | (with_reducible refine Kd.C_drew ?_))); (case side2 => exact HC0.out); rintro e w' ⟨rfl, ⟨nd, rfl⟩⟩; (try first | exact ⟨rfl, _, World.drewN_drewN _ _ _⟩ | exact ⟨rfl, _, Eq.trans (World.drewN_drewN _ _ _) (congrArg (World.drewN _) (Nat.add_assoc _ _ _))⟩))))
   go_meet
   case rel => exact ⟨_, (true), (by first | rfl | (simp; done) | (simp [*]; done)), H', ⟨by first | omega | exact Nat.le_refl _⟩, by repeat (first | exact Drawn0.refl _ | apply Drawn0.step)⟩
 case rest =>
  clear HC3
  try clear c1
  try clear p2
  try clear c4
  try clear c5
  obtain ⟨kq, x15_2, rfl, HA, HJ2, ⟨mc2, rfl⟩⟩ := hcut
  cases kq with
  | zero => exact absurd HA.out (by simp [r9_In.j0])
  | succ kj2 =>
   have H := HA.out
   clear HA
   simp only [r9_In.j0] at H
   by_cases c6 : x15_2 = true
   ·subst c6
    have H1 : (some false) = some r := by rw [if_pos rfl] at H; exact H
    clear H
    have H := H1
    clear H1
    obtain rfl := Option.some.inj H
    go_wp2
    repeat (go_quiet (fail); try go_wp2)
    go_ret
    exact ⟨by first | rfl | (simp; done) | (simp [*]; done), by repeat (first | exact Drawn0.refl _ | apply Drawn0.step)⟩
   ·replace c6 := Bool.eq_false_iff.mpr c6
    subst c6
    have H1 : (r9_In.l0 kj2 l0 l1 0) = some r := by rw [if_neg (show ¬ (false = true) by decide)] at H; exact H
    clear H
    have H := H1
    clear H1
    have H' := Aside0.mk H
    clear H
    go_wp2
    repeat (go_quiet (fail); try go_wp2)
    go_loopg [5] kj2 (fun kq v5 w' => ∃ (x5_2 : Int), v5 = .int .i64 x5_2 ∧ Aside0 (r9_In.l0 kq l0 l1 x5_2 = some r) ∧ Aside0 (kq ≤ kj2) ∧ Drawn0 w w')
    case atStart => exact ⟨(0), (by first | rfl | (simp; done) | (simp [*]; done)), H', ⟨Nat.le_refl _⟩, by repeat (first | exact Drawn0.refl _ | apply Drawn0.step)⟩
    case round =>
     clear H'
     try clear c1
     try clear c2
     try clear p2
     try clear c4
     try clear c5
     try clear c6
     try clear p2
     obtain ⟨x5_2, rfl, HA, HK2, ⟨m2, rfl⟩⟩ := hrel
     cases gk with
     | zero => exact absurd HA.out (by simp [r9_In.l0])
     | succ k2 =>
      have H := HA.out
      clear HA
      simp only [r9_In.l0] at H
      by_cases c7 : x5_2 < (l0.length : Int)
      ·rw [if_pos c7] at H
       have c7b0 : decide (x5_2 < (l0.length : Int)) = true := decide_eq_true c7
       clear c7
       by_cases c8 : 0 ≤ x5_2
       ·rw [if_pos c8] at H
        have c8b0 : decide (0 ≤ x5_2) = true := decide_eq_true c8
        clear c8
        by_cases c9 : x5_2 < (l1.length : Int)
        ·rw [if_pos c9] at H
         have c9b0 : decide (x5_2 < (l1.length : Int)) = true := decide_eq_true c9
         clear c9
         by_cases c10 : (rd l1 x5_2) < ((rd_T57 l0 x5_2).f0)
         ·rw [if_pos c10] at H
          have c10b0 : decide ((rd l1 x5_2) < ((rd_T57 l0 x5_2).f0)) = true := decide_eq_true c10
          clear c10
          obtain rfl := Option.some.inj H
          have p598 : 0 ≤ (x5_2 : Int) := of_decide_eq_true (by first | (with_reducible assumption) | assumption)
          have q598 : x5_2 < (l1.length : Int) := of_decide_eq_true (by first | (with_reducible assumption) | assumption)
          obtain ⟨ad598, e598, hx598_0⟩ := Kd.at_int HR1.out x5_2 p598 q598
          cases e598
          replace p598 := eq_true p598
          replace q598 := eq_true q598
          have p599 : 0 ≤ (x5_2 : Int) := of_decide_eq_true (by first | (with_reducible assumption) | assumption)
          have q599 : x5_2 < (l0.length : Int) := of_decide_eq_true (by first | (with_reducible assumption) | assumption)
          obtain ⟨ad599, e599, hx599_0, hx599_1⟩ := at_T57 HR0.out x5_2 p599 q599
          cases e599
          replace p599 := eq_true p599
          replace q599 := eq_true q599
          go_wp2
          repeat (go_quiet (fail); try go_wp2)
          go_ret
          exact ⟨by first | rfl | (simp; done) | (simp [*]; done), by repeat (first | exact Drawn0.refl _ | apply Drawn0.step)⟩
         ·rw [if_neg c10] at H
          have c10b0 : decide ((rd l1 x5_2) < ((rd_T57 l0 x5_2).f0)) = false := decide_eq_false c10
          clear c10
          by_cases c11 : (rd l1 x5_2) > ((rd_T57 l0 x5_2).f1)
          ·rw [if_pos c11] at H
           have c11b0 : decide (((rd_T57 l0 x5_2).f1) < (rd l1 x5_2)) = true := decide_eq_true c11
           clear c11
           obtain rfl := Option.some.inj H
           have p598 : 0 ≤ (x5_2 : Int) := of_decide_eq_true (by first | (with_reducible assumption) | assumption)
           have q598 : x5_2 < (l1.length : Int) := of_decide_eq_true (by first | (with_reducible assumption) | assumption)
           obtain ⟨ad598, e598, hx598_0⟩ := Kd.at_int HR1.out x5_2 p598 q598
           cases e598
           replace p598 := eq_true p598
           replace q598 := eq_true q598
           have p599 : 0 ≤ (x5_2 : Int) := of_decide_eq_true (by first | (with_reducible assumption) | assumption)
           have q599 : x5_2 < (l0.length : Int) := of_decide_eq_true (by first | (with_reducible assumption) | assumption)
           obtain ⟨ad599, e599, hx599_0, hx599_1⟩ := at_T57 HR0.out x5_2 p599 q599
           cases e599
           replace p599 := eq_true p599
           replace q599 := eq_true q599
           have p600 : 0 ≤ (x5_2 : Int) := of_decide_eq_true (by first | (with_reducible assumption) | assumption)
           have q600 : x5_2 < (l1.length : Int) := of_decide_eq_true (by first | (with_reducible assumption) | assumption)
           obtain ⟨ad600, e600, hx600_0⟩ := Kd.at_int HR1.out x5_2 p600 q600
           obtain rfl : ad598 = ad600 := (by injection e600)
           replace p600 := eq_true p600
           replace q600 := eq_true q600
           have p601 : 0 ≤ (x5_2 : Int) := of_decide_eq_true (by first | (with_reducible assumption) | assumption)
           have q601 : x5_2 < (l0.length : Int) := of_decide_eq_true (by first | (with_reducible assumption) | assumption)
           obtain ⟨ad601, e601, hx601_0, hx601_1⟩ := at_T57 HR0.out x5_2 p601 q601
           obtain rfl : ad599 = ad601 := (by injection e601)
           replace p601 := eq_true p601
           replace q601 := eq_true q601
           go_wp2
           repeat (go_quiet (fail); try go_wp2)
           go_ret
           exact ⟨by first | rfl | (simp; done) | (simp [*]; done), by repeat (first | exact Drawn0.refl _ | apply Drawn0.step)⟩
          ·rw [if_neg c11] at H
           have c11b0 : decide (((rd_T57 l0 x5_2).f1) < (rd l1 x5_2)) = false := decide_eq_false c11
           clear c11
           have H' := Aside0.mk H
           clear H
           have p598 : 0 ≤ (x5_2 : Int) := of_decide_eq_true (by first | (with_reducible assumption) | assumption)
           have q598 : x5_2 < (l1.length : Int) := of_decide_eq_true (by first | (with_reducible assumption) | assumption)
           obtain ⟨ad598, e598, hx598_0⟩ := Kd.at_int HR1.out x5_2 p598 q598
           cases e598
           replace p598 := eq_true p598
           replace q598 := eq_true q598
           have p599 : 0 ≤ (x5_2 : Int) := of_decide_eq_true (by first | (with_reducible assumption) | assumption)
           have q599 : x5_2 < (l0.length : Int) := of_decide_eq_true (by first | (with_reducible assumption) | assumption)
           obtain ⟨ad599, e599, hx599_0, hx599_1⟩ := at_T57 HR0.out x5_2 p599 q599
           cases e599
           replace p599 := eq_true p599
           replace q599 := eq_true q599
           have p600 : 0 ≤ (x5_2 : Int) := of_decide_eq_true (by first | (with_reducible assumption) | assumption)
           have q600 : x5_2 < (l1.length : Int) := of_decide_eq_true (by first | (with_reducible assumption) | assumption)
           obtain ⟨ad600, e600, hx600_0⟩ := Kd.at_int HR1.out x5_2 p600 q600
           obtain rfl : ad598 = ad600 := (by injection e600)
           replace p600 := eq_true p600
           replace q600 := eq_true q600
           have p601 : 0 ≤ (x5_2 : Int) := of_decide_eq_true (by first | (with_reducible assumption) | assumption)
           have q601 : x5_2 < (l0.length : Int) := of_decide_eq_true (by first | (with_reducible assumption) | assumption)
           obtain ⟨ad601, e601, hx601_0, hx601_1⟩ := at_T57 HR0.out x5_2 p601 q601
           obtain rfl : ad599 = ad601 := (by injection e601)
           replace p601 := eq_true p601
           replace q601 := eq_true q601
           go_wp2
           repeat (go_quiet (fail); try go_wp2)
           go_roundg k2
           case measure => have := HJ2.out; have := HK2.out; omega
           case rel => exact ⟨(wrap64 (x5_2 + 1)), (by first | rfl | (simp; done) | (simp [*]; done)), H', ⟨by have := HJ2.out; have := HK2.out; omega⟩, by repeat (first | exact Drawn0.refl _ | apply Drawn0.step)⟩
        ·rw [if_neg c9] at H
         exact absurd H (by simp)
       ·rw [if_neg c8] at H
        exact absurd H (by simp)
      ·rw [if_neg c7] at H
       have c7b0 : decide (x5_2 < (l0.length : Int)) = false := decide_eq_false c7
       clear c7
       obtain rfl := Option.some.inj H
       go_wp2
       repeat (go_quiet (fail); try go_wp2)
       go_ret
       exact ⟨by first | rfl | (simp; done) | (simp [*]; done), by repeat (first | exact Drawn0.refl _ | apply Drawn0.step)⟩
end Go.Proofs.Ytoidpkpgeeeggaa.Q
end
section
namespace Go.Proofs.Ytoidpkpgeeeggaa.Q
open Go.RowKit Go.Proofs.YtoidpkpgeeeggaaW.PrintWords Go.Proofs.YtoidpkpgeeeggaaW.PrintLast Go.Proofs.YtoidpkpgeeeggaaW.PrintMore
attribute [local go_sem] max2_int min2_int max_two min_two max_three min_three max_four min_four   -- for this text's walks alone
set_option linter.unusedVariables false
set_option linter.unusedSimpArgs false
mutual
def l9_PivotBoundsAsSpecified.j0 : Nat → Int → List (List Int) → List (List Int) → List (S57) → List (S57) → List Int → Bool → Option (Bool)
 | 0, _, _, _, _, _, _, _ => none
 | k + 1, x0, x1, x2, x3, x4, x5, x48 => if x48 = true then ((l9_sanity.f k).bind fun t604 => (some t604)) else ((pivot_Shells.f x0 x1 x2).bind fun bt605 => ((pivot_Join.f k x3 x4).bind fun bt609 => ((pivot_Low.f x0 x3 x5).bind fun bt613 => ((pivot_High.f x0 x3 x5).bind fun bt615 => ((r9_Shells.f k x0 x1 x2).bind fun bt617 => ((r9_Join.f k x3 x4).bind fun bt622 => ((r9_Low.f k x0 x3 x5).bind fun bt627 => ((r9_High.f k x0 x3 x5).bind fun bt631 => ((r9_SameShells.f k bt605.1 bt617.1).bind fun t635 => (if t635 = true then (if bt605.2 = bt617.2 then ((r9_SameShells.f k bt609.1 bt622.1).bind fun t636 => (if t636 = true then (if bt609.2 = bt622.2 then (if bt613.1 = bt627.2.1 then (if bt613.2 = bt627.2.2 then (if bt615.1 = bt631.2.1 then (l9_PivotBoundsAsSpecified.j1 k x3 x5 (bt615.2 == bt631.2.2)) else (l9_PivotBoundsAsSpecified.j1 k x3 x5 false)) else (l9_PivotBoundsAsSpecified.j1 k x3 x5 false)) else (l9_PivotBoundsAsSpecified.j1 k x3 x5 false)) else (l9_PivotBoundsAsSpecified.j1 k x3 x5 false)) else (l9_PivotBoundsAsSpecified.j1 k x3 x5 false))) else (l9_PivotBoundsAsSpecified.j1 k x3 x5 false)) else (l9_PivotBoundsAsSpecified.j1 k x3 x5 false)))))))))))
def l9_PivotBoundsAsSpecified.j1 : Nat → List (S57) → List Int → Bool → Option (Bool)
 | 0, _, _, _ => none
 | k + 1, x3, x5, x25 => (l9_sanity.f k).bind fun t637 => (if t637 = true then (if x25 = true then ((pivot_Valid.f k x3).bind fun t638 => ((r9_Valid.f k x3).bind fun t639 => (if (t638 == t639) = true then ((pivot_In.f k x3 x5).bind fun t640 => ((r9_In.f k x3 x5).bind fun t641 => (some (t640 == t641)))) else (some false)))) else (some false)) else (some false))
end
def l9_PivotBoundsAsSpecified.f (k : Nat) (a0 : Int) (l1 : List (List Int)) (l2 : List (List Int)) (l3 : List (S57)) (l4 : List (S57)) (l5 : List Int) : Option (Bool) := (r9_Few.f k l1 10).bind fun t602 => (if t602 = true then ((r9_Few.f k l2 30).bind fun t603 => (if t603 = true then (if (l3.length : Int) > 10 then (l9_PivotBoundsAsSpecified.j0 k a0 l1 l2 l3 l4 l5 true) else (if (l4.length : Int) > 10 then (l9_PivotBoundsAsSpecified.j0 k a0 l1 l2 l3 l4 l5 true) else (l9_PivotBoundsAsSpecified.j0 k a0 l1 l2 l3 l4 l5 (decide ((l5.length : Int) > 12))))) else (l9_PivotBoundsAsSpecified.j0 k a0 l1 l2 l3 l4 l5 true))) else (l9_PivotBoundsAsSpecified.j0 k a0 l1 l2 l3 l4 l5 true))
set_option maxHeartbeats 8000000 in
set_option maxRecDepth 100000 in
theorem l9_PivotBoundsAsSpecified.calls (k : Nat) (a0 : Int) (A1 : Option Addr) (c1 : Nat) (l1 : List (List Int)) (A2 : Option Addr) (c2 : Nat) (l2 : List (List Int)) (A3 : Option Addr) (c3 : Nat) (l3 : List (S57)) (A4 : Option Addr) (c4 : Nat) (l4 : List (S57)) (A5 : Option Addr) (c5 : Nat) (l5 : List Int) (r : Bool) (w : World) (hr1 : Kd.C (Kd.slice 3 (Kd.int .i64)) w A1 l1.length l1) (hc1 : l1.length ≤ c1) (hr2 : Kd.C (Kd.slice 3 (Kd.int .i64)) w A2 l2.length l2) (hc2 : l2.length ≤ c2) (hr3 : Kd.C k57 w A3 l3.length l3) (hc3 : l3.length ≤ c3) (hr4 : Kd.C k57 w A4 l4.length l4) (hc4 : l4.length ≤ c4) (hr5 : Kd.C (Kd.int .i64) w A5 l5.length l5) (hc5 : l5.length ≤ c5) (h : l9_PivotBoundsAsSpecified.f k a0 l1 l2 l3 l4 l5 = some r) (hT : r = true) :
  Calls Try.prog 7 #[.int .i64 a0, .slice A1 l1.length c1, .slice A2 l2.length c2, .slice A3 l3.length c3, .slice A4 l4.length c4, .slice A5 l5.length c5] w fun e w' => e = .returned (.bool r) ∧ Below w.heap.size w w' := by
 have HT := Aside0.mk hT
 clear hT
 have hu68 := Try.underlying68
 have hu39 := Try.underlying39
 have HR1 := Aside0.mk hr1
 have HC1 := Aside0.mk hc1
 clear hr1 hc1
 have HR2 := Aside0.mk hr2
 have HC2 := Aside0.mk hc2
 clear hr2 hc2
 have HR3 := Aside0.mk hr3
 have HC3 := Aside0.mk hc3
 clear hr3 hc3
 have HR4 := Aside0.mk hr4
 have HC4 := Aside0.mk hc4
 clear hr4 hc4
 have HR5 := Aside0.mk hr5
 have HC5 := Aside0.mk hc5
 clear hr5 hc5
 have HB := Aside0.mk (Below.refl w.heap.size w)
 have H : ((r9_Few.f k l1 10).bind fun t602 => (if t602 = true then ((r9_Few.f k l2 30).bind fun t603 => (if t603 = true then (if (l3.length : Int) > 10 then (l9_PivotBoundsAsSpecified.j0 k a0 l1 l2 l3 l4 l5 true) else (if (l4.length : Int) > 10 then (l9_PivotBoundsAsSpecified.j0 k a0 l1 l2 l3 l4 l5 true) else (l9_PivotBoundsAsSpecified.j0 k a0 l1 l2 l3 l4 l5 (decide ((l5.length : Int) > 12))))) else (l9_PivotBoundsAsSpecified.j0 k a0 l1 l2 l3 l4 l5 true))) else (l9_PivotBoundsAsSpecified.j0 k a0 l1 l2 l3 l4 l5 true))) = some r := h
 clear h
 have HC7 := Aside0.mk H
 clear H
 go_enter Try.func7, Try.ntmps7
 go_upto_region 1 with (fail)
 go_cut [48] (fun v48 wc => ∃ (kq : Nat) (x48_6 : Bool), v48 = .bool x48_6 ∧ Aside0 (l9_PivotBoundsAsSpecified.j0 kq a0 l1 l2 l3 l4 l5 x48_6 = some r) ∧ Aside0 (kq ≤ k) ∧ Aside0 (Below w.heap.size w wc))
 case first =>
  have H := HC7.out
  clear HC7
  replace H := Option.bind_eq_some_iff.mp H
  obtain ⟨t602, A80, H⟩ := H
  replace H : (if t602 = true then ((r9_Few.f k l2 30).bind fun t603 => (if t603 = true then (if (l3.length : Int) > 10 then (l9_PivotBoundsAsSpecified.j0 k a0 l1 l2 l3 l4 l5 true) else (if (l4.length : Int) > 10 then (l9_PivotBoundsAsSpecified.j0 k a0 l1 l2 l3 l4 l5 true) else (l9_PivotBoundsAsSpecified.j0 k a0 l1 l2 l3 l4 l5 (decide ((l5.length : Int) > 12))))) else (l9_PivotBoundsAsSpecified.j0 k a0 l1 l2 l3 l4 l5 true))) else (l9_PivotBoundsAsSpecified.j0 k a0 l1 l2 l3 l4 l5 true)) = some r := H
  have A8 := Aside0.mk A80
  clear A80
  by_cases c9 : t602 = true
  ·subst c9
   have H1 : ((r9_Few.f k l2 30).bind fun t603 => (if t603 = true then (if (l3.length : Int) > 10 then (l9_PivotBoundsAsSpecified.j0 k a0 l1 l2 l3 l4 l5 true) else (if (l4.length : Int) > 10 then (l9_PivotBoundsAsSpecified.j0 k a0 l1 l2 l3 l4 l5 true) else (l9_PivotBoundsAsSpecified.j0 k a0 l1 l2 l3 l4 l5 (decide ((l5.length : Int) > 12))))) else (l9_PivotBoundsAsSpecified.j0 k a0 l1 l2 l3 l4 l5 true))) = some r := by rw [if_pos rfl] at H; exact H
   clear H
   have H := H1
   clear H1
   replace H := Option.bind_eq_some_iff.mp H
   obtain ⟨t603, A100, H⟩ := H
   replace H : (if t603 = true then (if (l3.length : Int) > 10 then (l9_PivotBoundsAsSpecified.j0 k a0 l1 l2 l3 l4 l5 true) else (if (l4.length : Int) > 10 then (l9_PivotBoundsAsSpecified.j0 k a0 l1 l2 l3 l4 l5 true) else (l9_PivotBoundsAsSpecified.j0 k a0 l1 l2 l3 l4 l5 (decide ((l5.length : Int) > 12))))) else (l9_PivotBoundsAsSpecified.j0 k a0 l1 l2 l3 l4 l5 true)) = some r := H
   have A10 := Aside0.mk A100
   clear A100
   by_cases c11 : t603 = true
   ·subst c11
    have H1 : (if (l3.length : Int) > 10 then (l9_PivotBoundsAsSpecified.j0 k a0 l1 l2 l3 l4 l5 true) else (if (l4.length : Int) > 10 then (l9_PivotBoundsAsSpecified.j0 k a0 l1 l2 l3 l4 l5 true) else (l9_PivotBoundsAsSpecified.j0 k a0 l1 l2 l3 l4 l5 (decide ((l5.length : Int) > 12))))) = some r := by rw [if_pos rfl] at H; exact H
    clear H
    have H := H1
    clear H1
    by_cases c12 : (l3.length : Int) > 10
    ·rw [if_pos c12] at H
     have c12b0 : decide (10 < (l3.length : Int)) = true := decide_eq_true c12
     have c12b1 : decide (10 < l3.length) = true := decide_eq_true (by omega)
     clear c12
     (first | rw [c12b0] | (simp only [i64_w, i32_w]; rw [c12b0]) | skip)
     have H' := Aside0.mk H
     clear H
     go_wp2_with (first | ((with_reducible refine gate_callee (f := 9) rfl ?_); refine goesL_ (some 27) rfl rfl Try.func9 (by kernel_rfl) rfl #[.slice A1 l1.length c1, .int .i64 10] rfl (by (try simp only [List.map_toArray, List.map_cons, List.map_nil]); first | done | rfl | (simp only [List.length_drop, List.length_take]; rfl)) ?_; (with_reducible refine (r9_Few.calls k _ _ l1 10 true _ ?side1 ?side2 A8.out).mono ?_); (case side1 => repeat (first | exact (Kd.C_below HR1.out HB.out) | (with_reducible refine Kd.C_alloc ?_ _) | (with_reducible refine Kd.C_drewN ?_ _) | (with_reducible refine Kd.C_drew ?_))); (case side2 => exact HC1.out); rintro e w' ⟨rfl, ⟨nd, rfl⟩⟩; refine ⟨_, rfl, ?_⟩) | (go_at_call 9; (with_reducible refine (r9_Few.calls k _ _ l2 30 true _ ?side1 ?side2 A10.out).mono ?_); (case side1 => repeat (first | exact (Kd.C_below HR2.out (by repeat (first | (with_reducible first | exact HB.out | apply below_alloc | apply pw_below_drewN | apply below_drew1) | exact HB.out))) | (with_reducible refine Kd.C_alloc ?_ _) | (with_reducible refine Kd.C_drewN ?_ _) | (with_reducible refine Kd.C_drew ?_))); (case side2 => exact HC2.out); rintro e w' ⟨rfl, ⟨nd, rfl⟩⟩))
     go_meet
     case rel => exact ⟨_, (true), (by first | rfl | (simp; done) | (simp [*]; done)), H', ⟨by first | omega | exact Nat.le_refl _⟩, ⟨by repeat (first | (with_reducible first | exact HB.out | apply below_alloc | apply pw_below_drewN | apply below_drew1) | exact HB.out)⟩⟩
    ·rw [if_neg c12] at H
     have c12b0 : decide (10 < (l3.length : Int)) = false := decide_eq_false c12
     have c12b1 : decide (10 < l3.length) = false := decide_eq_false (by omega)
     clear c12
     (first | rw [c12b0] | (simp only [i64_w, i32_w]; rw [c12b0]) | skip)
     by_cases c13 : (l4.length : Int) > 10
     ·rw [if_pos c13] at H
      have c13b0 : decide (10 < (l4.length : Int)) = true := decide_eq_true c13
      have c13b1 : decide (10 < l4.length) = true := decide_eq_true (by omega)
      clear c13
      have H' := Aside0.mk H
      clear H
      go_wp2_with (first | ((with_reducible refine gate_callee (f := 9) rfl ?_); refine goesL_ (some 27) rfl rfl Try.func9 (by kernel_rfl) rfl #[.slice A1 l1.length c1, .int .i64 10] rfl (by (try simp only [List.map_toArray, List.map_cons, List.map_nil]); first | done | rfl | (simp only [List.length_drop, List.length_take]; rfl)) ?_; (with_reducible refine (r9_Few.calls k _ _ l1 10 true _ ?side1 ?side2 A8.out).mono ?_); (case side1 => repeat (first | exact (Kd.C_below HR1.out HB.out) | (with_reducible refine Kd.C_alloc ?_ _) | (with_reducible refine Kd.C_drewN ?_ _) | (with_reducible refine Kd.C_drew ?_))); (case side2 => exact HC1.out); rintro e w' ⟨rfl, ⟨nd, rfl⟩⟩; refine ⟨_, rfl, ?_⟩) | (go_at_call 9; (with_reducible refine (r9_Few.calls k _ _ l2 30 true _ ?side1 ?side2 A10.out).mono ?_); (case side1 => repeat (first | exact (Kd.C_below HR2.out (by repeat (first | (with_reducible first | exact HB.out | apply below_alloc | apply pw_below_drewN | apply below_drew1) | exact HB.out))) | (with_reducible refine Kd.C_alloc ?_ _) | (with_reducible refine Kd.C_drewN ?_ _) | (with_reducible refine Kd.C_drew ?_))); (case side2 => exact HC2.out); rintro e w' ⟨rfl, ⟨nd, rfl⟩⟩))
      go_meet
      case rel => exact ⟨_, (true), (by first | rfl | (simp; done) | (simp [*]; done)), H', ⟨by first | omega | exact Nat.le_refl _⟩, ⟨by repeat (first | (with_reducible first | exact HB.out | apply below_alloc | apply pw_below_drewN | apply below_drew1) | exact HB.out)⟩⟩
     ·rw [if_neg c13] at H
      have c13b0 : decide (10 < (l4.length : Int)) = false := decide_eq_false c13
      have c13b1 : decide (10 < l4.length) = false := decide_eq_false (by omega)
      clear c13
      have H' := Aside0.mk H
      clear H
      go_wp2_with (first | ((with_reducible refine gate_callee (f := 9) rfl ?_); refine goesL_ (some 27) rfl rfl Try.func9 (by kernel_rfl) rfl #[.slice A1 l1.length c1, .int .i64 10] rfl (by (try simp only [List.map_toArray, List.map_cons, List.map_nil]); first | done | rfl | (simp only [List.length_drop, List.length_take]; rfl)) ?_; (with_reducible refine (r9_Few.calls k _ _ l1 10 true _ ?side1 ?side2 A8.out).mono ?_); (case side1 => repeat (first | exact (Kd.C_below HR1.out HB.out) | (with_reducible refine Kd.C_alloc ?_ _) | (with_reducible refine Kd.C_drewN ?_ _) | (with_reducible refine Kd.C_drew ?_))); (case side2 => exact HC1.out); rintro e w' ⟨rfl, ⟨nd, rfl⟩⟩; refine ⟨_, rfl, ?_⟩) | (go_at_call 9; (with_reducible refine (r9_Few.calls k _ _ l2 30 true _ ?side1 ?side2 A10.out).mono ?_); (case side1 => repeat (first | exact (Kd.C_below HR2.out (by repeat (first | (with_reducible first | exact HB.out | apply below_alloc | apply pw_below_drewN | apply below_drew1) | exact HB.out))) | (with_reducible refine Kd.C_alloc ?_ _) | (with_reducible refine Kd.C_drewN ?_ _) | (with_reducible refine Kd.C_drew ?_))); (case side2 => exact HC2.out); rintro e w' ⟨rfl, ⟨nd, rfl⟩⟩))
      go_meet
      case rel => exact ⟨_, (decide ((l5.length : Int) > 12)), (by first | rfl | (simp; done) | (simp [*]; done)), H', ⟨by first | omega | exact Nat.le_refl _⟩, ⟨by repeat (first | (with_reducible first | exact HB.out | apply below_alloc | apply pw_below_drewN | apply below_drew1) | exact HB.out)⟩⟩
   ·replace c11 := Bool.eq_false_iff.mpr c11
    subst c11
    have H1 : (l9_PivotBoundsAsSpecified.j0 k a0 l1 l2 l3 l4 l5 true) = some r := by rw [if_neg (show ¬ (false = true) by decide)] at H; exact H
    clear H
    have H := H1
    clear H1
    have H' := Aside0.mk H
    clear H
    go_wp2_with (first | ((with_reducible refine gate_callee (f := 9) rfl ?_); refine goesL_ (some 27) rfl rfl Try.func9 (by kernel_rfl) rfl #[.slice A1 l1.length c1, .int .i64 10] rfl (by (try simp only [List.map_toArray, List.map_cons, List.map_nil]); first | done | rfl | (simp only [List.length_drop, List.length_take]; rfl)) ?_; (with_reducible refine (r9_Few.calls k _ _ l1 10 true _ ?side1 ?side2 A8.out).mono ?_); (case side1 => repeat (first | exact (Kd.C_below HR1.out HB.out) | (with_reducible refine Kd.C_alloc ?_ _) | (with_reducible refine Kd.C_drewN ?_ _) | (with_reducible refine Kd.C_drew ?_))); (case side2 => exact HC1.out); rintro e w' ⟨rfl, ⟨nd, rfl⟩⟩; refine ⟨_, rfl, ?_⟩) | (go_at_call 9; (with_reducible refine (r9_Few.calls k _ _ l2 30 false _ ?side1 ?side2 A10.out).mono ?_); (case side1 => repeat (first | exact (Kd.C_below HR2.out (by repeat (first | (with_reducible first | exact HB.out | apply below_alloc | apply pw_below_drewN | apply below_drew1) | exact HB.out))) | (with_reducible refine Kd.C_alloc ?_ _) | (with_reducible refine Kd.C_drewN ?_ _) | (with_reducible refine Kd.C_drew ?_))); (case side2 => exact HC2.out); rintro e w' ⟨rfl, ⟨nd, rfl⟩⟩))
    go_meet
    case rel => exact ⟨_, (true), (by first | rfl | (simp; done) | (simp [*]; done)), H', ⟨by first | omega | exact Nat.le_refl _⟩, ⟨by repeat (first | (with_reducible first | exact HB.out | apply below_alloc | apply pw_below_drewN | apply below_drew1) | exact HB.out)⟩⟩
  ·replace c9 := Bool.eq_false_iff.mpr c9
   subst c9
   have H1 : (l9_PivotBoundsAsSpecified.j0 k a0 l1 l2 l3 l4 l5 true) = some r := by rw [if_neg (show ¬ (false = true) by decide)] at H; exact H
   clear H
   have H := H1
   clear H1
   have H' := Aside0.mk H
   clear H
   go_wp2_with (first | ((with_reducible refine gate_callee (f := 9) rfl ?_); refine goesL_ (some 27) rfl rfl Try.func9 (by kernel_rfl) rfl #[.slice A1 l1.length c1, .int .i64 10] rfl (by (try simp only [List.map_toArray, List.map_cons, List.map_nil]); first | done | rfl | (simp only [List.length_drop, List.length_take]; rfl)) ?_; (with_reducible refine (r9_Few.calls k _ _ l1 10 false _ ?side1 ?side2 A8.out).mono ?_); (case side1 => repeat (first | exact (Kd.C_below HR1.out HB.out) | (with_reducible refine Kd.C_alloc ?_ _) | (with_reducible refine Kd.C_drewN ?_ _) | (with_reducible refine Kd.C_drew ?_))); (case side2 => exact HC1.out); rintro e w' ⟨rfl, ⟨nd, rfl⟩⟩; refine ⟨_, rfl, ?_⟩))
   go_meet
   case rel => exact ⟨_, (true), (by first | rfl | (simp; done) | (simp [*]; done)), H', ⟨by first | omega | exact Nat.le_refl _⟩, ⟨by repeat (first | (with_reducible first | exact HB.out | apply below_alloc | apply pw_below_drewN | apply below_drew1) | exact HB.out)⟩⟩
 case rest =>
  clear HC7
  try clear c1
  try clear c2
  try clear p2
  try clear c3
  try clear c4
  try clear c5
  try clear c7
  try clear c9
  try clear c11
  try clear c12
  try clear c12b0
  try clear c12b1
  try clear c13
  try clear c13b0
  try clear c13b1
  obtain ⟨kq, x48_6, rfl, HA, HJ6, HB⟩ := hcut
  cases kq with
  | zero => exact absurd HA.out (by simp [l9_PivotBoundsAsSpecified.j0])
  | succ kj6 =>
   have H := HA.out
   clear HA
   simp only [l9_PivotBoundsAsSpecified.j0] at H
   by_cases c14 : x48_6 = true
   ·subst c14
    have H1 : ((l9_sanity.f kj6).bind fun t604 => (some t604)) = some r := by rw [if_pos rfl] at H; exact H
    clear H
    have H := H1
    clear H1
    replace H := Option.bind_eq_some_iff.mp H
    obtain ⟨t604, A150, H⟩ := H
    replace H : (some t604) = some r := H
    have A15 := Aside0.mk A150
    clear A150
    obtain rfl := Option.some.inj H
    go_wp2_with (first | ((with_reducible refine gate_callee (f := 10) rfl ?_); refine goesL_ (some 49) rfl rfl Try.func10 (by kernel_rfl) rfl #[] rfl (by (try simp only [List.map_toArray, List.map_cons, List.map_nil]); first | done | rfl | (simp only [List.length_drop, List.length_take]; rfl)) ?_; (with_reducible refine (l9_sanity.calls kj6  t604 _ A15.out (by first | rfl | exact HT.out)).mono ?_); rintro e w16 ⟨rfl, hb⟩; refine ⟨_, rfl, ?_⟩; have n0_ := Aside0.mk (below_step (by repeat (first | (with_reducible first | exact HB.out | apply below_alloc | apply pw_below_drewN | apply below_drew1) | exact HB.out)) hb); clear HB; have HB := n0_; clear n0_; (try clear hb); (try clear hb2); (try clear hk); (try clear hi)))
    go_ret
    exact ⟨by first | rfl | (simp [errW_none, errW_some] <;> rfl) | (simp [*, errW_none, errW_some] <;> rfl), by repeat (first | (with_reducible first | exact HB.out | apply below_alloc | apply pw_below_drewN | apply below_drew1) | exact HB.out)⟩
   ·replace c14 := Bool.eq_false_iff.mpr c14
    subst c14
    have H1 : ((pivot_Shells.f a0 l1 l2).bind fun bt605 => ((pivot_Join.f kj6 l3 l4).bind fun bt609 => ((pivot_Low.f a0 l3 l5).bind fun bt613 => ((pivot_High.f a0 l3 l5).bind fun bt615 => ((r9_Shells.f kj6 a0 l1 l2).bind fun bt617 => ((r9_Join.f kj6 l3 l4).bind fun bt622 => ((r9_Low.f kj6 a0 l3 l5).bind fun bt627 => ((r9_High.f kj6 a0 l3 l5).bind fun bt631 => ((r9_SameShells.f kj6 bt605.1 bt617.1).bind fun t635 => (if t635 = true then (if bt605.2 = bt617.2 then ((r9_SameShells.f kj6 bt609.1 bt622.1).bind fun t636 => (if t636 = true then (if bt609.2 = bt622.2 then (if bt613.1 = bt627.2.1 then (if bt613.2 = bt627.2.2 then (if bt615.1 = bt631.2.1 then (l9_PivotBoundsAsSpecified.j1 kj6 l3 l5 (bt615.2 == bt631.2.2)) else (l9_PivotBoundsAsSpecified.j1 kj6 l3 l5 false)) else (l9_PivotBoundsAsSpecified.j1 kj6 l3 l5 false)) else (l9_PivotBoundsAsSpecified.j1 kj6 l3 l5 false)) else (l9_PivotBoundsAsSpecified.j1 kj6 l3 l5 false)) else (l9_PivotBoundsAsSpecified.j1 kj6 l3 l5 false))) else (l9_PivotBoundsAsSpecified.j1 kj6 l3 l5 false)) else (l9_PivotBoundsAsSpecified.j1 kj6 l3 l5 false))))))))))) = some r := by rw [if_neg (show ¬ (false = true) by decide)] at H; exact H
    clear H
    have H := H1
    clear H1
    replace H := Option.bind_eq_some_iff.mp H
    obtain ⟨⟨t605, t606⟩, A170, H⟩ := H
    replace H : ((pivot_Join.f kj6 l3 l4).bind fun bt609 => ((pivot_Low.f a0 l3 l5).bind fun bt613 => ((pivot_High.f a0 l3 l5).bind fun bt615 => ((r9_Shells.f kj6 a0 l1 l2).bind fun bt617 => ((r9_Join.f kj6 l3 l4).bind fun bt622 => ((r9_Low.f kj6 a0 l3 l5).bind fun bt627 => ((r9_High.f kj6 a0 l3 l5).bind fun bt631 => ((r9_SameShells.f kj6 t605 bt617.1).bind fun t635 => (if t635 = true then (if t606 = bt617.2 then ((r9_SameShells.f kj6 bt609.1 bt622.1).bind fun t636 => (if t636 = true then (if bt609.2 = bt622.2 then (if bt613.1 = bt627.2.1 then (if bt613.2 = bt627.2.2 then (if bt615.1 = bt631.2.1 then (l9_PivotBoundsAsSpecified.j1 kj6 l3 l5 (bt615.2 == bt631.2.2)) else (l9_PivotBoundsAsSpecified.j1 kj6 l3 l5 false)) else (l9_PivotBoundsAsSpecified.j1 kj6 l3 l5 false)) else (l9_PivotBoundsAsSpecified.j1 kj6 l3 l5 false)) else (l9_PivotBoundsAsSpecified.j1 kj6 l3 l5 false)) else (l9_PivotBoundsAsSpecified.j1 kj6 l3 l5 false))) else (l9_PivotBoundsAsSpecified.j1 kj6 l3 l5 false)) else (l9_PivotBoundsAsSpecified.j1 kj6 l3 l5 false)))))))))) = some r := H
    have A17 := Aside0.mk A170
    clear A170
    replace H := Option.bind_eq_some_iff.mp H
    obtain ⟨⟨t609, t610⟩, A180, H⟩ := H
    replace H : ((pivot_Low.f a0 l3 l5).bind fun bt613 => ((pivot_High.f a0 l3 l5).bind fun bt615 => ((r9_Shells.f kj6 a0 l1 l2).bind fun bt617 => ((r9_Join.f kj6 l3 l4).bind fun bt622 => ((r9_Low.f kj6 a0 l3 l5).bind fun bt627 => ((r9_High.f kj6 a0 l3 l5).bind fun bt631 => ((r9_SameShells.f kj6 t605 bt617.1).bind fun t635 => (if t635 = true then (if t606 = bt617.2 then ((r9_SameShells.f kj6 t609 bt622.1).bind fun t636 => (if t636 = true then (if t610 = bt622.2 then (if bt613.1 = bt627.2.1 then (if bt613.2 = bt627.2.2 then (if bt615.1 = bt631.2.1 then (l9_PivotBoundsAsSpecified.j1 kj6 l3 l5 (bt615.2 == bt631.2.2)) else (l9_PivotBoundsAsSpecified.j1 kj6 l3 l5 false)) else (l9_PivotBoundsAsSpecified.j1 kj6 l3 l5 false)) else (l9_PivotBoundsAsSpecified.j1 kj6 l3 l5 false)) else (l9_PivotBoundsAsSpecified.j1 kj6 l3 l5 false)) else (l9_PivotBoundsAsSpecified.j1 kj6 l3 l5 false))) else (l9_PivotBoundsAsSpecified.j1 kj6 l3 l5 false)) else (l9_PivotBoundsAsSpecified.j1 kj6 l3 l5 false))))))))) = some r := H
    have A18 := Aside0.mk A180
    clear A180
    replace H := Option.bind_eq_some_iff.mp H
    obtain ⟨⟨t613, t614⟩, A190, H⟩ := H
    replace H : ((pivot_High.f a0 l3 l5).bind fun bt615 => ((r9_Shells.f kj6 a0 l1 l2).bind fun bt617 => ((r9_Join.f kj6 l3 l4).bind fun bt622 => ((r9_Low.f kj6 a0 l3 l5).bind fun bt627 => ((r9_High.f kj6 a0 l3 l5).bind fun bt631 => ((r9_SameShells.f kj6 t605 bt617.1).bind fun t635 => (if t635 = true then (if t606 = bt617.2 then ((r9_SameShells.f kj6 t609 bt622.1).bind fun t636 => (if t636 = true then (if t610 = bt622.2 then (if t613 = bt627.2.1 then (if t614 = bt627.2.2 then (if bt615.1 = bt631.2.1 then (l9_PivotBoundsAsSpecified.j1 kj6 l3 l5 (bt615.2 == bt631.2.2)) else (l9_PivotBoundsAsSpecified.j1 kj6 l3 l5 false)) else (l9_PivotBoundsAsSpecified.j1 kj6 l3 l5 false)) else (l9_PivotBoundsAsSpecified.j1 kj6 l3 l5 false)) else (l9_PivotBoundsAsSpecified.j1 kj6 l3 l5 false)) else (l9_PivotBoundsAsSpecified.j1 kj6 l3 l5 false))) else (l9_PivotBoundsAsSpecified.j1 kj6 l3 l5 false)) else (l9_PivotBoundsAsSpecified.j1 kj6 l3 l5 false)))))))) = some r := H
    have A19 := Aside0.mk A190
    clear A190
    replace H := Option.bind_eq_some_iff.mp H
    obtain ⟨⟨t615, t616⟩, A200, H⟩ := H
    replace H : ((r9_Shells.f kj6 a0 l1 l2).bind fun bt617 => ((r9_Join.f kj6 l3 l4).bind fun bt622 => ((r9_Low.f kj6 a0 l3 l5).bind fun bt627 => ((r9_High.f kj6 a0 l3 l5).bind fun bt631 => ((r9_SameShells.f kj6 t605 bt617.1).bind fun t635 => (if t635 = true then (if t606 = bt617.2 then ((r9_SameShells.f kj6 t609 bt622.1).bind fun t636 => (if t636 = true then (if t610 = bt622.2 then (if t613 = bt627.2.1 then (if t614 = bt627.2.2 then (if t615 = bt631.2.1 then (l9_PivotBoundsAsSpecified.j1 kj6 l3 l5 (t616 == bt631.2.2)) else (l9_PivotBoundsAsSpecified.j1 kj6 l3 l5 false)) else (l9_PivotBoundsAsSpecified.j1 kj6 l3 l5 false)) else (l9_PivotBoundsAsSpecified.j1 kj6 l3 l5 false)) else (l9_PivotBoundsAsSpecified.j1 kj6 l3 l5 false)) else (l9_PivotBoundsAsSpecified.j1 kj6 l3 l5 false))) else (l9_PivotBoundsAsSpecified.j1 kj6 l3 l5 false)) else (l9_PivotBoundsAsSpecified.j1 kj6 l3 l5 false))))))) = some r := H
    have A20 := Aside0.mk A200
    clear A200
    replace H := Option.bind_eq_some_iff.mp H
    obtain ⟨⟨t617, t620⟩, A210, H⟩ := H
    replace H : ((r9_Join.f kj6 l3 l4).bind fun bt622 => ((r9_Low.f kj6 a0 l3 l5).bind fun bt627 => ((r9_High.f kj6 a0 l3 l5).bind fun bt631 => ((r9_SameShells.f kj6 t605 t617).bind fun t635 => (if t635 = true then (if t606 = t620 then ((r9_SameShells.f kj6 t609 bt622.1).bind fun t636 => (if t636 = true then (if t610 = bt622.2 then (if t613 = bt627.2.1 then (if t614 = bt627.2.2 then (if t615 = bt631.2.1 then (l9_PivotBoundsAsSpecified.j1 kj6 l3 l5 (t616 == bt631.2.2)) else (l9_PivotBoundsAsSpecified.j1 kj6 l3 l5 false)) else (l9_PivotBoundsAsSpecified.j1 kj6 l3 l5 false)) else (l9_PivotBoundsAsSpecified.j1 kj6 l3 l5 false)) else (l9_PivotBoundsAsSpecified.j1 kj6 l3 l5 false)) else (l9_PivotBoundsAsSpecified.j1 kj6 l3 l5 false))) else (l9_PivotBoundsAsSpecified.j1 kj6 l3 l5 false)) else (l9_PivotBoundsAsSpecified.j1 kj6 l3 l5 false)))))) = some r := H
    have A21 := Aside0.mk A210
    clear A210
    replace H := Option.bind_eq_some_iff.mp H
    obtain ⟨⟨t622, t625⟩, A220, H⟩ := H
    replace H : ((r9_Low.f kj6 a0 l3 l5).bind fun bt627 => ((r9_High.f kj6 a0 l3 l5).bind fun bt631 => ((r9_SameShells.f kj6 t605 t617).bind fun t635 => (if t635 = true then (if t606 = t620 then ((r9_SameShells.f kj6 t609 t622).bind fun t636 => (if t636 = true then (if t610 = t625 then (if t613 = bt627.2.1 then (if t614 = bt627.2.2 then (if t615 = bt631.2.1 then (l9_PivotBoundsAsSpecified.j1 kj6 l3 l5 (t616 == bt631.2.2)) else (l9_PivotBoundsAsSpecified.j1 kj6 l3 l5 false)) else (l9_PivotBoundsAsSpecified.j1 kj6 l3 l5 false)) else (l9_PivotBoundsAsSpecified.j1 kj6 l3 l5 false)) else (l9_PivotBoundsAsSpecified.j1 kj6 l3 l5 false)) else (l9_PivotBoundsAsSpecified.j1 kj6 l3 l5 false))) else (l9_PivotBoundsAsSpecified.j1 kj6 l3 l5 false)) else (l9_PivotBoundsAsSpecified.j1 kj6 l3 l5 false))))) = some r := H
    have A22 := Aside0.mk A220
    clear A220
    replace H := Option.bind_eq_some_iff.mp H
    obtain ⟨⟨t627, t628, t629⟩, A230, H⟩ := H
    replace H : ((r9_High.f kj6 a0 l3 l5).bind fun bt631 => ((r9_SameShells.f kj6 t605 t617).bind fun t635 => (if t635 = true then (if t606 = t620 then ((r9_SameShells.f kj6 t609 t622).bind fun t636 => (if t636 = true then (if t610 = t625 then (if t613 = t628 then (if t614 = t629 then (if t615 = bt631.2.1 then (l9_PivotBoundsAsSpecified.j1 kj6 l3 l5 (t616 == bt631.2.2)) else (l9_PivotBoundsAsSpecified.j1 kj6 l3 l5 false)) else (l9_PivotBoundsAsSpecified.j1 kj6 l3 l5 false)) else (l9_PivotBoundsAsSpecified.j1 kj6 l3 l5 false)) else (l9_PivotBoundsAsSpecified.j1 kj6 l3 l5 false)) else (l9_PivotBoundsAsSpecified.j1 kj6 l3 l5 false))) else (l9_PivotBoundsAsSpecified.j1 kj6 l3 l5 false)) else (l9_PivotBoundsAsSpecified.j1 kj6 l3 l5 false)))) = some r := H
    have A23 := Aside0.mk A230
    clear A230
    replace H := Option.bind_eq_some_iff.mp H
    obtain ⟨⟨t631, t632, t633⟩, A240, H⟩ := H
    replace H : ((r9_SameShells.f kj6 t605 t617).bind fun t635 => (if t635 = true then (if t606 = t620 then ((r9_SameShells.f kj6 t609 t622).bind fun t636 => (if t636 = true then (if t610 = t625 then (if t613 = t628 then (if t614 = t629 then (if t615 = t632 then (l9_PivotBoundsAsSpecified.j1 kj6 l3 l5 (t616 == t633)) else (l9_PivotBoundsAsSpecified.j1 kj6 l3 l5 false)) else (l9_PivotBoundsAsSpecified.j1 kj6 l3 l5 false)) else (l9_PivotBoundsAsSpecified.j1 kj6 l3 l5 false)) else (l9_PivotBoundsAsSpecified.j1 kj6 l3 l5 false)) else (l9_PivotBoundsAsSpecified.j1 kj6 l3 l5 false))) else (l9_PivotBoundsAsSpecified.j1 kj6 l3 l5 false)) else (l9_PivotBoundsAsSpecified.j1 kj6 l3 l5 false))) = some r := H
    have A24 := Aside0.mk A240
    clear A240
    have HC25 := Aside0.mk H
    clear H
    go_upto_region 11 with (first | ((with_reducible refine gate_callee (f := 23) rfl ?_); refine goesL_ (some 54) rfl rfl Try.func23 (by kernel_rfl) rfl #[.int .i64 a0, .slice A1 l1.length c1, .slice A2 l2.length c2] rfl (by (try simp only [List.map_toArray, List.map_cons, List.map_nil]); first | done | rfl | (simp only [List.length_drop, List.length_take]; rfl)) ?_; (with_reducible refine (pivot_Shells.calls a0 _ _ l1 _ _ l2 t605 t606 _ ?side1 ?side2 ?side3 ?side4 A17.out).mono ?_); (case side1 => repeat (first | exact (Kd.C_below HR1.out HB.out) | (with_reducible refine Kd.C_alloc ?_ _) | (with_reducible refine Kd.C_drewN ?_ _) | (with_reducible refine Kd.C_drew ?_))); (case side2 => exact HC1.out); (case side3 => repeat (first | exact (Kd.C_below HR2.out HB.out) | (with_reducible refine Kd.C_alloc ?_ _) | (with_reducible refine Kd.C_drewN ?_ _) | (with_reducible refine Kd.C_drew ?_))); (case side4 => exact HC2.out); rintro e w26 ⟨v607, rfl, ho0, hb⟩; refine ⟨_, rfl, ?_⟩; have n0_ := Aside0.mk (Kd.R_lower ho0 (below_size (by repeat (first | (with_reducible first | exact HB.out | apply below_alloc | apply pw_below_drewN | apply below_drew1) | exact HB.out)))); have n1_ := Aside0.mk (below_step (by repeat (first | (with_reducible first | exact HB.out | apply below_alloc | apply pw_below_drewN | apply below_drew1) | exact HB.out)) hb); clear HB; have HO608 := n0_; have HB := n1_; clear n0_ n1_; (try clear hb); (try clear hb2); (try clear hk); (try clear hi); (try clear ho0)) | ((with_reducible refine gate_callee (f := 33) rfl ?_); refine goesL_ (some 60) rfl rfl Try.func33 (by kernel_rfl) rfl #[.slice A3 l3.length c3, .slice A4 l4.length c4] rfl (by (try simp only [List.map_toArray, List.map_cons, List.map_nil]); first | done | rfl | (simp only [List.length_drop, List.length_take]; rfl)) ?_; (with_reducible refine (pivot_Join.calls kj6 _ _ l3 _ _ l4 t609 t610 _ ?side1 ?side2 ?side3 ?side4 A18.out).mono ?_); (case side1 => repeat (first | exact (Kd.C_below HR3.out HB.out) | (with_reducible refine Kd.C_alloc ?_ _) | (with_reducible refine Kd.C_drewN ?_ _) | (with_reducible refine Kd.C_drew ?_))); (case side2 => exact HC3.out); (case side3 => repeat (first | exact (Kd.C_below HR4.out HB.out) | (with_reducible refine Kd.C_alloc ?_ _) | (with_reducible refine Kd.C_drewN ?_ _) | (with_reducible refine Kd.C_drew ?_))); (case side4 => exact HC4.out); rintro e w27 ⟨v611, rfl, ho0, hb⟩; refine ⟨_, rfl, ?_⟩; have n0_ := Aside0.mk (Kd.R_elder' (by (with_reducible repeat (first | apply Kd.R_alloc | apply Kd.R_drewN | apply Kd.R_drew)); exact HO608.out) (Kd.R_base ho0) hb); have n1_ := Aside0.mk (Kd.R_lower (Kd.R_new' ho0 (Kd.R_lt (by (with_reducible repeat (first | apply Kd.R_alloc | apply Kd.R_drewN | apply Kd.R_drew)); exact HO608.out))) (below_size (by repeat (first | (with_reducible first | exact HB.out | apply below_alloc | apply pw_below_drewN | apply below_drew1) | exact HB.out)))); have n2_ := Aside0.mk (below_step (by repeat (first | (with_reducible first | exact HB.out | apply below_alloc | apply pw_below_drewN | apply below_drew1) | exact HB.out)) hb); clear HO608; clear HB; have HO608 := n0_; have HO612 := n1_; have HB := n2_; clear n0_ n1_ n2_; (try clear hb); (try clear hb2); (try clear hk); (try clear hi); (try clear ho0)) | ((with_reducible refine gate_callee (f := 25) rfl ?_); refine goesL_ (some 67) rfl rfl Try.func25 (by kernel_rfl) rfl #[.int .i64 a0, .slice A3 l3.length c3, .slice A5 l5.length c5] rfl (by (try simp only [List.map_toArray, List.map_cons, List.map_nil]); first | done | rfl | (simp only [List.length_drop, List.length_take]; rfl)) ?_; (with_reducible refine (pivot_Low.calls a0 _ _ l3 _ _ l5 t613 t614 _ ?side1 ?side2 ?side3 ?side4 A19.out).mono ?_); (case side1 => repeat (first | exact (Kd.C_below HR3.out HB.out) | (with_reducible refine Kd.C_alloc ?_ _) | (with_reducible refine Kd.C_drewN ?_ _) | (with_reducible refine Kd.C_drew ?_))); (case side2 => exact HC3.out); (case side3 => repeat (first | exact (Kd.C_below HR5.out HB.out) | (with_reducible refine Kd.C_alloc ?_ _) | (with_reducible refine Kd.C_drewN ?_ _) | (with_reducible refine Kd.C_drew ?_))); (case side4 => exact HC5.out); rintro e w28 ⟨rfl, hb⟩; refine ⟨_, rfl, ?_⟩; have n0_ := Aside0.mk (Kd.R_below (by (with_reducible repeat (first | apply Kd.R_alloc | apply Kd.R_drewN | apply Kd.R_drew)); exact HO608.out) hb); have n1_ := Aside0.mk (Kd.R_below (by (with_reducible repeat (first | apply Kd.R_alloc | apply Kd.R_drewN | apply Kd.R_drew)); exact HO612.out) hb); have n2_ := Aside0.mk (below_step (by repeat (first | (with_reducible first | exact HB.out | apply below_alloc | apply pw_below_drewN | apply below_drew1) | exact HB.out)) hb); clear HO608; clear HO612; clear HB; have HO608 := n0_; have HO612 := n1_; have HB := n2_; clear n0_ n1_ n2_; (try clear hb); (try clear hb2); (try clear hk); (try clear hi)) | ((with_reducible refine gate_callee (f := 26) rfl ?_); refine goesL_ (some 74) rfl rfl Try.func26 (by kernel_rfl) rfl #[.int .i64 a0, .slice A3 l3.length c3, .slice A5 l5.length c5] rfl (by (try simp only [List.map_toArray, List.map_cons, List.map_nil]); first | done | rfl | (simp only [List.length_drop, List.length_take]; rfl)) ?_; (with_reducible refine (pivot_High.calls a0 _ _ l3 _ _ l5 t615 t616 _ ?side1 ?side2 ?side3 ?side4 A20.out).mono ?_); (case side1 => repeat (first | exact (Kd.C_below HR3.out HB.out) | (with_reducible refine Kd.C_alloc ?_ _) | (with_reducible refine Kd.C_drewN ?_ _) | (with_reducible refine Kd.C_drew ?_))); (case side2 => exact HC3.out); (case side3 => repeat (first | exact (Kd.C_below HR5.out HB.out) | (with_reducible refine Kd.C_alloc ?_ _) | (with_reducible refine Kd.C_drewN ?_ _) | (with_reducible refine Kd.C_drew ?_))); (case side4 => exact HC5.out); rintro e w29 ⟨rfl, hb⟩; refine ⟨_, rfl, ?_⟩; have n0_ := Aside0.mk (Kd.R_below (by (with_reducible repeat (first | apply Kd.R_alloc | apply Kd.R_drewN | apply Kd.R_drew)); exact HO608.out) hb); have n1_ := Aside0.mk (Kd.R_below (by (with_reducible repeat (first | apply Kd.R_alloc | apply Kd.R_drewN | apply Kd.R_drew)); exact HO612.out) hb); have n2_ := Aside0.mk (below_step (by repeat (first | (with_reducible first | exact HB.out | apply below_alloc | apply pw_below_drewN | apply below_drew1) | exact HB.out)) hb); clear HO608; clear HO612; clear HB; have HO608 := n0_; have HO612 := n1_; have HB := n2_; clear n0_ n1_ n2_; (try clear hb); (try clear hb2); (try clear hk); (try clear hi)) | ((with_reducible refine gate_callee (f := 34) rfl ?_); refine goesL_ (some 80) rfl rfl Try.func34 (by kernel_rfl) rfl #[.int .i64 a0, .slice A1 l1.length c1, .slice A2 l2.length c2] rfl (by (try simp only [List.map_toArray, List.map_cons, List.map_nil]); first | done | rfl | (simp only [List.length_drop, List.length_take]; rfl)) ?_; (with_reducible refine (r9_Shells.calls kj6 a0 _ _ l1 _ _ l2 t617 t620 _ ?side1 ?side2 ?side3 ?side4 A21.out).mono ?_); (case side1 => repeat (first | exact (Kd.C_below HR1.out HB.out) | (with_reducible refine Kd.C_alloc ?_ _) | (with_reducible refine Kd.C_drewN ?_ _) | (with_reducible refine Kd.C_drew ?_))); (case side2 => exact HC1.out); (case side3 => repeat (first | exact (Kd.C_below HR2.out HB.out) | (with_reducible refine Kd.C_alloc ?_ _) | (with_reducible refine Kd.C_drewN ?_ _) | (with_reducible refine Kd.C_drew ?_))); (case side4 => exact HC2.out); rintro e w30 ⟨v618, rfl, ho0, hb⟩; refine ⟨_, rfl, ?_⟩; have n0_ := Aside0.mk (Kd.R_elder' (by (with_reducible repeat (first | apply Kd.R_alloc | apply Kd.R_drewN | apply Kd.R_drew)); exact HO608.out) (Kd.R_base ho0) hb); have n1_ := Aside0.mk (Kd.R_elder' (by (with_reducible repeat (first | apply Kd.R_alloc | apply Kd.R_drewN | apply Kd.R_drew)); exact HO612.out) (Kd.R_base ho0) hb); have n2_ := Aside0.mk (Kd.R_lower (Kd.R_new' (Kd.R_new' ho0 (Kd.R_lt (by (with_reducible repeat (first | apply Kd.R_alloc | apply Kd.R_drewN | apply Kd.R_drew)); exact HO608.out))) (Kd.R_lt (by (with_reducible repeat (first | apply Kd.R_alloc | apply Kd.R_drewN | apply Kd.R_drew)); exact HO612.out))) (below_size (by repeat (first | (with_reducible first | exact HB.out | apply below_alloc | apply pw_below_drewN | apply below_drew1) | exact HB.out)))); have n3_ := Aside0.mk (below_step (by repeat (first | (with_reducible first | exact HB.out | apply below_alloc | apply pw_below_drewN | apply below_drew1) | exact HB.out)) hb); clear HO608; clear HO612; clear HB; have HO608 := n0_; have HO612 := n1_; have HO619 := n2_; have HB := n3_; clear n0_ n1_ n2_ n3_; (try clear hb); (try clear hb2); (try clear hk); (try clear hi); (try clear ho0)) | ((with_reducible refine gate_dst (N := 21) rfl ?_); (try (refine gate_guard (by rfl) ?_; dsimp only)); refine box_event ?hg (N := 21) ?hd (cs := #[.slice none 0 0, .int .i64 0]) (t := 68) ?hr ?_; (case hd => rfl); (case hg => rfl); (case hr => first | (go_simp; done) | (go_simp; rfl)); intro gb621 hg w31 hbox hb; have n0_ := Aside0.mk (Kd.R_below (by (with_reducible repeat (first | apply Kd.R_alloc | apply Kd.R_drewN | apply Kd.R_drew)); exact HO608.out) hb); have n1_ := Aside0.mk (Kd.R_below (by (with_reducible repeat (first | apply Kd.R_alloc | apply Kd.R_drewN | apply Kd.R_drew)); exact HO612.out) hb); have n2_ := Aside0.mk (Kd.R_below (by (with_reducible repeat (first | apply Kd.R_alloc | apply Kd.R_drewN | apply Kd.R_drew)); exact HO619.out) hb); have n3_ := Aside0.mk (below_step (by repeat (first | (with_reducible first | exact HB.out | apply below_alloc | apply pw_below_drewN | apply below_drew1) | exact HB.out)) hb); have n4_ := Aside0.mk (hbox); have n5_ := Aside0.mk ((by rw [hg]; exact (below_size (by repeat (first | (with_reducible first | exact HB.out | apply below_alloc | apply pw_below_drewN | apply below_drew1) | exact HB.out))) : w.heap.size ≤ gb621)); have n6_ := Aside0.mk ((by rw [hg]; exact (below_size (by repeat (first | (with_reducible first | exact HB.out | apply below_alloc | apply pw_below_drewN | apply below_drew1) | exact HB.out))) : w.heap.size ≤ gb621)); clear HO608; clear HO612; clear HO619; clear HB; have HO608 := n0_; have HO612 := n1_; have HO619 := n2_; have HB := n3_; have BK621 := n4_; have GW621 := n5_; have GE621 := n6_; clear n0_ n1_ n2_ n3_ n4_ n5_ n6_; clear hb hbox hg; obtain ⟨Ao32, co32, eo32⟩ := Kd.R_slice HO619.out; subst eo32; have hcz33_0 : w31.cell? ⟨gb621, 0, none⟩ = some (.slice none 0 0) := (blk_cell BK621.out 0).trans rfl; have hcz33_1 : w31.cell? ⟨gb621, 1, none⟩ = some (.int .i64 0) := (blk_cell BK621.out 1).trans rfl; have hfz33_0 := blk_frozen BK621.out 0; have hfz33_1 := blk_frozen BK621.out 1) | ((with_reducible refine gate_callee (f := 35) rfl ?_); refine goesL_ (some 83) rfl rfl Try.func35 (by kernel_rfl) rfl #[.slice A3 l3.length c3, .slice A4 l4.length c4] rfl (by (try simp only [List.map_toArray, List.map_cons, List.map_nil]); first | done | rfl | (simp only [List.length_drop, List.length_take]; rfl)) ?_; (with_reducible refine (r9_Join.calls kj6 _ _ l3 _ _ l4 t622 t625 _ ?side1 ?side2 ?side3 ?side4 A22.out).mono ?_); (case side1 => exact Kd.C_below HR3.out (by repeat (first | (with_reducible first | exact HB.out | apply below_alloc | apply pw_below_drewN | apply below_drew1 | refine below_set ?_ GE621.out) | exact HB.out))); (case side2 => exact HC3.out); (case side3 => exact Kd.C_below HR4.out (by repeat (first | (with_reducible first | exact HB.out | apply below_alloc | apply pw_below_drewN | apply below_drew1 | refine below_set ?_ GE621.out) | exact HB.out))); (case side4 => exact HC4.out); rintro e w34 ⟨v623, rfl, ho0, hb⟩; refine ⟨_, rfl, ?_⟩; have n0_ := Aside0.mk (Kd.R_elder' (by (with_reducible repeat (first | apply Kd.R_alloc | apply Kd.R_drewN | apply Kd.R_drew)); exact (Kd.R_mono (Kd.R_far (p := ⟨gb621, 1, none⟩) (Kd.R_far (p := ⟨gb621, 0, none⟩) (Kd.R_types HO608.out BK621.out (by decide)) (fun _ hk => hk.2) (.slice Ao32 t617.length co32)) (fun _ hk => hk.2) (.int .i64 t620)) (fun _ h_ => h_.1))) (Kd.R_base ho0) hb); have n1_ := Aside0.mk (Kd.R_elder' (by (with_reducible repeat (first | apply Kd.R_alloc | apply Kd.R_drewN | apply Kd.R_drew)); exact (Kd.R_mono (Kd.R_far (p := ⟨gb621, 1, none⟩) (Kd.R_far (p := ⟨gb621, 0, none⟩) (Kd.R_types HO612.out BK621.out (by decide)) (fun _ hk => hk.2) (.slice Ao32 t617.length co32)) (fun _ hk => hk.2) (.int .i64 t620)) (fun _ h_ => h_.1))) (Kd.R_base ho0) hb); have n2_ := Aside0.mk (Kd.R_elder' (by (with_reducible repeat (first | apply Kd.R_alloc | apply Kd.R_drewN | apply Kd.R_drew)); exact (Kd.R_mono (Kd.R_far (p := ⟨gb621, 1, none⟩) (Kd.R_far (p := ⟨gb621, 0, none⟩) (Kd.R_types HO619.out BK621.out (by decide)) (fun _ hk => hk.2) (.slice Ao32 t617.length co32)) (fun _ hk => hk.2) (.int .i64 t620)) (fun _ h_ => h_.1))) (Kd.R_base ho0) hb); have n3_ := Aside0.mk (Kd.R_lower (Kd.R_new' (Kd.R_new' (Kd.R_new' ho0 (Kd.R_lt (by (with_reducible repeat (first | apply Kd.R_alloc | apply Kd.R_drewN | apply Kd.R_drew)); exact (Kd.R_mono (Kd.R_far (p := ⟨gb621, 1, none⟩) (Kd.R_far (p := ⟨gb621, 0, none⟩) (Kd.R_types HO608.out BK621.out (by decide)) (fun _ hk => hk.2) (.slice Ao32 t617.length co32)) (fun _ hk => hk.2) (.int .i64 t620)) (fun _ h_ => h_.1))))) (Kd.R_lt (by (with_reducible repeat (first | apply Kd.R_alloc | apply Kd.R_drewN | apply Kd.R_drew)); exact (Kd.R_mono (Kd.R_far (p := ⟨gb621, 1, none⟩) (Kd.R_far (p := ⟨gb621, 0, none⟩) (Kd.R_types HO612.out BK621.out (by decide)) (fun _ hk => hk.2) (.slice Ao32 t617.length co32)) (fun _ hk => hk.2) (.int .i64 t620)) (fun _ h_ => h_.1))))) (Kd.R_lt (by (with_reducible repeat (first | apply Kd.R_alloc | apply Kd.R_drewN | apply Kd.R_drew)); exact (Kd.R_mono (Kd.R_far (p := ⟨gb621, 1, none⟩) (Kd.R_far (p := ⟨gb621, 0, none⟩) (Kd.R_types HO619.out BK621.out (by decide)) (fun _ hk => hk.2) (.slice Ao32 t617.length co32)) (fun _ hk => hk.2) (.int .i64 t620)) (fun _ h_ => h_.1))))) (below_size (by repeat (first | (with_reducible first | exact HB.out | apply below_alloc | apply pw_below_drewN | apply below_drew1 | refine below_set ?_ GE621.out) | exact HB.out)))); have n4_ := Aside0.mk (blk_below (g := gb621) (o := .cells #[.slice Ao32 t617.length co32, .int .i64 t620] 68 (0, 0)) (by (with_reducible repeat (first | refine blk_drewN ?_ _ | refine blk_drew ?_ | refine blk_alloc ?_ _)); refine blk_put (cs := #[.slice Ao32 t617.length co32, .int .i64 0]) ?_ 1 _ rfl; (with_reducible repeat (first | refine blk_drewN ?_ _ | refine blk_drew ?_ | refine blk_alloc ?_ _)); refine blk_put (cs := #[.slice none 0 0, .int .i64 0]) ?_ 0 _ rfl; (with_reducible repeat (first | refine blk_drewN ?_ _ | refine blk_drew ?_ | refine blk_alloc ?_ _)); exact BK621.out) hb); have n5_ := Aside0.mk (below_step (by repeat (first | (with_reducible first | exact HB.out | apply below_alloc | apply pw_below_drewN | apply below_drew1 | refine below_set ?_ GE621.out) | exact HB.out)) hb); clear HO608; clear HO612; clear HO619; clear BK621; clear HB; have HO608 := n0_; have HO612 := n1_; have HO619 := n2_; have HO624 := n3_; have BK621 := n4_; have HB := n5_; clear n0_ n1_ n2_ n3_ n4_ n5_; (try clear hb); (try clear hb2); (try clear hk); (try clear hi); (try clear ho0)) | ((with_reducible refine gate_dst (N := 22) rfl ?_); (try (refine gate_guard (by rfl) ?_; dsimp only)); refine box_event ?hg (N := 22) ?hd (cs := #[.slice none 0 0, .int .i64 0]) (t := 68) ?hr ?_; (case hd => rfl); (case hg => rfl); (case hr => first | (go_simp; done) | (go_simp; rfl)); intro gb626 hg w35 hbox hb; have n0_ := Aside0.mk (Kd.R_below (by (with_reducible repeat (first | apply Kd.R_alloc | apply Kd.R_drewN | apply Kd.R_drew)); exact HO608.out) hb); have n1_ := Aside0.mk (Kd.R_below (by (with_reducible repeat (first | apply Kd.R_alloc | apply Kd.R_drewN | apply Kd.R_drew)); exact HO612.out) hb); have n2_ := Aside0.mk (Kd.R_below (by (with_reducible repeat (first | apply Kd.R_alloc | apply Kd.R_drewN | apply Kd.R_drew)); exact HO619.out) hb); have n3_ := Aside0.mk (Kd.R_below (by (with_reducible repeat (first | apply Kd.R_alloc | apply Kd.R_drewN | apply Kd.R_drew)); exact HO624.out) hb); have n4_ := Aside0.mk (blk_below (g := gb621) (o := .cells #[.slice Ao32 t617.length co32, .int .i64 t620] 68 (0, 0)) (by (with_reducible repeat (first | refine blk_drewN ?_ _ | refine blk_drew ?_ | refine blk_alloc ?_ _)); exact BK621.out) hb); have n5_ := Aside0.mk (below_step (by repeat (first | (with_reducible first | exact HB.out | apply below_alloc | apply pw_below_drewN | apply below_drew1 | refine below_set ?_ GE621.out) | exact HB.out)) hb); have n6_ := Aside0.mk (hbox); have n7_ := Aside0.mk ((by rw [hg]; exact (below_size (by repeat (first | (with_reducible first | exact HB.out | apply below_alloc | apply pw_below_drewN | apply below_drew1 | refine below_set ?_ GE621.out) | exact HB.out))) : w.heap.size ≤ gb626)); have n8_ := Aside0.mk ((by rw [hg]; exact (below_size (by repeat (first | (with_reducible first | exact HB.out | apply below_alloc | apply pw_below_drewN | apply below_drew1 | refine below_set ?_ GE621.out) | exact HB.out))) : w.heap.size ≤ gb626)); have n9_ := Aside0.mk ((by rw [hg]; exact Nat.ne_of_lt (blk_lt (g := gb621) (o := .cells #[.slice Ao32 t617.length co32, .int .i64 t620] 68 (0, 0)) (by (with_reducible repeat (first | refine blk_drewN ?_ _ | refine blk_drew ?_ | refine blk_alloc ?_ _)); exact BK621.out)) : gb621 ≠ gb626)); have n10_ := Aside0.mk ((by rw [hg]; exact Nat.ne_of_gt (blk_lt (g := gb621) (o := .cells #[.slice Ao32 t617.length co32, .int .i64 t620] 68 (0, 0)) (by (with_reducible repeat (first | refine blk_drewN ?_ _ | refine blk_drew ?_ | refine blk_alloc ?_ _)); exact BK621.out)) : gb626 ≠ gb621)); clear HO608; clear HO612; clear HO619; clear HO624; clear BK621; clear HB; have HO608 := n0_; have HO612 := n1_; have HO619 := n2_; have HO624 := n3_; have BK621 := n4_; have HB := n5_; have BK626 := n6_; have GW626 := n7_; have GE626 := n8_; have NB621_626 := n9_; have NB626_621 := n10_; clear n0_ n1_ n2_ n3_ n4_ n5_ n6_ n7_ n8_ n9_ n10_; clear hb hbox hg; obtain ⟨Ao36, co36, eo36⟩ := Kd.R_slice HO624.out; subst eo36; have hnb37 := NB626_621.out; have hnc37 := NB621_626.out; have hcz38_0 : w35.cell? ⟨gb626, 0, none⟩ = some (.slice none 0 0) := (blk_cell BK626.out 0).trans rfl; have hcz38_1 : w35.cell? ⟨gb626, 1, none⟩ = some (.int .i64 0) := (blk_cell BK626.out 1).trans rfl; have hfz38_0 := blk_frozen BK626.out 0; have hfz38_1 := blk_frozen BK626.out 1) | ((with_reducible refine gate_callee (f := 36) rfl ?_); refine goesL_ (some 87) rfl rfl Try.func36 (by kernel_rfl) rfl #[.int .i64 a0, .slice A3 l3.length c3, .slice A5 l5.length c5] rfl (by (try simp only [List.map_toArray, List.map_cons, List.map_nil]); first | done | rfl | (simp only [List.length_drop, List.length_take]; rfl)) ?_; (with_reducible refine (r9_Low.calls kj6 a0 _ _ l3 _ _ l5 t627 t628 t629 _ ?side1 ?side2 ?side3 ?side4 A23.out).mono ?_); (case side1 => exact Kd.C_below HR3.out (by repeat (first | (with_reducible first | exact HB.out | apply below_alloc | apply pw_below_drewN | apply below_drew1 | refine below_set ?_ GE621.out | refine below_set ?_ GE626.out) | exact HB.out))); (case side2 => exact HC3.out); (case side3 => exact Kd.C_below HR5.out (by repeat (first | (with_reducible first | exact HB.out | apply below_alloc | apply pw_below_drewN | apply below_drew1 | refine below_set ?_ GE621.out | refine below_set ?_ GE626.out) | exact HB.out))); (case side4 => exact HC5.out); rintro e w39 ⟨rfl, hb⟩; refine ⟨_, rfl, ?_⟩; have n0_ := Aside0.mk (Kd.R_below (by (with_reducible repeat (first | apply Kd.R_alloc | apply Kd.R_drewN | apply Kd.R_drew)); exact (Kd.R_mono (Kd.R_far (p := ⟨gb626, 1, none⟩) (Kd.R_far (p := ⟨gb626, 0, none⟩) (Kd.R_types HO608.out BK626.out (by decide)) (fun _ hk => hk.2) (.slice Ao36 t622.length co36)) (fun _ hk => hk.2) (.int .i64 t625)) (fun _ h_ => h_.1))) hb); have n1_ := Aside0.mk (Kd.R_below (by (with_reducible repeat (first | apply Kd.R_alloc | apply Kd.R_drewN | apply Kd.R_drew)); exact (Kd.R_mono (Kd.R_far (p := ⟨gb626, 1, none⟩) (Kd.R_far (p := ⟨gb626, 0, none⟩) (Kd.R_types HO612.out BK626.out (by decide)) (fun _ hk => hk.2) (.slice Ao36 t622.length co36)) (fun _ hk => hk.2) (.int .i64 t625)) (fun _ h_ => h_.1))) hb); have n2_ := Aside0.mk (Kd.R_below (by (with_reducible repeat (first | apply Kd.R_alloc | apply Kd.R_drewN | apply Kd.R_drew)); exact (Kd.R_mono (Kd.R_far (p := ⟨gb626, 1, none⟩) (Kd.R_far (p := ⟨gb626, 0, none⟩) (Kd.R_types HO619.out BK626.out (by decide)) (fun _ hk => hk.2) (.slice Ao36 t622.length co36)) (fun _ hk => hk.2) (.int .i64 t625)) (fun _ h_ => h_.1))) hb); have n3_ := Aside0.mk (Kd.R_below (by (with_reducible repeat (first | apply Kd.R_alloc | apply Kd.R_drewN | apply Kd.R_drew)); exact (Kd.R_mono (Kd.R_far (p := ⟨gb626, 1, none⟩) (Kd.R_far (p := ⟨gb626, 0, none⟩) (Kd.R_types HO624.out BK626.out (by decide)) (fun _ hk => hk.2) (.slice Ao36 t622.length co36)) (fun _ hk => hk.2) (.int .i64 t625)) (fun _ h_ => h_.1))) hb); have n4_ := Aside0.mk (blk_below (g := gb621) (o := .cells #[.slice Ao32 t617.length co32, .int .i64 t620] 68 (0, 0)) (by (with_reducible repeat (first | refine blk_drewN ?_ _ | refine blk_drew ?_ | refine blk_alloc ?_ _)); refine blk_far ?_ NB621_626.out _; (with_reducible repeat (first | refine blk_drewN ?_ _ | refine blk_drew ?_ | refine blk_alloc ?_ _)); refine blk_far ?_ NB621_626.out _; (with_reducible repeat (first | refine blk_drewN ?_ _ | refine blk_drew ?_ | refine blk_alloc ?_ _)); exact BK621.out) hb); have n5_ := Aside0.mk (blk_below (g := gb626) (o := .cells #[.slice Ao36 t622.length co36, .int .i64 t625] 68 (0, 0)) (by (with_reducible repeat (first | refine blk_drewN ?_ _ | refine blk_drew ?_ | refine blk_alloc ?_ _)); refine blk_put (cs := #[.slice Ao36 t622.length co36, .int .i64 0]) ?_ 1 _ rfl; (with_reducible repeat (first | refine blk_drewN ?_ _ | refine blk_drew ?_ | refine blk_alloc ?_ _)); refine blk_put (cs := #[.slice none 0 0, .int .i64 0]) ?_ 0 _ rfl; (with_reducible repeat (first | refine blk_drewN ?_ _ | refine blk_drew ?_ | refine blk_alloc ?_ _)); exact BK626.out) hb); have n6_ := Aside0.mk (below_step (by repeat (first | (with_reducible first | exact HB.out | apply below_alloc | apply pw_below_drewN | apply below_drew1 | refine below_set ?_ GE621.out | refine below_set ?_ GE626.out) | exact HB.out)) hb); clear HO608; clear HO612; clear HO619; clear HO624; clear BK621; clear BK626; clear HB; have HO608 := n0_; have HO612 := n1_; have HO619 := n2_; have HO624 := n3_; have BK621 := n4_; have BK626 := n5_; have HB := n6_; clear n0_ n1_ n2_ n3_ n4_ n5_ n6_; (try clear hb); (try clear hb2); (try clear hk); (try clear hi)) | ((with_reducible refine gate_dst (N := 23) rfl ?_); (try (refine gate_guard (by rfl) ?_; dsimp only)); refine box_event ?hg (N := 23) ?hd (cs := #[.int .i64 0, .int .i64 0, .int .i64 0]) (t := 39) ?hr ?_; (case hd => rfl); (case hg => rfl); (case hr => first | (go_simp; done) | (go_simp; rfl)); intro gb630 hg w40 hbox hb; have n0_ := Aside0.mk (Kd.R_below (by (with_reducible repeat (first | apply Kd.R_alloc | apply Kd.R_drewN | apply Kd.R_drew)); exact HO608.out) hb); have n1_ := Aside0.mk (Kd.R_below (by (with_reducible repeat (first | apply Kd.R_alloc | apply Kd.R_drewN | apply Kd.R_drew)); exact HO612.out) hb); have n2_ := Aside0.mk (Kd.R_below (by (with_reducible repeat (first | apply Kd.R_alloc | apply Kd.R_drewN | apply Kd.R_drew)); exact HO619.out) hb); have n3_ := Aside0.mk (Kd.R_below (by (with_reducible repeat (first | apply Kd.R_alloc | apply Kd.R_drewN | apply Kd.R_drew)); exact HO624.out) hb); have n4_ := Aside0.mk (blk_below (g := gb621) (o := .cells #[.slice Ao32 t617.length co32, .int .i64 t620] 68 (0, 0)) (by (with_reducible repeat (first | refine blk_drewN ?_ _ | refine blk_drew ?_ | refine blk_alloc ?_ _)); exact BK621.out) hb); have n5_ := Aside0.mk (blk_below (g := gb626) (o := .cells #[.slice Ao36 t622.length co36, .int .i64 t625] 68 (0, 0)) (by (with_reducible repeat (first | refine blk_drewN ?_ _ | refine blk_drew ?_ | refine blk_alloc ?_ _)); exact BK626.out) hb); have n6_ := Aside0.mk (below_step (by repeat (first | (with_reducible first | exact HB.out | apply below_alloc | apply pw_below_drewN | apply below_drew1 | refine below_set ?_ GE621.out | refine below_set ?_ GE626.out) | exact HB.out)) hb); have n7_ := Aside0.mk (hbox); have n8_ := Aside0.mk ((by rw [hg]; exact (below_size (by repeat (first | (with_reducible first | exact HB.out | apply below_alloc | apply pw_below_drewN | apply below_drew1 | refine below_set ?_ GE621.out | refine below_set ?_ GE626.out) | exact HB.out))) : w.heap.size ≤ gb630)); have n9_ := Aside0.mk ((by rw [hg]; exact (below_size (by repeat (first | (with_reducible first | exact HB.out | apply below_alloc | apply pw_below_drewN | apply below_drew1 | refine below_set ?_ GE621.out | refine below_set ?_ GE626.out) | exact HB.out))) : w.heap.size ≤ gb630)); have n10_ := Aside0.mk ((by rw [hg]; exact Nat.ne_of_lt (blk_lt (g := gb621) (o := .cells #[.slice Ao32 t617.length co32, .int .i64 t620] 68 (0, 0)) (by (with_reducible repeat (first | refine blk_drewN ?_ _ | refine blk_drew ?_ | refine blk_alloc ?_ _)); exact BK621.out)) : gb621 ≠ gb630)); have n11_ := Aside0.mk ((by rw [hg]; exact Nat.ne_of_gt (blk_lt (g := gb621) (o := .cells #[.slice Ao32 t617.length co32, .int .i64 t620] 68 (0, 0)) (by (with_reducible repeat (first | refine blk_drewN ?_ _ | refine blk_drew ?_ | refine blk_alloc ?_ _)); exact BK621.out)) : gb630 ≠ gb621)); have n12_ := Aside0.mk ((by rw [hg]; exact Nat.ne_of_lt (blk_lt (g := gb626) (o := .cells #[.slice Ao36 t622.length co36, .int .i64 t625] 68 (0, 0)) (by (with_reducible repeat (first | refine blk_drewN ?_ _ | refine blk_drew ?_ | refine blk_alloc ?_ _)); exact BK626.out)) : gb626 ≠ gb630)); have n13_ := Aside0.mk ((by rw [hg]; exact Nat.ne_of_gt (blk_lt (g := gb626) (o := .cells #[.slice Ao36 t622.length co36, .int .i64 t625] 68 (0, 0)) (by (with_reducible repeat (first | refine blk_drewN ?_ _ | refine blk_drew ?_ | refine blk_alloc ?_ _)); exact BK626.out)) : gb630 ≠ gb626)); clear HO608; clear HO612; clear HO619; clear HO624; clear BK621; clear BK626; clear HB; have HO608 := n0_; have HO612 := n1_; have HO619 := n2_; have HO624 := n3_; have BK621 := n4_; have BK626 := n5_; have HB := n6_; have BK630 := n7_; have GW630 := n8_; have GE630 := n9_; have NB621_630 := n10_; have NB630_621 := n11_; have NB626_630 := n12_; have NB630_626 := n13_; clear n0_ n1_ n2_ n3_ n4_ n5_ n6_ n7_ n8_ n9_ n10_ n11_ n12_ n13_; clear hb hbox hg; have hnb41 := NB630_621.out; have hnc41 := NB621_630.out; have hnb42 := NB630_626.out; have hnc42 := NB626_630.out; have hcz43_0 : w40.cell? ⟨gb630, 0, none⟩ = some (.int .i64 0) := (blk_cell BK630.out 0).trans rfl; have hcz43_1 : w40.cell? ⟨gb630, 1, none⟩ = some (.int .i64 0) := (blk_cell BK630.out 1).trans rfl; have hcz43_2 : w40.cell? ⟨gb630, 2, none⟩ = some (.int .i64 0) := (blk_cell BK630.out 2).trans rfl; have hfz43_0 := blk_frozen BK630.out 0; have hfz43_1 := blk_frozen BK630.out 1; have hfz43_2 := blk_frozen BK630.out 2) | ((with_reducible refine gate_callee (f := 37) rfl ?_); refine goesL_ (some 91) rfl rfl Try.func37 (by kernel_rfl) rfl #[.int .i64 a0, .slice A3 l3.length c3, .slice A5 l5.length c5] rfl (by (try simp only [List.map_toArray, List.map_cons, List.map_nil]); first | done | rfl | (simp only [List.length_drop, List.length_take]; rfl)) ?_; (with_reducible refine (r9_High.calls kj6 a0 _ _ l3 _ _ l5 t631 t632 t633 _ ?side1 ?side2 ?side3 ?side4 A24.out).mono ?_); (case side1 => exact Kd.C_below HR3.out (by repeat (first | (with_reducible first | exact HB.out | apply below_alloc | apply pw_below_drewN | apply below_drew1 | refine below_set ?_ GE621.out | refine below_set ?_ GE626.out | refine below_set ?_ GE630.out) | exact HB.out))); (case side2 => exact HC3.out); (case side3 => exact Kd.C_below HR5.out (by repeat (first | (with_reducible first | exact HB.out | apply below_alloc | apply pw_below_drewN | apply below_drew1 | refine below_set ?_ GE621.out | refine below_set ?_ GE626.out | refine below_set ?_ GE630.out) | exact HB.out))); (case side4 => exact HC5.out); rintro e w44 ⟨rfl, hb⟩; refine ⟨_, rfl, ?_⟩; have n0_ := Aside0.mk (Kd.R_below (by (with_reducible repeat (first | apply Kd.R_alloc | apply Kd.R_drewN | apply Kd.R_drew)); exact (Kd.R_mono (Kd.R_far (p := ⟨gb630, 2, none⟩) (Kd.R_far (p := ⟨gb630, 1, none⟩) (Kd.R_far (p := ⟨gb630, 0, none⟩) (Kd.R_types HO608.out BK630.out (by decide)) (fun _ hk => hk.2) (.int .i64 t627)) (fun _ hk => hk.2) (.int .i64 t628)) (fun _ hk => hk.2) (.int .i64 t629)) (fun _ h_ => h_.1))) hb); have n1_ := Aside0.mk (Kd.R_below (by (with_reducible repeat (first | apply Kd.R_alloc | apply Kd.R_drewN | apply Kd.R_drew)); exact (Kd.R_mono (Kd.R_far (p := ⟨gb630, 2, none⟩) (Kd.R_far (p := ⟨gb630, 1, none⟩) (Kd.R_far (p := ⟨gb630, 0, none⟩) (Kd.R_types HO612.out BK630.out (by decide)) (fun _ hk => hk.2) (.int .i64 t627)) (fun _ hk => hk.2) (.int .i64 t628)) (fun _ hk => hk.2) (.int .i64 t629)) (fun _ h_ => h_.1))) hb); have n2_ := Aside0.mk (Kd.R_below (by (with_reducible repeat (first | apply Kd.R_alloc | apply Kd.R_drewN | apply Kd.R_drew)); exact (Kd.R_mono (Kd.R_far (p := ⟨gb630, 2, none⟩) (Kd.R_far (p := ⟨gb630, 1, none⟩) (Kd.R_far (p := ⟨gb630, 0, none⟩) (Kd.R_types HO619.out BK630.out (by decide)) (fun _ hk => hk.2) (.int .i64 t627)) (fun _ hk => hk.2) (.int .i64 t628)) (fun _ hk => hk.2) (.int .i64 t629)) (fun _ h_ => h_.1))) hb); have n3_ := Aside0.mk (Kd.R_below (by (with_reducible repeat (first | apply Kd.R_alloc | apply Kd.R_drewN | apply Kd.R_drew)); exact (Kd.R_mono (Kd.R_far (p := ⟨gb630, 2, none⟩) (Kd.R_far (p := ⟨gb630, 1, none⟩) (Kd.R_far (p := ⟨gb630, 0, none⟩) (Kd.R_types HO624.out BK630.out (by decide)) (fun _ hk => hk.2) (.int .i64 t627)) (fun _ hk => hk.2) (.int .i64 t628)) (fun _ hk => hk.2) (.int .i64 t629)) (fun _ h_ => h_.1))) hb); have n4_ := Aside0.mk (blk_below (g := gb621) (o := .cells #[.slice Ao32 t617.length co32, .int .i64 t620] 68 (0, 0)) (by (with_reducible repeat (first | refine blk_drewN ?_ _ | refine blk_drew ?_ | refine blk_alloc ?_ _)); refine blk_far ?_ NB621_630.out _; (with_reducible repeat (first | refine blk_drewN ?_ _ | refine blk_drew ?_ | refine blk_alloc ?_ _)); refine blk_far ?_ NB621_630.out _; (with_reducible repeat (first | refine blk_drewN ?_ _ | refine blk_drew ?_ | refine blk_alloc ?_ _)); refine blk_far ?_ NB621_630.out _; (with_reducible repeat (first | refine blk_drewN ?_ _ | refine blk_drew ?_ | refine blk_alloc ?_ _)); exact BK621.out) hb); have n5_ := Aside0.mk (blk_below (g := gb626) (o := .cells #[.slice Ao36 t622.length co36, .int .i64 t625] 68 (0, 0)) (by (with_reducible repeat (first | refine blk_drewN ?_ _ | refine blk_drew ?_ | refine blk_alloc ?_ _)); refine blk_far ?_ NB626_630.out _; (with_reducible repeat (first | refine blk_drewN ?_ _ | refine blk_drew ?_ | refine blk_alloc ?_ _)); refine blk_far ?_ NB626_630.out _; (with_reducible repeat (first | refine blk_drewN ?_ _ | refine blk_drew ?_ | refine blk_alloc ?_ _)); refine blk_far ?_ NB626_630.out _; (with_reducible repeat (first | refine blk_drewN ?_ _ | refine blk_drew ?_ | refine blk_alloc ?_ _)); exact BK626.out) hb); have n6_ := Aside0.mk (blk_below (g := gb630) (o := .cells #[.int .i64 t627, .int .i64 t628, .int .i64 t629] 39 (0, 0)) (by (with_reducible repeat (first | refine blk_drewN ?_ _ | refine blk_drew ?_ | refine blk_alloc ?_ _)); refine blk_put (cs := #[.int .i64 t627, .int .i64 t628, .int .i64 0]) ?_ 2 _ rfl; (with_reducible repeat (first | refine blk_drewN ?_ _ | refine blk_drew ?_ | refine blk_alloc ?_ _)); refine blk_put (cs := #[.int .i64 t627, .int .i64 0, .int .i64 0]) ?_ 1 _ rfl; (with_reducible repeat (first | refine blk_drewN ?_ _ | refine blk_drew ?_ | refine blk_alloc ?_ _)); refine blk_put (cs := #[.int .i64 0, .int .i64 0, .int .i64 0]) ?_ 0 _ rfl; (with_reducible repeat (first | refine blk_drewN ?_ _ | refine blk_drew ?_ | refine blk_alloc ?_ _)); exact BK630.out) hb); have n7_ := Aside0.mk (below_step (by repeat (first | (with_reducible first | exact HB.out | apply below_alloc | apply pw_below_drewN | apply below_drew1 | refine below_set ?_ GE621.out | refine below_set ?_ GE626.out | refine below_set ?_ GE630.out) | exact HB.out)) hb); clear HO608; clear HO612; clear HO619; clear HO624; clear BK621; clear BK626; clear BK630; clear HB; have HO608 := n0_; have HO612 := n1_; have HO619 := n2_; have HO624 := n3_; have BK621 := n4_; have BK626 := n5_; have BK630 := n6_; have HB := n7_; clear n0_ n1_ n2_ n3_ n4_ n5_ n6_ n7_; (try clear hb); (try clear hb2); (try clear hk); (try clear hi)) | ((with_reducible refine gate_dst (N := 24) rfl ?_); (try (refine gate_guard (by rfl) ?_; dsimp only)); refine box_event ?hg (N := 24) ?hd (cs := #[.int .i64 0, .int .i64 0, .int .i64 0]) (t := 39) ?hr ?_; (case hd => rfl); (case hg => rfl); (case hr => first | (go_simp; done) | (go_simp; rfl)); intro gb634 hg w45 hbox hb; have n0_ := Aside0.mk (Kd.R_below (by (with_reducible repeat (first | apply Kd.R_alloc | apply Kd.R_drewN | apply Kd.R_drew)); exact HO608.out) hb); have n1_ := Aside0.mk (Kd.R_below (by (with_reducible repeat (first | apply Kd.R_alloc | apply Kd.R_drewN | apply Kd.R_drew)); exact HO612.out) hb); have n2_ := Aside0.mk (Kd.R_below (by (with_reducible repeat (first | apply Kd.R_alloc | apply Kd.R_drewN | apply Kd.R_drew)); exact HO619.out) hb); have n3_ := Aside0.mk (Kd.R_below (by (with_reducible repeat (first | apply Kd.R_alloc | apply Kd.R_drewN | apply Kd.R_drew)); exact HO624.out) hb); have n4_ := Aside0.mk (blk_below (g := gb621) (o := .cells #[.slice Ao32 t617.length co32, .int .i64 t620] 68 (0, 0)) (by (with_reducible repeat (first | refine blk_drewN ?_ _ | refine blk_drew ?_ | refine blk_alloc ?_ _)); exact BK621.out) hb); have n5_ := Aside0.mk (blk_below (g := gb626) (o := .cells #[.slice Ao36 t622.length co36, .int .i64 t625] 68 (0, 0)) (by (with_reducible repeat (first | refine blk_drewN ?_ _ | refine blk_drew ?_ | refine blk_alloc ?_ _)); exact BK626.out) hb); have n6_ := Aside0.mk (blk_below (g := gb630) (o := .cells #[.int .i64 t627, .int .i64 t628, .int .i64 t629] 39 (0, 0)) (by (with_reducible repeat (first | refine blk_drewN ?_ _ | refine blk_drew ?_ | refine blk_alloc ?_ _)); exact BK630.out) hb); have n7_ := Aside0.mk (below_step (by repeat (first | (with_reducible first | exact HB.out | apply below_alloc | apply pw_below_drewN | apply below_drew1 | refine below_set ?_ GE621.out | refine below_set ?_ GE626.out | refine below_set ?_ GE630.out) | exact HB.out)) hb); have n8_ := Aside0.mk (hbox); have n9_ := Aside0.mk ((by rw [hg]; exact (below_size (by repeat (first | (with_reducible first | exact HB.out | apply below_alloc | apply pw_below_drewN | apply below_drew1 | refine below_set ?_ GE621.out | refine below_set ?_ GE626.out | refine below_set ?_ GE630.out) | exact HB.out))) : w.heap.size ≤ gb634)); have n10_ := Aside0.mk ((by rw [hg]; exact (below_size (by repeat (first | (with_reducible first | exact HB.out | apply below_alloc | apply pw_below_drewN | apply below_drew1 | refine below_set ?_ GE621.out | refine below_set ?_ GE626.out | refine below_set ?_ GE630.out) | exact HB.out))) : w.heap.size ≤ gb634)); have n11_ := Aside0.mk ((by rw [hg]; exact Nat.ne_of_lt (blk_lt (g := gb621) (o := .cells #[.slice Ao32 t617.length co32, .int .i64 t620] 68 (0, 0)) (by (with_reducible repeat (first | refine blk_drewN ?_ _ | refine blk_drew ?_ | refine blk_alloc ?_ _)); exact BK621.out)) : gb621 ≠ gb634)); have n12_ := Aside0.mk ((by rw [hg]; exact Nat.ne_of_gt (blk_lt (g := gb621) (o := .cells #[.slice Ao32 t617.length co32, .int .i64 t620] 68 (0, 0)) (by (with_reducible repeat (first | refine blk_drewN ?_ _ | refine blk_drew ?_ | refine blk_alloc ?_ _)); exact BK621.out)) : gb634 ≠ gb621)); have n13_ := Aside0.mk ((by rw [hg]; exact Nat.ne_of_lt (blk_lt (g := gb626) (o := .cells #[.slice Ao36 t622.length co36, .int .i64 t625] 68 (0, 0)) (by (with_reducible repeat (first | refine blk_drewN ?_ _ | refine blk_drew ?_ | refine blk_alloc ?_ _)); exact BK626.out)) : gb626 ≠ gb634)); have n14_ := Aside0.mk ((by rw [hg]; exact Nat.ne_of_gt (blk_lt (g := gb626) (o := .cells #[.slice Ao36 t622.length co36, .int .i64 t625] 68 (0, 0)) (by (with_reducible repeat (first | refine blk_drewN ?_ _ | refine blk_drew ?_ | refine blk_alloc ?_ _)); exact BK626.out)) : gb634 ≠ gb626)); have n15_ := Aside0.mk ((by rw [hg]; exact Nat.ne_of_lt (blk_lt (g := gb630) (o := .cells #[.int .i64 t627, .int .i64 t628, .int .i64 t629] 39 (0, 0)) (by (with_reducible repeat (first | refine blk_drewN ?_ _ | refine blk_drew ?_ | refine blk_alloc ?_ _)); exact BK630.out)) : gb630 ≠ gb634)); have n16_ := Aside0.mk ((by rw [hg]; exact Nat.ne_of_gt (blk_lt (g := gb630) (o := .cells #[.int .i64 t627, .int .i64 t628, .int .i64 t629] 39 (0, 0)) (by (with_reducible repeat (first | refine blk_drewN ?_ _ | refine blk_drew ?_ | refine blk_alloc ?_ _)); exact BK630.out)) : gb634 ≠ gb630)); clear HO608; clear HO612; clear HO619; clear HO624; clear BK621; clear BK626; clear BK630; clear HB; have HO608 := n0_; have HO612 := n1_; have HO619 := n2_; have HO624 := n3_; have BK621 := n4_; have BK626 := n5_; have BK630 := n6_; have HB := n7_; have BK634 := n8_; have GW634 := n9_; have GE634 := n10_; have NB621_634 := n11_; have NB634_621 := n12_; have NB626_634 := n13_; have NB634_626 := n14_; have NB630_634 := n15_; have NB634_630 := n16_; clear n0_ n1_ n2_ n3_ n4_ n5_ n6_ n7_ n8_ n9_ n10_ n11_ n12_ n13_ n14_ n15_ n16_; clear hb hbox hg; have hnb46 := NB634_621.out; have hnc46 := NB621_634.out; have hnb47 := NB634_626.out; have hnc47 := NB626_634.out; have hnb48 := NB634_630.out; have hnc48 := NB630_634.out; have hcz49_0 : w45.cell? ⟨gb634, 0, none⟩ = some (.int .i64 0) := (blk_cell BK634.out 0).trans rfl; have hcz49_1 : w45.cell? ⟨gb634, 1, none⟩ = some (.int .i64 0) := (blk_cell BK634.out 1).trans rfl; have hcz49_2 : w45.cell? ⟨gb634, 2, none⟩ = some (.int .i64 0) := (blk_cell BK634.out 2).trans rfl; have hfz49_0 := blk_frozen BK634.out 0; have hfz49_1 := blk_frozen BK634.out 1; have hfz49_2 := blk_frozen BK634.out 2))
    (try simp only [Act.put, List.setIfInBounds_toArray, List.set_cons_zero, List.set_cons_succ])
    go_cut [25] (fun v25 wc => ∃ (kq : Nat) (x25_24 : Bool), v25 = .bool x25_24 ∧ Aside0 (l9_PivotBoundsAsSpecified.j1 kq l3 l5 x25_24 = some r) ∧ Aside0 (kq ≤ kj6) ∧ Aside0 (Kd.R k57 57 wc w.heap.size (fun k_ => some k_ ≠ ((.slice Ao36 t622.length co36) : Value).ownBlock) (.slice Ao32 t617.length co32) t617) ∧ Aside0 (Kd.R k57 57 wc w.heap.size (fun k_ => some k_ ≠ ((.slice Ao32 t617.length co32) : Value).ownBlock) (.slice Ao36 t622.length co36) t622) ∧ Aside0 (wc.heap[gb621]? = some (.cells #[(.slice Ao32 t617.length co32), .int .i64 t620] 68 (0, 0))) ∧ Aside0 (wc.heap[gb626]? = some (.cells #[(.slice Ao36 t622.length co36), .int .i64 t625] 68 (0, 0))) ∧ Aside0 (wc.heap[gb630]? = some (.cells #[.int .i64 t627, .int .i64 t628, .int .i64 t629] 39 (0, 0))) ∧ Aside0 (wc.heap[gb634]? = some (.cells #[.int .i64 t631, .int .i64 t632, .int .i64 t633] 39 (0, 0))) ∧ Aside0 (Below w.heap.size w wc))
    case first =>
     have H := HC25.out
     clear HC25
     replace H := Option.bind_eq_some_iff.mp H
     obtain ⟨t635, A500, H⟩ := H
     replace H : (if t635 = true then (if t606 = t620 then ((r9_SameShells.f kj6 t609 t622).bind fun t636 => (if t636 = true then (if t610 = t625 then (if t613 = t628 then (if t614 = t629 then (if t615 = t632 then (l9_PivotBoundsAsSpecified.j1 kj6 l3 l5 (t616 == t633)) else (l9_PivotBoundsAsSpecified.j1 kj6 l3 l5 false)) else (l9_PivotBoundsAsSpecified.j1 kj6 l3 l5 false)) else (l9_PivotBoundsAsSpecified.j1 kj6 l3 l5 false)) else (l9_PivotBoundsAsSpecified.j1 kj6 l3 l5 false)) else (l9_PivotBoundsAsSpecified.j1 kj6 l3 l5 false))) else (l9_PivotBoundsAsSpecified.j1 kj6 l3 l5 false)) else (l9_PivotBoundsAsSpecified.j1 kj6 l3 l5 false)) = some r := H
     have A50 := Aside0.mk A500
     clear A500
     by_cases c51 : t635 = true
     ·subst c51
      have H1 : (if t606 = t620 then ((r9_SameShells.f kj6 t609 t622).bind fun t636 => (if t636 = true then (if t610 = t625 then (if t613 = t628 then (if t614 = t629 then (if t615 = t632 then (l9_PivotBoundsAsSpecified.j1 kj6 l3 l5 (t616 == t633)) else (l9_PivotBoundsAsSpecified.j1 kj6 l3 l5 false)) else (l9_PivotBoundsAsSpecified.j1 kj6 l3 l5 false)) else (l9_PivotBoundsAsSpecified.j1 kj6 l3 l5 false)) else (l9_PivotBoundsAsSpecified.j1 kj6 l3 l5 false)) else (l9_PivotBoundsAsSpecified.j1 kj6 l3 l5 false))) else (l9_PivotBoundsAsSpecified.j1 kj6 l3 l5 false)) = some r := by rw [if_pos rfl] at H; exact H
      clear H
      have H := H1
      clear H1
      by_cases c52 : t606 = t620
      ·rw [if_pos c52] at H
       have c52b0 : (t606 == t620) = true := beq_iff_eq.mpr c52
       have c52b1 : (t606 != t620) = false := bne_eq_false_iff_eq.mpr c52
       clear c52
       (first | rw [c52b0] | (simp only [i64_w, i32_w]; rw [c52b0]) | skip)
       replace H := Option.bind_eq_some_iff.mp H
       obtain ⟨t636, A530, H⟩ := H
       replace H : (if t636 = true then (if t610 = t625 then (if t613 = t628 then (if t614 = t629 then (if t615 = t632 then (l9_PivotBoundsAsSpecified.j1 kj6 l3 l5 (t616 == t633)) else (l9_PivotBoundsAsSpecified.j1 kj6 l3 l5 false)) else (l9_PivotBoundsAsSpecified.j1 kj6 l3 l5 false)) else (l9_PivotBoundsAsSpecified.j1 kj6 l3 l5 false)) else (l9_PivotBoundsAsSpecified.j1 kj6 l3 l5 false)) else (l9_PivotBoundsAsSpecified.j1 kj6 l3 l5 false)) = some r := H
       have A53 := Aside0.mk A530
       clear A530
       by_cases c54 : t636 = true
       ·subst c54
        have H1 : (if t610 = t625 then (if t613 = t628 then (if t614 = t629 then (if t615 = t632 then (l9_PivotBoundsAsSpecified.j1 kj6 l3 l5 (t616 == t633)) else (l9_PivotBoundsAsSpecified.j1 kj6 l3 l5 false)) else (l9_PivotBoundsAsSpecified.j1 kj6 l3 l5 false)) else (l9_PivotBoundsAsSpecified.j1 kj6 l3 l5 false)) else (l9_PivotBoundsAsSpecified.j1 kj6 l3 l5 false)) = some r := by rw [if_pos rfl] at H; exact H
        clear H
        have H := H1
        clear H1
        by_cases c55 : t610 = t625
        ·rw [if_pos c55] at H
         have c55b0 : (t610 == t625) = true := beq_iff_eq.mpr c55
         have c55b1 : (t610 != t625) = false := bne_eq_false_iff_eq.mpr c55
         clear c55
         by_cases c56 : t613 = t628
         ·rw [if_pos c56] at H
          have c56b0 : (t613 == t628) = true := beq_iff_eq.mpr c56
          have c56b1 : (t613 != t628) = false := bne_eq_false_iff_eq.mpr c56
          clear c56
          by_cases c57 : t614 = t629
          ·rw [if_pos c57] at H
           have c57b0 : (t614 == t629) = true := beq_iff_eq.mpr c57
           have c57b1 : (t614 != t629) = false := bne_eq_false_iff_eq.mpr c57
           clear c57
           by_cases c58 : t615 = t632
           ·rw [if_pos c58] at H
            have c58b0 : (t615 == t632) = true := beq_iff_eq.mpr c58
            have c58b1 : (t615 != t632) = false := bne_eq_false_iff_eq.mpr c58
            clear c58
            have H' := Aside0.mk H
            clear H
            have hnb59 := NB621_626.out
            have hnc59 := NB626_621.out
            have hnb60 := NB621_630.out
            have hnc60 := NB630_621.out
            have hnb61 := NB621_634.out
            have hnc61 := NB634_621.out
            have hcz62_0 : w45.cell? ⟨gb621, 0, none⟩ = some (.slice Ao32 t617.length co32) := (blk_cell BK621.out 0).trans rfl
            have hcz62_1 : w45.cell? ⟨gb621, 1, none⟩ = some (.int .i64 t620) := (blk_cell BK621.out 1).trans rfl
            have hfz62_0 := blk_frozen BK621.out 0
            have hfz62_1 := blk_frozen BK621.out 1
            obtain ⟨Ao63, co63, eo63⟩ := Kd.R_slice HO608.out
            subst eo63
            go_wp2_with (first | ((with_reducible refine gate_callee (f := 38) rfl ?_); refine goesL_ (some 95) rfl rfl Try.func38 (by kernel_rfl) rfl #[.slice Ao63 t605.length co63, .slice Ao32 t617.length co32] rfl (by (try simp only [List.map_toArray, List.map_cons, List.map_nil]); first | done | rfl | (simp only [List.length_drop, List.length_take]; rfl)) ?_; (with_reducible refine (r9_SameShells.calls kj6 _ _ t605 _ _ t617 true _ ?side1 ?side2 ?side3 ?side4 A50.out).mono ?_); (case side1 => refine (Kd.R_reads' (e := 57) (base := w.heap.size) (ok := fun k_ => (((True ∧ some k_ ≠ (v611 : Value).ownBlock) ∧ some k_ ≠ (.slice Ao32 t617.length co32 : Value).ownBlock) ∧ some k_ ≠ (.slice Ao36 t622.length co36 : Value).ownBlock)) (n := t605.length) (c := co63) ?_).2.2; exact (by (with_reducible repeat (first | apply Kd.R_alloc | apply Kd.R_drewN | apply Kd.R_drew)); exact (Kd.R_mono (Kd.R_far (p := ⟨gb634, 2, none⟩) (Kd.R_far (p := ⟨gb634, 1, none⟩) (Kd.R_far (p := ⟨gb634, 0, none⟩) (Kd.R_types HO608.out BK634.out (by decide)) (fun _ hk => hk.2) (.int .i64 t631)) (fun _ hk => hk.2) (.int .i64 t632)) (fun _ hk => hk.2) (.int .i64 t633)) (fun _ h_ => h_.1)))); (case side2 => exact (Kd.R_reads' HO608.out).2.1); (case side3 => refine (Kd.R_reads' (e := 57) (base := w.heap.size) (ok := fun k_ => (((True ∧ some k_ ≠ (.slice Ao63 t605.length co63 : Value).ownBlock) ∧ some k_ ≠ (v611 : Value).ownBlock) ∧ some k_ ≠ (.slice Ao36 t622.length co36 : Value).ownBlock)) (n := t617.length) (c := co32) ?_).2.2; exact (by (with_reducible repeat (first | apply Kd.R_alloc | apply Kd.R_drewN | apply Kd.R_drew)); exact (Kd.R_mono (Kd.R_far (p := ⟨gb634, 2, none⟩) (Kd.R_far (p := ⟨gb634, 1, none⟩) (Kd.R_far (p := ⟨gb634, 0, none⟩) (Kd.R_types HO619.out BK634.out (by decide)) (fun _ hk => hk.2) (.int .i64 t631)) (fun _ hk => hk.2) (.int .i64 t632)) (fun _ hk => hk.2) (.int .i64 t633)) (fun _ h_ => h_.1)))); (case side4 => exact (Kd.R_reads' HO619.out).2.1); rintro e w' ⟨rfl, ⟨nd, rfl⟩⟩; refine ⟨_, rfl, ?_⟩; have hnb64 := NB626_630.out; have hnc64 := NB630_626.out; have hnb65 := NB626_634.out; have hnc65 := NB634_626.out; have hcz66_0 : w45.cell? ⟨gb626, 0, none⟩ = some (.slice Ao36 t622.length co36) := (blk_cell BK626.out 0).trans rfl; have hcz66_1 : w45.cell? ⟨gb626, 1, none⟩ = some (.int .i64 t625) := (blk_cell BK626.out 1).trans rfl; have hfz66_0 := blk_frozen BK626.out 0; have hfz66_1 := blk_frozen BK626.out 1; obtain ⟨Ao67, co67, eo67⟩ := Kd.R_slice HO612.out; subst eo67) | (go_at_call 38; (with_reducible refine (r9_SameShells.calls kj6 _ _ t609 _ _ t622 true _ ?side1 ?side2 ?side3 ?side4 A53.out).mono ?_); (case side1 => refine (Kd.R_reads' (e := 57) (base := w.heap.size) (ok := fun k_ => (((True ∧ some k_ ≠ (.slice Ao63 t605.length co63 : Value).ownBlock) ∧ some k_ ≠ (.slice Ao32 t617.length co32 : Value).ownBlock) ∧ some k_ ≠ (.slice Ao36 t622.length co36 : Value).ownBlock)) (n := t609.length) (c := co67) ?_).2.2; exact (by (with_reducible repeat (first | apply Kd.R_alloc | apply Kd.R_drewN | apply Kd.R_drew)); exact (Kd.R_mono (Kd.R_far (p := ⟨gb634, 2, none⟩) (Kd.R_far (p := ⟨gb634, 1, none⟩) (Kd.R_far (p := ⟨gb634, 0, none⟩) (Kd.R_types HO612.out BK634.out (by decide)) (fun _ hk => hk.2) (.int .i64 t631)) (fun _ hk => hk.2) (.int .i64 t632)) (fun _ hk => hk.2) (.int .i64 t633)) (fun _ h_ => h_.1)))); (case side2 => exact (Kd.R_reads' HO612.out).2.1); (case side3 => refine (Kd.R_reads' (e := 57) (base := w.heap.size) (ok := fun k_ => (((True ∧ some k_ ≠ (.slice Ao63 t605.length co63 : Value).ownBlock) ∧ some k_ ≠ (.slice Ao67 t609.length co67 : Value).ownBlock) ∧ some k_ ≠ (.slice Ao32 t617.length co32 : Value).ownBlock)) (n := t622.length) (c := co36) ?_).2.2; exact (by (with_reducible repeat (first | apply Kd.R_alloc | apply Kd.R_drewN | apply Kd.R_drew)); exact (Kd.R_mono (Kd.R_far (p := ⟨gb634, 2, none⟩) (Kd.R_far (p := ⟨gb634, 1, none⟩) (Kd.R_far (p := ⟨gb634, 0, none⟩) (Kd.R_types HO624.out BK634.out (by decide)) (fun _ hk => hk.2) (.int .i64 t631)) (fun _ hk => hk.2) (.int .i64 t632)) (fun _ hk => hk.2) (.int .i64 t633)) (fun _ h_ => h_.1)))); (case side4 => exact (Kd.R_reads' HO624.out).2.1); rintro e w' ⟨rfl, ⟨nd, rfl⟩⟩; have hnb68 := NB630_634.out; have hnc68 := NB634_630.out; have hcz69_0 : w45.cell? ⟨gb630, 0, none⟩ = some (.int .i64 t627) := (blk_cell BK630.out 0).trans rfl; have hcz69_1 : w45.cell? ⟨gb630, 1, none⟩ = some (.int .i64 t628) := (blk_cell BK630.out 1).trans rfl; have hcz69_2 : w45.cell? ⟨gb630, 2, none⟩ = some (.int .i64 t629) := (blk_cell BK630.out 2).trans rfl; have hfz69_0 := blk_frozen BK630.out 0; have hfz69_1 := blk_frozen BK630.out 1; have hfz69_2 := blk_frozen BK630.out 2; have hcz70_0 : w45.cell? ⟨gb634, 0, none⟩ = some (.int .i64 0) := (blk_cell BK634.out 0).trans rfl; have hcz70_1 : w45.cell? ⟨gb634, 1, none⟩ = some (.int .i64 0) := (blk_cell BK634.out 1).trans rfl; have hcz70_2 : w45.cell? ⟨gb634, 2, none⟩ = some (.int .i64 0) := (blk_cell BK634.out 2).trans rfl; have hfz70_0 := blk_frozen BK634.out 0; have hfz70_1 := blk_frozen BK634.out 1; have hfz70_2 := blk_frozen BK634.out 2))
            go_meet
            case rel => exact ⟨_, ((t616 == t633)), (by first | rfl | (simp; done) | (simp [*]; done)), H', ⟨by have := HJ6.out; first | omega | exact Nat.le_refl _⟩, ⟨by (with_reducible repeat (first | apply Kd.R_alloc | apply Kd.R_drewN | apply Kd.R_drew)); exact Kd.R_mono (Kd.R_far (p := ⟨gb634, 2, none⟩) (Kd.R_far (p := ⟨gb634, 1, none⟩) (Kd.R_far (p := ⟨gb634, 0, none⟩) (Kd.R_types HO619.out BK634.out (by decide)) (fun _ hk => hk.2) (.int .i64 t631)) (fun _ hk => hk.2) (.int .i64 t632)) (fun _ hk => hk.2) (.int .i64 t633)) (fun _ hk => hk.1.2)⟩, ⟨by (with_reducible repeat (first | apply Kd.R_alloc | apply Kd.R_drewN | apply Kd.R_drew)); exact Kd.R_mono (Kd.R_far (p := ⟨gb634, 2, none⟩) (Kd.R_far (p := ⟨gb634, 1, none⟩) (Kd.R_far (p := ⟨gb634, 0, none⟩) (Kd.R_types HO624.out BK634.out (by decide)) (fun _ hk => hk.2) (.int .i64 t631)) (fun _ hk => hk.2) (.int .i64 t632)) (fun _ hk => hk.2) (.int .i64 t633)) (fun _ hk => hk.1.2)⟩, ⟨by (with_reducible repeat (first | refine blk_drewN ?_ _ | refine blk_drew ?_ | refine blk_alloc ?_ _)); refine blk_far ?_ NB621_634.out _; (with_reducible repeat (first | refine blk_drewN ?_ _ | refine blk_drew ?_ | refine blk_alloc ?_ _)); refine blk_far ?_ NB621_634.out _; (with_reducible repeat (first | refine blk_drewN ?_ _ | refine blk_drew ?_ | refine blk_alloc ?_ _)); refine blk_far ?_ NB621_634.out _; (with_reducible repeat (first | refine blk_drewN ?_ _ | refine blk_drew ?_ | refine blk_alloc ?_ _)); exact BK621.out⟩, ⟨by (with_reducible repeat (first | refine blk_drewN ?_ _ | refine blk_drew ?_ | refine blk_alloc ?_ _)); refine blk_far ?_ NB626_634.out _; (with_reducible repeat (first | refine blk_drewN ?_ _ | refine blk_drew ?_ | refine blk_alloc ?_ _)); refine blk_far ?_ NB626_634.out _; (with_reducible repeat (first | refine blk_drewN ?_ _ | refine blk_drew ?_ | refine blk_alloc ?_ _)); refine blk_far ?_ NB626_634.out _; (with_reducible repeat (first | refine blk_drewN ?_ _ | refine blk_drew ?_ | refine blk_alloc ?_ _)); exact BK626.out⟩, ⟨by (with_reducible repeat (first | refine blk_drewN ?_ _ | refine blk_drew ?_ | refine blk_alloc ?_ _)); refine blk_far ?_ NB630_634.out _; (with_reducible repeat (first | refine blk_drewN ?_ _ | refine blk_drew ?_ | refine blk_alloc ?_ _)); refine blk_far ?_ NB630_634.out _; (with_reducible repeat (first | refine blk_drewN ?_ _ | refine blk_drew ?_ | refine blk_alloc ?_ _)); refine blk_far ?_ NB630_634.out _; (with_reducible repeat (first | refine blk_drewN ?_ _ | refine blk_drew ?_ | refine blk_alloc ?_ _)); exact BK630.out⟩, ⟨by (with_reducible repeat (first | refine blk_drewN ?_ _ | refine blk_drew ?_ | refine blk_alloc ?_ _)); refine blk_put (cs := #[.int .i64 t631, .int .i64 t632, .int .i64 0]) ?_ 2 _ rfl; (with_reducible repeat (first | refine blk_drewN ?_ _ | refine blk_drew ?_ | refine blk_alloc ?_ _)); refine blk_put (cs := #[.int .i64 t631, .int .i64 0, .int .i64 0]) ?_ 1 _ rfl; (with_reducible repeat (first | refine blk_drewN ?_ _ | refine blk_drew ?_ | refine blk_alloc ?_ _)); refine blk_put (cs := #[.int .i64 0, .int .i64 0, .int .i64 0]) ?_ 0 _ rfl; (with_reducible repeat (first | refine blk_drewN ?_ _ | refine blk_drew ?_ | refine blk_alloc ?_ _)); exact BK634.out⟩, ⟨by repeat (first | (with_reducible first | exact HB.out | apply below_alloc | apply pw_below_drewN | apply below_drew1 | refine below_set ?_ GE621.out | refine below_set ?_ GE626.out | refine below_set ?_ GE630.out | refine below_set ?_ GE634.out) | exact HB.out)⟩⟩
           ·rw [if_neg c58] at H
            have c58b0 : (t615 == t632) = false := beq_eq_false_iff_ne.mpr c58
            have c58b1 : (t615 != t632) = true := bne_iff_ne.mpr c58
            have H' := Aside0.mk H
            clear H
            have hnb71 := NB621_626.out
            have hnc71 := NB626_621.out
            have hnb72 := NB621_630.out
            have hnc72 := NB630_621.out
            have hnb73 := NB621_634.out
            have hnc73 := NB634_621.out
            have hcz74_0 : w45.cell? ⟨gb621, 0, none⟩ = some (.slice Ao32 t617.length co32) := (blk_cell BK621.out 0).trans rfl
            have hcz74_1 : w45.cell? ⟨gb621, 1, none⟩ = some (.int .i64 t620) := (blk_cell BK621.out 1).trans rfl
            have hfz74_0 := blk_frozen BK621.out 0
            have hfz74_1 := blk_frozen BK621.out 1
            obtain ⟨Ao75, co75, eo75⟩ := Kd.R_slice HO608.out
            subst eo75
            go_wp2_with (first | ((with_reducible refine gate_callee (f := 38) rfl ?_); refine goesL_ (some 95) rfl rfl Try.func38 (by kernel_rfl) rfl #[.slice Ao75 t605.length co75, .slice Ao32 t617.length co32] rfl (by (try simp only [List.map_toArray, List.map_cons, List.map_nil]); first | done | rfl | (simp only [List.length_drop, List.length_take]; rfl)) ?_; (with_reducible refine (r9_SameShells.calls kj6 _ _ t605 _ _ t617 true _ ?side1 ?side2 ?side3 ?side4 A50.out).mono ?_); (case side1 => refine (Kd.R_reads' (e := 57) (base := w.heap.size) (ok := fun k_ => (((True ∧ some k_ ≠ (v611 : Value).ownBlock) ∧ some k_ ≠ (.slice Ao32 t617.length co32 : Value).ownBlock) ∧ some k_ ≠ (.slice Ao36 t622.length co36 : Value).ownBlock)) (n := t605.length) (c := co75) ?_).2.2; exact (by (with_reducible repeat (first | apply Kd.R_alloc | apply Kd.R_drewN | apply Kd.R_drew)); exact (Kd.R_mono (Kd.R_far (p := ⟨gb634, 2, none⟩) (Kd.R_far (p := ⟨gb634, 1, none⟩) (Kd.R_far (p := ⟨gb634, 0, none⟩) (Kd.R_types HO608.out BK634.out (by decide)) (fun _ hk => hk.2) (.int .i64 t631)) (fun _ hk => hk.2) (.int .i64 t632)) (fun _ hk => hk.2) (.int .i64 t633)) (fun _ h_ => h_.1)))); (case side2 => exact (Kd.R_reads' HO608.out).2.1); (case side3 => refine (Kd.R_reads' (e := 57) (base := w.heap.size) (ok := fun k_ => (((True ∧ some k_ ≠ (.slice Ao75 t605.length co75 : Value).ownBlock) ∧ some k_ ≠ (v611 : Value).ownBlock) ∧ some k_ ≠ (.slice Ao36 t622.length co36 : Value).ownBlock)) (n := t617.length) (c := co32) ?_).2.2; exact (by (with_reducible repeat (first | apply Kd.R_alloc | apply Kd.R_drewN | apply Kd.R_drew)); exact (Kd.R_mono (Kd.R_far (p := ⟨gb634, 2, none⟩) (Kd.R_far (p := ⟨gb634, 1, none⟩) (Kd.R_far (p := ⟨gb634, 0, none⟩) (Kd.R_types HO619.out BK634.out (by decide)) (fun _ hk => hk.2) (.int .i64 t631)) (fun _ hk => hk.2) (.int .i64 t632)) (fun _ hk => hk.2) (.int .i64 t633)) (fun _ h_ => h_.1)))); (case side4 => exact (Kd.R_reads' HO619.out).2.1); rintro e w' ⟨rfl, ⟨nd, rfl⟩⟩; refine ⟨_, rfl, ?_⟩; have hnb76 := NB626_630.out; have hnc76 := NB630_626.out; have hnb77 := NB626_634.out; have hnc77 := NB634_626.out; have hcz78_0 : w45.cell? ⟨gb626, 0, none⟩ = some (.slice Ao36 t622.length co36) := (blk_cell BK626.out 0).trans rfl; have hcz78_1 : w45.cell? ⟨gb626, 1, none⟩ = some (.int .i64 t625) := (blk_cell BK626.out 1).trans rfl; have hfz78_0 := blk_frozen BK626.out 0; have hfz78_1 := blk_frozen BK626.out 1; obtain ⟨Ao79, co79, eo79⟩ := Kd.R_slice HO612.out; subst eo79) | (go_at_call 38; (with_reducible refine (r9_SameShells.calls kj6 _ _ t609 _ _ t622 true _ ?side1 ?side2 ?side3 ?side4 A53.out).mono ?_); (case side1 => refine (Kd.R_reads' (e := 57) (base := w.heap.size) (ok := fun k_ => (((True ∧ some k_ ≠ (.slice Ao75 t605.length co75 : Value).ownBlock) ∧ some k_ ≠ (.slice Ao32 t617.length co32 : Value).ownBlock) ∧ some k_ ≠ (.slice Ao36 t622.length co36 : Value).ownBlock)) (n := t609.length) (c := co79) ?_).2.2; exact (by (with_reducible repeat (first | apply Kd.R_alloc | apply Kd.R_drewN | apply Kd.R_drew)); exact (Kd.R_mono (Kd.R_far (p := ⟨gb634, 2, none⟩) (Kd.R_far (p := ⟨gb634, 1, none⟩) (Kd.R_far (p := ⟨gb634, 0, none⟩) (Kd.R_types HO612.out BK634.out (by decide)) (fun _ hk => hk.2) (.int .i64 t631)) (fun _ hk => hk.2) (.int .i64 t632)) (fun _ hk => hk.2) (.int .i64 t633)) (fun _ h_ => h_.1)))); (case side2 => exact (Kd.R_reads' HO612.out).2.1); (case side3 => refine (Kd.R_reads' (e := 57) (base := w.heap.size) (ok := fun k_ => (((True ∧ some k_ ≠ (.slice Ao75 t605.length co75 : Value).ownBlock) ∧ some k_ ≠ (.slice Ao79 t609.length co79 : Value).ownBlock) ∧ some k_ ≠ (.slice Ao32 t617.length co32 : Value).ownBlock)) (n := t622.length) (c := co36) ?_).2.2; exact (by (with_reducible repeat (first | apply Kd.R_alloc | apply Kd.R_drewN | apply Kd.R_drew)); exact (Kd.R_mono (Kd.R_far (p := ⟨gb634, 2, none⟩) (Kd.R_far (p := ⟨gb634, 1, none⟩) (Kd.R_far (p := ⟨gb634, 0, none⟩) (Kd.R_types HO624.out BK634.out (by decide)) (fun _ hk => hk.2) (.int .i64 t631)) (fun _ hk => hk.2) (.int .i64 t632)) (fun _ hk => hk.2) (.int .i64 t633)) (fun _ h_ => h_.1)))); (case side4 => exact (Kd.R_reads' HO624.out).2.1); rintro e w' ⟨rfl, ⟨nd, rfl⟩⟩; have hnb80 := NB630_634.out; have hnc80 := NB634_630.out; have hcz81_0 : w45.cell? ⟨gb630, 0, none⟩ = some (.int .i64 t627) := (blk_cell BK630.out 0).trans rfl; have hcz81_1 : w45.cell? ⟨gb630, 1, none⟩ = some (.int .i64 t628) := (blk_cell BK630.out 1).trans rfl; have hcz81_2 : w45.cell? ⟨gb630, 2, none⟩ = some (.int .i64 t629) := (blk_cell BK630.out 2).trans rfl; have hfz81_0 := blk_frozen BK630.out 0; have hfz81_1 := blk_frozen BK630.out 1; have hfz81_2 := blk_frozen BK630.out 2; have hcz82_0 : w45.cell? ⟨gb634, 0, none⟩ = some (.int .i64 0) := (blk_cell BK634.out 0).trans rfl; have hcz82_1 : w45.cell? ⟨gb634, 1, none⟩ = some (.int .i64 0) := (blk_cell BK634.out 1).trans rfl; have hcz82_2 : w45.cell? ⟨gb634, 2, none⟩ = some (.int .i64 0) := (blk_cell BK634.out 2).trans rfl; have hfz82_0 := blk_frozen BK634.out 0; have hfz82_1 := blk_frozen BK634.out 1; have hfz82_2 := blk_frozen BK634.out 2))
            go_meet
            case rel => exact ⟨_, (false), (by first | rfl | (simp; done) | (simp [*]; done)), H', ⟨by have := HJ6.out; first | omega | exact Nat.le_refl _⟩, ⟨by (with_reducible repeat (first | apply Kd.R_alloc | apply Kd.R_drewN | apply Kd.R_drew)); exact Kd.R_mono (Kd.R_far (p := ⟨gb634, 2, none⟩) (Kd.R_far (p := ⟨gb634, 1, none⟩) (Kd.R_far (p := ⟨gb634, 0, none⟩) (Kd.R_types HO619.out BK634.out (by decide)) (fun _ hk => hk.2) (.int .i64 t631)) (fun _ hk => hk.2) (.int .i64 t632)) (fun _ hk => hk.2) (.int .i64 t633)) (fun _ hk => hk.1.2)⟩, ⟨by (with_reducible repeat (first | apply Kd.R_alloc | apply Kd.R_drewN | apply Kd.R_drew)); exact Kd.R_mono (Kd.R_far (p := ⟨gb634, 2, none⟩) (Kd.R_far (p := ⟨gb634, 1, none⟩) (Kd.R_far (p := ⟨gb634, 0, none⟩) (Kd.R_types HO624.out BK634.out (by decide)) (fun _ hk => hk.2) (.int .i64 t631)) (fun _ hk => hk.2) (.int .i64 t632)) (fun _ hk => hk.2) (.int .i64 t633)) (fun _ hk => hk.1.2)⟩, ⟨by (with_reducible repeat (first | refine blk_drewN ?_ _ | refine blk_drew ?_ | refine blk_alloc ?_ _)); refine blk_far ?_ NB621_634.out _; (with_reducible repeat (first | refine blk_drewN ?_ _ | refine blk_drew ?_ | refine blk_alloc ?_ _)); refine blk_far ?_ NB621_634.out _; (with_reducible repeat (first | refine blk_drewN ?_ _ | refine blk_drew ?_ | refine blk_alloc ?_ _)); refine blk_far ?_ NB621_634.out _; (with_reducible repeat (first | refine blk_drewN ?_ _ | refine blk_drew ?_ | refine blk_alloc ?_ _)); exact BK621.out⟩, ⟨by (with_reducible repeat (first | refine blk_drewN ?_ _ | refine blk_drew ?_ | refine blk_alloc ?_ _)); refine blk_far ?_ NB626_634.out _; (with_reducible repeat (first | refine blk_drewN ?_ _ | refine blk_drew ?_ | refine blk_alloc ?_ _)); refine blk_far ?_ NB626_634.out _; (with_reducible repeat (first | refine blk_drewN ?_ _ | refine blk_drew ?_ | refine blk_alloc ?_ _)); refine blk_far ?_ NB626_634.out _; (with_reducible repeat (first | refine blk_drewN ?_ _ | refine blk_drew ?_ | refine blk_alloc ?_ _)); exact BK626.out⟩, ⟨by (with_reducible repeat (first | refine blk_drewN ?_ _ | refine blk_drew ?_ | refine blk_alloc ?_ _)); refine blk_far ?_ NB630_634.out _; (with_reducible repeat (first | refine blk_drewN ?_ _ | refine blk_drew ?_ | refine blk_alloc ?_ _)); refine blk_far ?_ NB630_634.out _; (with_reducible repeat (first | refine blk_drewN ?_ _ | refine blk_drew ?_ | refine blk_alloc ?_ _)); refine blk_far ?_ NB630_634.out _; (with_reducible repeat (first | refine blk_drewN ?_ _ | refine blk_drew ?_ | refine blk_alloc ?_ _)); exact BK630.out⟩, ⟨by (with_reducible repeat (first | refine blk_drewN ?_ _ | refine blk_drew ?_ | refine blk_alloc ?_ _)); refine blk_put (cs := #[.int .i64 t631, .int .i64 t632, .int .i64 0]) ?_ 2 _ rfl; (with_reducible repeat (first | refine blk_drewN ?_ _ | refine blk_drew ?_ | refine blk_alloc ?_ _)); refine blk_put (cs := #[.int .i64 t631, .int .i64 0, .int .i64 0]) ?_ 1 _ rfl; (with_reducible repeat (first | refine blk_drewN ?_ _ | refine blk_drew ?_ | refine blk_alloc ?_ _)); refine blk_put (cs := #[.int .i64 0, .int .i64 0, .int .i64 0]) ?_ 0 _ rfl; (with_reducible repeat (first | refine blk_drewN ?_ _ | refine blk_drew ?_ | refine blk_alloc ?_ _)); exact BK634.out⟩, ⟨by repeat (first | (with_reducible first | exact HB.out | apply below_alloc | apply pw_below_drewN | apply below_drew1 | refine below_set ?_ GE621.out | refine below_set ?_ GE626.out | refine below_set ?_ GE630.out | refine below_set ?_ GE634.out) | exact HB.out)⟩⟩
          ·rw [if_neg c57] at H
           have c57b0 : (t614 == t629) = false := beq_eq_false_iff_ne.mpr c57
           have c57b1 : (t614 != t629) = true := bne_iff_ne.mpr c57
           have H' := Aside0.mk H
           clear H
           have hnb83 := NB621_626.out
           have hnc83 := NB626_621.out
           have hnb84 := NB621_630.out
           have hnc84 := NB630_621.out
           have hnb85 := NB621_634.out
           have hnc85 := NB634_621.out
           have hcz86_0 : w45.cell? ⟨gb621, 0, none⟩ = some (.slice Ao32 t617.length co32) := (blk_cell BK621.out 0).trans rfl
           have hcz86_1 : w45.cell? ⟨gb621, 1, none⟩ = some (.int .i64 t620) := (blk_cell BK621.out 1).trans rfl
           have hfz86_0 := blk_frozen BK621.out 0
           have hfz86_1 := blk_frozen BK621.out 1
           obtain ⟨Ao87, co87, eo87⟩ := Kd.R_slice HO608.out
           subst eo87
           go_wp2_with (first | ((with_reducible refine gate_callee (f := 38) rfl ?_); refine goesL_ (some 95) rfl rfl Try.func38 (by kernel_rfl) rfl #[.slice Ao87 t605.length co87, .slice Ao32 t617.length co32] rfl (by (try simp only [List.map_toArray, List.map_cons, List.map_nil]); first | done | rfl | (simp only [List.length_drop, List.length_take]; rfl)) ?_; (with_reducible refine (r9_SameShells.calls kj6 _ _ t605 _ _ t617 true _ ?side1 ?side2 ?side3 ?side4 A50.out).mono ?_); (case side1 => refine (Kd.R_reads' (e := 57) (base := w.heap.size) (ok := fun k_ => (((True ∧ some k_ ≠ (v611 : Value).ownBlock) ∧ some k_ ≠ (.slice Ao32 t617.length co32 : Value).ownBlock) ∧ some k_ ≠ (.slice Ao36 t622.length co36 : Value).ownBlock)) (n := t605.length) (c := co87) ?_).2.2; exact (by (with_reducible repeat (first | apply Kd.R_alloc | apply Kd.R_drewN | apply Kd.R_drew)); exact (Kd.R_mono (Kd.R_far (p := ⟨gb634, 2, none⟩) (Kd.R_far (p := ⟨gb634, 1, none⟩) (Kd.R_far (p := ⟨gb634, 0, none⟩) (Kd.R_types HO608.out BK634.out (by decide)) (fun _ hk => hk.2) (.int .i64 t631)) (fun _ hk => hk.2) (.int .i64 t632)) (fun _ hk => hk.2) (.int .i64 t633)) (fun _ h_ => h_.1)))); (case side2 => exact (Kd.R_reads' HO608.out).2.1); (case side3 => refine (Kd.R_reads' (e := 57) (base := w.heap.size) (ok := fun k_ => (((True ∧ some k_ ≠ (.slice Ao87 t605.length co87 : Value).ownBlock) ∧ some k_ ≠ (v611 : Value).ownBlock) ∧ some k_ ≠ (.slice Ao36 t622.length co36 : Value).ownBlock)) (n := t617.length) (c := co32) ?_).2.2; exact (by (with_reducible repeat (first | apply Kd.R_alloc | apply Kd.R_drewN | apply Kd.R_drew)); exact (Kd.R_mono (Kd.R_far (p := ⟨gb634, 2, none⟩) (Kd.R_far (p := ⟨gb634, 1, none⟩) (Kd.R_far (p := ⟨gb634, 0, none⟩) (Kd.R_types HO619.out BK634.out (by decide)) (fun _ hk => hk.2) (.int .i64 t631)) (fun _ hk => hk.2) (.int .i64 t632)) (fun _ hk => hk.2) (.int .i64 t633)) (fun _ h_ => h_.1)))); (case side4 => exact (Kd.R_reads' HO619.out).2.1); rintro e w' ⟨rfl, ⟨nd, rfl⟩⟩; refine ⟨_, rfl, ?_⟩; have hnb88 := NB626_630.out; have hnc88 := NB630_626.out; have hnb89 := NB626_634.out; have hnc89 := NB634_626.out; have hcz90_0 : w45.cell? ⟨gb626, 0, none⟩ = some (.slice Ao36 t622.length co36) := (blk_cell BK626.out 0).trans rfl; have hcz90_1 : w45.cell? ⟨gb626, 1, none⟩ = some (.int .i64 t625) := (blk_cell BK626.out 1).trans rfl; have hfz90_0 := blk_frozen BK626.out 0; have hfz90_1 := blk_frozen BK626.out 1; obtain ⟨Ao91, co91, eo91⟩ := Kd.R_slice HO612.out; subst eo91) | (go_at_call 38; (with_reducible refine (r9_SameShells.calls kj6 _ _ t609 _ _ t622 true _ ?side1 ?side2 ?side3 ?side4 A53.out).mono ?_); (case side1 => refine (Kd.R_reads' (e := 57) (base := w.heap.size) (ok := fun k_ => (((True ∧ some k_ ≠ (.slice Ao87 t605.length co87 : Value).ownBlock) ∧ some k_ ≠ (.slice Ao32 t617.length co32 : Value).ownBlock) ∧ some k_ ≠ (.slice Ao36 t622.length co36 : Value).ownBlock)) (n := t609.length) (c := co91) ?_).2.2; exact (by (with_reducible repeat (first | apply Kd.R_alloc | apply Kd.R_drewN | apply Kd.R_drew)); exact (Kd.R_mono (Kd.R_far (p := ⟨gb634, 2, none⟩) (Kd.R_far (p := ⟨gb634, 1, none⟩) (Kd.R_far (p := ⟨gb634, 0, none⟩) (Kd.R_types HO612.out BK634.out (by decide)) (fun _ hk => hk.2) (.int .i64 t631)) (fun _ hk => hk.2) (.int .i64 t632)) (fun _ hk => hk.2) (.int .i64 t633)) (fun _ h_ => h_.1)))); (case side2 => exact (Kd.R_reads' HO612.out).2.1); (case side3 => refine (Kd.R_reads' (e := 57) (base := w.heap.size) (ok := fun k_ => (((True ∧ some k_ ≠ (.slice Ao87 t605.length co87 : Value).ownBlock) ∧ some k_ ≠ (.slice Ao91 t609.length co91 : Value).ownBlock) ∧ some k_ ≠ (.slice Ao32 t617.length co32 : Value).ownBlock)) (n := t622.length) (c := co36) ?_).2.2; exact (by (with_reducible repeat (first | apply Kd.R_alloc | apply Kd.R_drewN | apply Kd.R_drew)); exact (Kd.R_mono (Kd.R_far (p := ⟨gb634, 2, none⟩) (Kd.R_far (p := ⟨gb634, 1, none⟩) (Kd.R_far (p := ⟨gb634, 0, none⟩) (Kd.R_types HO624.out BK634.out (by decide)) (fun _ hk => hk.2) (.int .i64 t631)) (fun _ hk => hk.2) (.int .i64 t632)) (fun _ hk => hk.2) (.int .i64 t633)) (fun _ h_ => h_.1)))); (case side4 => exact (Kd.R_reads' HO624.out).2.1); rintro e w' ⟨rfl, ⟨nd, rfl⟩⟩; have hnb92 := NB630_634.out; have hnc92 := NB634_630.out; have hcz93_0 : w45.cell? ⟨gb630, 0, none⟩ = some (.int .i64 t627) := (blk_cell BK630.out 0).trans rfl; have hcz93_1 : w45.cell? ⟨gb630, 1, none⟩ = some (.int .i64 t628) := (blk_cell BK630.out 1).trans rfl; have hcz93_2 : w45.cell? ⟨gb630, 2, none⟩ = some (.int .i64 t629) := (blk_cell BK630.out 2).trans rfl; have hfz93_0 := blk_frozen BK630.out 0; have hfz93_1 := blk_frozen BK630.out 1; have hfz93_2 := blk_frozen BK630.out 2))
           go_meet
           case rel => exact ⟨_, (false), (by first | rfl | (simp; done) | (simp [*]; done)), H', ⟨by have := HJ6.out; first | omega | exact Nat.le_refl _⟩, ⟨by (with_reducible repeat (first | apply Kd.R_alloc | apply Kd.R_drewN | apply Kd.R_drew)); exact Kd.R_mono (Kd.R_far (p := ⟨gb634, 2, none⟩) (Kd.R_far (p := ⟨gb634, 1, none⟩) (Kd.R_far (p := ⟨gb634, 0, none⟩) (Kd.R_types HO619.out BK634.out (by decide)) (fun _ hk => hk.2) (.int .i64 t631)) (fun _ hk => hk.2) (.int .i64 t632)) (fun _ hk => hk.2) (.int .i64 t633)) (fun _ hk => hk.1.2)⟩, ⟨by (with_reducible repeat (first | apply Kd.R_alloc | apply Kd.R_drewN | apply Kd.R_drew)); exact Kd.R_mono (Kd.R_far (p := ⟨gb634, 2, none⟩) (Kd.R_far (p := ⟨gb634, 1, none⟩) (Kd.R_far (p := ⟨gb634, 0, none⟩) (Kd.R_types HO624.out BK634.out (by decide)) (fun _ hk => hk.2) (.int .i64 t631)) (fun _ hk => hk.2) (.int .i64 t632)) (fun _ hk => hk.2) (.int .i64 t633)) (fun _ hk => hk.1.2)⟩, ⟨by (with_reducible repeat (first | refine blk_drewN ?_ _ | refine blk_drew ?_ | refine blk_alloc ?_ _)); refine blk_far ?_ NB621_634.out _; (with_reducible repeat (first | refine blk_drewN ?_ _ | refine blk_drew ?_ | refine blk_alloc ?_ _)); refine blk_far ?_ NB621_634.out _; (with_reducible repeat (first | refine blk_drewN ?_ _ | refine blk_drew ?_ | refine blk_alloc ?_ _)); refine blk_far ?_ NB621_634.out _; (with_reducible repeat (first | refine blk_drewN ?_ _ | refine blk_drew ?_ | refine blk_alloc ?_ _)); exact BK621.out⟩, ⟨by (with_reducible repeat (first | refine blk_drewN ?_ _ | refine blk_drew ?_ | refine blk_alloc ?_ _)); refine blk_far ?_ NB626_634.out _; (with_reducible repeat (first | refine blk_drewN ?_ _ | refine blk_drew ?_ | refine blk_alloc ?_ _)); refine blk_far ?_ NB626_634.out _; (with_reducible repeat (first | refine blk_drewN ?_ _ | refine blk_drew ?_ | refine blk_alloc ?_ _)); refine blk_far ?_ NB626_634.out _; (with_reducible repeat (first | refine blk_drewN ?_ _ | refine blk_drew ?_ | refine blk_alloc ?_ _)); exact BK626.out⟩, ⟨by (with_reducible repeat (first | refine blk_drewN ?_ _ | refine blk_drew ?_ | refine blk_alloc ?_ _)); refine blk_far ?_ NB630_634.out _; (with_reducible repeat (first | refine blk_drewN ?_ _ | refine blk_drew ?_ | refine blk_alloc ?_ _)); refine blk_far ?_ NB630_634.out _; (with_reducible repeat (first | refine blk_drewN ?_ _ | refine blk_drew ?_ | refine blk_alloc ?_ _)); refine blk_far ?_ NB630_634.out _; (with_reducible repeat (first | refine blk_drewN ?_ _ | refine blk_drew ?_ | refine blk_alloc ?_ _)); exact BK630.out⟩, ⟨by (with_reducible repeat (first | refine blk_drewN ?_ _ | refine blk_drew ?_ | refine blk_alloc ?_ _)); refine blk_put (cs := #[.int .i64 t631, .int .i64 t632, .int .i64 0]) ?_ 2 _ rfl; (with_reducible repeat (first | refine blk_drewN ?_ _ | refine blk_drew ?_ | refine blk_alloc ?_ _)); refine blk_put (cs := #[.int .i64 t631, .int .i64 0, .int .i64 0]) ?_ 1 _ rfl; (with_reducible repeat (first | refine blk_drewN ?_ _ | refine blk_drew ?_ | refine blk_alloc ?_ _)); refine blk_put (cs := #[.int .i64 0, .int .i64 0, .int .i64 0]) ?_ 0 _ rfl; (with_reducible repeat (first | refine blk_drewN ?_ _ | refine blk_drew ?_ | refine blk_alloc ?_ _)); exact BK634.out⟩, ⟨by repeat (first | (with_reducible first | exact HB.out | apply below_alloc | apply pw_below_drewN | apply below_drew1 | refine below_set ?_ GE621.out | refine below_set ?_ GE626.out | refine below_set ?_ GE630.out | refine below_set ?_ GE634.out) | exact HB.out)⟩⟩
         ·rw [if_neg c56] at H
          have c56b0 : (t613 == t628) = false := beq_eq_false_iff_ne.mpr c56
          have c56b1 : (t613 != t628) = true := bne_iff_ne.mpr c56
          have H' := Aside0.mk H
          clear H
          have hnb94 := NB621_626.out
          have hnc94 := NB626_621.out
          have hnb95 := NB621_630.out
          have hnc95 := NB630_621.out
          have hnb96 := NB621_634.out
          have hnc96 := NB634_621.out
          have hcz97_0 : w45.cell? ⟨gb621, 0, none⟩ = some (.slice Ao32 t617.length co32) := (blk_cell BK621.out 0).trans rfl
          have hcz97_1 : w45.cell? ⟨gb621, 1, none⟩ = some (.int .i64 t620) := (blk_cell BK621.out 1).trans rfl
          have hfz97_0 := blk_frozen BK621.out 0
          have hfz97_1 := blk_frozen BK621.out 1
          obtain ⟨Ao98, co98, eo98⟩ := Kd.R_slice HO608.out
          subst eo98
          go_wp2_with (first | ((with_reducible refine gate_callee (f := 38) rfl ?_); refine goesL_ (some 95) rfl rfl Try.func38 (by kernel_rfl) rfl #[.slice Ao98 t605.length co98, .slice Ao32 t617.length co32] rfl (by (try simp only [List.map_toArray, List.map_cons, List.map_nil]); first | done | rfl | (simp only [List.length_drop, List.length_take]; rfl)) ?_; (with_reducible refine (r9_SameShells.calls kj6 _ _ t605 _ _ t617 true _ ?side1 ?side2 ?side3 ?side4 A50.out).mono ?_); (case side1 => refine (Kd.R_reads' (e := 57) (base := w.heap.size) (ok := fun k_ => (((True ∧ some k_ ≠ (v611 : Value).ownBlock) ∧ some k_ ≠ (.slice Ao32 t617.length co32 : Value).ownBlock) ∧ some k_ ≠ (.slice Ao36 t622.length co36 : Value).ownBlock)) (n := t605.length) (c := co98) ?_).2.2; exact (by (with_reducible repeat (first | apply Kd.R_alloc | apply Kd.R_drewN | apply Kd.R_drew)); exact (Kd.R_mono (Kd.R_far (p := ⟨gb634, 2, none⟩) (Kd.R_far (p := ⟨gb634, 1, none⟩) (Kd.R_far (p := ⟨gb634, 0, none⟩) (Kd.R_types HO608.out BK634.out (by decide)) (fun _ hk => hk.2) (.int .i64 t631)) (fun _ hk => hk.2) (.int .i64 t632)) (fun _ hk => hk.2) (.int .i64 t633)) (fun _ h_ => h_.1)))); (case side2 => exact (Kd.R_reads' HO608.out).2.1); (case side3 => refine (Kd.R_reads' (e := 57) (base := w.heap.size) (ok := fun k_ => (((True ∧ some k_ ≠ (.slice Ao98 t605.length co98 : Value).ownBlock) ∧ some k_ ≠ (v611 : Value).ownBlock) ∧ some k_ ≠ (.slice Ao36 t622.length co36 : Value).ownBlock)) (n := t617.length) (c := co32) ?_).2.2; exact (by (with_reducible repeat (first | apply Kd.R_alloc | apply Kd.R_drewN | apply Kd.R_drew)); exact (Kd.R_mono (Kd.R_far (p := ⟨gb634, 2, none⟩) (Kd.R_far (p := ⟨gb634, 1, none⟩) (Kd.R_far (p := ⟨gb634, 0, none⟩) (Kd.R_types HO619.out BK634.out (by decide)) (fun _ hk => hk.2) (.int .i64 t631)) (fun _ hk => hk.2) (.int .i64 t632)) (fun _ hk => hk.2) (.int .i64 t633)) (fun _ h_ => h_.1)))); (case side4 => exact (Kd.R_reads' HO619.out).2.1); rintro e w' ⟨rfl, ⟨nd, rfl⟩⟩; refine ⟨_, rfl, ?_⟩; have hnb99 := NB626_630.out; have hnc99 := NB630_626.out; have hnb100 := NB626_634.out; have hnc100 := NB634_626.out; have hcz101_0 : w45.cell? ⟨gb626, 0, none⟩ = some (.slice Ao36 t622.length co36) := (blk_cell BK626.out 0).trans rfl; have hcz101_1 : w45.cell? ⟨gb626, 1, none⟩ = some (.int .i64 t625) := (blk_cell BK626.out 1).trans rfl; have hfz101_0 := blk_frozen BK626.out 0; have hfz101_1 := blk_frozen BK626.out 1; obtain ⟨Ao102, co102, eo102⟩ := Kd.R_slice HO612.out; subst eo102) | (go_at_call 38; (with_reducible refine (r9_SameShells.calls kj6 _ _ t609 _ _ t622 true _ ?side1 ?side2 ?side3 ?side4 A53.out).mono ?_); (case side1 => refine (Kd.R_reads' (e := 57) (base := w.heap.size) (ok := fun k_ => (((True ∧ some k_ ≠ (.slice Ao98 t605.length co98 : Value).ownBlock) ∧ some k_ ≠ (.slice Ao32 t617.length co32 : Value).ownBlock) ∧ some k_ ≠ (.slice Ao36 t622.length co36 : Value).ownBlock)) (n := t609.length) (c := co102) ?_).2.2; exact (by (with_reducible repeat (first | apply Kd.R_alloc | apply Kd.R_drewN | apply Kd.R_drew)); exact (Kd.R_mono (Kd.R_far (p := ⟨gb634, 2, none⟩) (Kd.R_far (p := ⟨gb634, 1, none⟩) (Kd.R_far (p := ⟨gb634, 0, none⟩) (Kd.R_types HO612.out BK634.out (by decide)) (fun _ hk => hk.2) (.int .i64 t631)) (fun _ hk => hk.2) (.int .i64 t632)) (fun _ hk => hk.2) (.int .i64 t633)) (fun _ h_ => h_.1)))); (case side2 => exact (Kd.R_reads' HO612.out).2.1); (case side3 => refine (Kd.R_reads' (e := 57) (base := w.heap.size) (ok := fun k_ => (((True ∧ some k_ ≠ (.slice Ao98 t605.length co98 : Value).ownBlock) ∧ some k_ ≠ (.slice Ao102 t609.length co102 : Value).ownBlock) ∧ some k_ ≠ (.slice Ao32 t617.length co32 : Value).ownBlock)) (n := t622.length) (c := co36) ?_).2.2; exact (by (with_reducible repeat (first | apply Kd.R_alloc | apply Kd.R_drewN | apply Kd.R_drew)); exact (Kd.R_mono (Kd.R_far (p := ⟨gb634, 2, none⟩) (Kd.R_far (p := ⟨gb634, 1, none⟩) (Kd.R_far (p := ⟨gb634, 0, none⟩) (Kd.R_types HO624.out BK634.out (by decide)) (fun _ hk => hk.2) (.int .i64 t631)) (fun _ hk => hk.2) (.int .i64 t632)) (fun _ hk => hk.2) (.int .i64 t633)) (fun _ h_ => h_.1)))); (case side4 => exact (Kd.R_reads' HO624.out).2.1); rintro e w' ⟨rfl, ⟨nd, rfl⟩⟩; have hnb103 := NB630_634.out; have hnc103 := NB634_630.out; have hcz104_0 : w45.cell? ⟨gb630, 0, none⟩ = some (.int .i64 t627) := (blk_cell BK630.out 0).trans rfl; have hcz104_1 : w45.cell? ⟨gb630, 1, none⟩ = some (.int .i64 t628) := (blk_cell BK630.out 1).trans rfl; have hcz104_2 : w45.cell? ⟨gb630, 2, none⟩ = some (.int .i64 t629) := (blk_cell BK630.out 2).trans rfl; have hfz104_0 := blk_frozen BK630.out 0; have hfz104_1 := blk_frozen BK630.out 1; have hfz104_2 := blk_frozen BK630.out 2))
          go_meet
          case rel => exact ⟨_, (false), (by first | rfl | (simp; done) | (simp [*]; done)), H', ⟨by have := HJ6.out; first | omega | exact Nat.le_refl _⟩, ⟨by (with_reducible repeat (first | apply Kd.R_alloc | apply Kd.R_drewN | apply Kd.R_drew)); exact Kd.R_mono (Kd.R_far (p := ⟨gb634, 2, none⟩) (Kd.R_far (p := ⟨gb634, 1, none⟩) (Kd.R_far (p := ⟨gb634, 0, none⟩) (Kd.R_types HO619.out BK634.out (by decide)) (fun _ hk => hk.2) (.int .i64 t631)) (fun _ hk => hk.2) (.int .i64 t632)) (fun _ hk => hk.2) (.int .i64 t633)) (fun _ hk => hk.1.2)⟩, ⟨by (with_reducible repeat (first | apply Kd.R_alloc | apply Kd.R_drewN | apply Kd.R_drew)); exact Kd.R_mono (Kd.R_far (p := ⟨gb634, 2, none⟩) (Kd.R_far (p := ⟨gb634, 1, none⟩) (Kd.R_far (p := ⟨gb634, 0, none⟩) (Kd.R_types HO624.out BK634.out (by decide)) (fun _ hk => hk.2) (.int .i64 t631)) (fun _ hk => hk.2) (.int .i64 t632)) (fun _ hk => hk.2) (.int .i64 t633)) (fun _ hk => hk.1.2)⟩, ⟨by (with_reducible repeat (first | refine blk_drewN ?_ _ | refine blk_drew ?_ | refine blk_alloc ?_ _)); refine blk_far ?_ NB621_634.out _; (with_reducible repeat (first | refine blk_drewN ?_ _ | refine blk_drew ?_ | refine blk_alloc ?_ _)); refine blk_far ?_ NB621_634.out _; (with_reducible repeat (first | refine blk_drewN ?_ _ | refine blk_drew ?_ | refine blk_alloc ?_ _)); refine blk_far ?_ NB621_634.out _; (with_reducible repeat (first | refine blk_drewN ?_ _ | refine blk_drew ?_ | refine blk_alloc ?_ _)); exact BK621.out⟩, ⟨by (with_reducible repeat (first | refine blk_drewN ?_ _ | refine blk_drew ?_ | refine blk_alloc ?_ _)); refine blk_far ?_ NB626_634.out _; (with_reducible repeat (first | refine blk_drewN ?_ _ | refine blk_drew ?_ | refine blk_alloc ?_ _)); refine blk_far ?_ NB626_634.out _; (with_reducible repeat (first | refine blk_drewN ?_ _ | refine blk_drew ?_ | refine blk_alloc ?_ _)); refine blk_far ?_ NB626_634.out _; (with_reducible repeat (first | refine blk_drewN ?_ _ | refine blk_drew ?_ | refine blk_alloc ?_ _)); exact BK626.out⟩, ⟨by (with_reducible repeat (first | refine blk_drewN ?_ _ | refine blk_drew ?_ | refine blk_alloc ?_ _)); refine blk_far ?_ NB630_634.out _; (with_reducible repeat (first | refine blk_drewN ?_ _ | refine blk_drew ?_ | refine blk_alloc ?_ _)); refine blk_far ?_ NB630_634.out _; (with_reducible repeat (first | refine blk_drewN ?_ _ | refine blk_drew ?_ | refine blk_alloc ?_ _)); refine blk_far ?_ NB630_634.out _; (with_reducible repeat (first | refine blk_drewN ?_ _ | refine blk_drew ?_ | refine blk_alloc ?_ _)); exact BK630.out⟩, ⟨by (with_reducible repeat (first | refine blk_drewN ?_ _ | refine blk_drew ?_ | refine blk_alloc ?_ _)); refine blk_put (cs := #[.int .i64 t631, .int .i64 t632, .int .i64 0]) ?_ 2 _ rfl; (with_reducible repeat (first | refine blk_drewN ?_ _ | refine blk_drew ?_ | refine blk_alloc ?_ _)); refine blk_put (cs := #[.int .i64 t631, .int .i64 0, .int .i64 0]) ?_ 1 _ rfl; (with_reducible repeat (first | refine blk_drewN ?_ _ | refine blk_drew ?_ | refine blk_alloc ?_ _)); refine blk_put (cs := #[.int .i64 0, .int .i64 0, .int .i64 0]) ?_ 0 _ rfl; (with_reducible repeat (first | refine blk_drewN ?_ _ | refine blk_drew ?_ | refine blk_alloc ?_ _)); exact BK634.out⟩, ⟨by repeat (first | (with_reducible first | exact HB.out | apply below_alloc | apply pw_below_drewN | apply below_drew1 | refine below_set ?_ GE621.out | refine below_set ?_ GE626.out | refine below_set ?_ GE630.out | refine below_set ?_ GE634.out) | exact HB.out)⟩⟩
        ·rw [if_neg c55] at H
         have c55b0 : (t610 == t625) = false := beq_eq_false_iff_ne.mpr c55
         have c55b1 : (t610 != t625) = true := bne_iff_ne.mpr c55
         have H' := Aside0.mk H
         clear H
         have hnb105 := NB621_626.out
         have hnc105 := NB626_621.out
         have hnb106 := NB621_630.out
         have hnc106 := NB630_621.out
         have hnb107 := NB621_634.out
         have hnc107 := NB634_621.out
         have hcz108_0 : w45.cell? ⟨gb621, 0, none⟩ = some (.slice Ao32 t617.length co32) := (blk_cell BK621.out 0).trans rfl
         have hcz108_1 : w45.cell? ⟨gb621, 1, none⟩ = some (.int .i64 t620) := (blk_cell BK621.out 1).trans rfl
         have hfz108_0 := blk_frozen BK621.out 0
         have hfz108_1 := blk_frozen BK621.out 1
         obtain ⟨Ao109, co109, eo109⟩ := Kd.R_slice HO608.out
         subst eo109
         go_wp2_with (first | ((with_reducible refine gate_callee (f := 38) rfl ?_); refine goesL_ (some 95) rfl rfl Try.func38 (by kernel_rfl) rfl #[.slice Ao109 t605.length co109, .slice Ao32 t617.length co32] rfl (by (try simp only [List.map_toArray, List.map_cons, List.map_nil]); first | done | rfl | (simp only [List.length_drop, List.length_take]; rfl)) ?_; (with_reducible refine (r9_SameShells.calls kj6 _ _ t605 _ _ t617 true _ ?side1 ?side2 ?side3 ?side4 A50.out).mono ?_); (case side1 => refine (Kd.R_reads' (e := 57) (base := w.heap.size) (ok := fun k_ => (((True ∧ some k_ ≠ (v611 : Value).ownBlock) ∧ some k_ ≠ (.slice Ao32 t617.length co32 : Value).ownBlock) ∧ some k_ ≠ (.slice Ao36 t622.length co36 : Value).ownBlock)) (n := t605.length) (c := co109) ?_).2.2; exact (by (with_reducible repeat (first | apply Kd.R_alloc | apply Kd.R_drewN | apply Kd.R_drew)); exact (Kd.R_mono (Kd.R_far (p := ⟨gb634, 2, none⟩) (Kd.R_far (p := ⟨gb634, 1, none⟩) (Kd.R_far (p := ⟨gb634, 0, none⟩) (Kd.R_types HO608.out BK634.out (by decide)) (fun _ hk => hk.2) (.int .i64 t631)) (fun _ hk => hk.2) (.int .i64 t632)) (fun _ hk => hk.2) (.int .i64 t633)) (fun _ h_ => h_.1)))); (case side2 => exact (Kd.R_reads' HO608.out).2.1); (case side3 => refine (Kd.R_reads' (e := 57) (base := w.heap.size) (ok := fun k_ => (((True ∧ some k_ ≠ (.slice Ao109 t605.length co109 : Value).ownBlock) ∧ some k_ ≠ (v611 : Value).ownBlock) ∧ some k_ ≠ (.slice Ao36 t622.length co36 : Value).ownBlock)) (n := t617.length) (c := co32) ?_).2.2; exact (by (with_reducible repeat (first | apply Kd.R_alloc | apply Kd.R_drewN | apply Kd.R_drew)); exact (Kd.R_mono (Kd.R_far (p := ⟨gb634, 2, none⟩) (Kd.R_far (p := ⟨gb634, 1, none⟩) (Kd.R_far (p := ⟨gb634, 0, none⟩) (Kd.R_types HO619.out BK634.out (by decide)) (fun _ hk => hk.2) (.int .i64 t631)) (fun _ hk => hk.2) (.int .i64 t632)) (fun _ hk => hk.2) (.int .i64 t633)) (fun _ h_ => h_.1)))); (case side4 => exact (Kd.R_reads' HO619.out).2.1); rintro e w' ⟨rfl, ⟨nd, rfl⟩⟩; refine ⟨_, rfl, ?_⟩; have hnb110 := NB626_630.out; have hnc110 := NB630_626.out; have hnb111 := NB626_634.out; have hnc111 := NB634_626.out; have hcz112_0 : w45.cell? ⟨gb626, 0, none⟩ = some (.slice Ao36 t622.length co36) := (blk_cell BK626.out 0).trans rfl; have hcz112_1 : w45.cell? ⟨gb626, 1, none⟩ = some (.int .i64 t625) := (blk_cell BK626.out 1).trans rfl; have hfz112_0 := blk_frozen BK626.out 0; have hfz112_1 := blk_frozen BK626.out 1; obtain ⟨Ao113, co113, eo113⟩ := Kd.R_slice HO612.out; subst eo113) | (go_at_call 38; (with_reducible refine (r9_SameShells.calls kj6 _ _ t609 _ _ t622 true _ ?side1 ?side2 ?side3 ?side4 A53.out).mono ?_); (case side1 => refine (Kd.R_reads' (e := 57) (base := w.heap.size) (ok := fun k_ => (((True ∧ some k_ ≠ (.slice Ao109 t605.length co109 : Value).ownBlock) ∧ some k_ ≠ (.slice Ao32 t617.length co32 : Value).ownBlock) ∧ some k_ ≠ (.slice Ao36 t622.length co36 : Value).ownBlock)) (n := t609.length) (c := co113) ?_).2.2; exact (by (with_reducible repeat (first | apply Kd.R_alloc | apply Kd.R_drewN | apply Kd.R_drew)); exact (Kd.R_mono (Kd.R_far (p := ⟨gb634, 2, none⟩) (Kd.R_far (p := ⟨gb634, 1, none⟩) (Kd.R_far (p := ⟨gb634, 0, none⟩) (Kd.R_types HO612.out BK634.out (by decide)) (fun _ hk => hk.2) (.int .i64 t631)) (fun _ hk => hk.2) (.int .i64 t632)) (fun _ hk => hk.2) (.int .i64 t633)) (fun _ h_ => h_.1)))); (case side2 => exact (Kd.R_reads' HO612.out).2.1); (case side3 => refine (Kd.R_reads' (e := 57) (base := w.heap.size) (ok := fun k_ => (((True ∧ some k_ ≠ (.slice Ao109 t605.length co109 : Value).ownBlock) ∧ some k_ ≠ (.slice Ao113 t609.length co113 : Value).ownBlock) ∧ some k_ ≠ (.slice Ao32 t617.length co32 : Value).ownBlock)) (n := t622.length) (c := co36) ?_).2.2; exact (by (with_reducible repeat (first | apply Kd.R_alloc | apply Kd.R_drewN | apply Kd.R_drew)); exact (Kd.R_mono (Kd.R_far (p := ⟨gb634, 2, none⟩) (Kd.R_far (p := ⟨gb634, 1, none⟩) (Kd.R_far (p := ⟨gb634, 0, none⟩) (Kd.R_types HO624.out BK634.out (by decide)) (fun _ hk => hk.2) (.int .i64 t631)) (fun _ hk => hk.2) (.int .i64 t632)) (fun _ hk => hk.2) (.int .i64 t633)) (fun _ h_ => h_.1)))); (case side4 => exact (Kd.R_reads' HO624.out).2.1); rintro e w' ⟨rfl, ⟨nd, rfl⟩⟩))
         go_meet
         case rel => exact ⟨_, (false), (by first | rfl | (simp; done) | (simp [*]; done)), H', ⟨by have := HJ6.out; first | omega | exact Nat.le_refl _⟩, ⟨by (with_reducible repeat (first | apply Kd.R_alloc | apply Kd.R_drewN | apply Kd.R_drew)); exact Kd.R_mono (Kd.R_far (p := ⟨gb634, 2, none⟩) (Kd.R_far (p := ⟨gb634, 1, none⟩) (Kd.R_far (p := ⟨gb634, 0, none⟩) (Kd.R_types HO619.out BK634.out (by decide)) (fun _ hk => hk.2) (.int .i64 t631)) (fun _ hk => hk.2) (.int .i64 t632)) (fun _ hk => hk.2) (.int .i64 t633)) (fun _ hk => hk.1.2)⟩, ⟨by (with_reducible repeat (first | apply Kd.R_alloc | apply Kd.R_drewN | apply Kd.R_drew)); exact Kd.R_mono (Kd.R_far (p := ⟨gb634, 2, none⟩) (Kd.R_far (p := ⟨gb634, 1, none⟩) (Kd.R_far (p := ⟨gb634, 0, none⟩) (Kd.R_types HO624.out BK634.out (by decide)) (fun _ hk => hk.2) (.int .i64 t631)) (fun _ hk => hk.2) (.int .i64 t632)) (fun _ hk => hk.2) (.int .i64 t633)) (fun _ hk => hk.1.2)⟩, ⟨by (with_reducible repeat (first | refine blk_drewN ?_ _ | refine blk_drew ?_ | refine blk_alloc ?_ _)); refine blk_far ?_ NB621_634.out _; (with_reducible repeat (first | refine blk_drewN ?_ _ | refine blk_drew ?_ | refine blk_alloc ?_ _)); refine blk_far ?_ NB621_634.out _; (with_reducible repeat (first | refine blk_drewN ?_ _ | refine blk_drew ?_ | refine blk_alloc ?_ _)); refine blk_far ?_ NB621_634.out _; (with_reducible repeat (first | refine blk_drewN ?_ _ | refine blk_drew ?_ | refine blk_alloc ?_ _)); exact BK621.out⟩, ⟨by (with_reducible repeat (first | refine blk_drewN ?_ _ | refine blk_drew ?_ | refine blk_alloc ?_ _)); refine blk_far ?_ NB626_634.out _; (with_reducible repeat (first | refine blk_drewN ?_ _ | refine blk_drew ?_ | refine blk_alloc ?_ _)); refine blk_far ?_ NB626_634.out _; (with_reducible repeat (first | refine blk_drewN ?_ _ | refine blk_drew ?_ | refine blk_alloc ?_ _)); refine blk_far ?_ NB626_634.out _; (with_reducible repeat (first | refine blk_drewN ?_ _ | refine blk_drew ?_ | refine blk_alloc ?_ _)); exact BK626.out⟩, ⟨by (with_reducible repeat (first | refine blk_drewN ?_ _ | refine blk_drew ?_ | refine blk_alloc ?_ _)); refine blk_far ?_ NB630_634.out _; (with_reducible repeat (first | refine blk_drewN ?_ _ | refine blk_drew ?_ | refine blk_alloc ?_ _)); refine blk_far ?_ NB630_634.out _; (with_reducible repeat (first | refine blk_drewN ?_ _ | refine blk_drew ?_ | refine blk_alloc ?_ _)); refine blk_far ?_ NB630_634.out _; (with_reducible repeat (first | refine blk_drewN ?_ _ | refine blk_drew ?_ | refine blk_alloc ?_ _)); exact BK630.out⟩, ⟨by (with_reducible repeat (first | refine blk_drewN ?_ _ | refine blk_drew ?_ | refine blk_alloc ?_ _)); refine blk_put (cs := #[.int .i64 t631, .int .i64 t632, .int .i64 0]) ?_ 2 _ rfl; (with_reducible repeat (first | refine blk_drewN ?_ _ | refine blk_drew ?_ | refine blk_alloc ?_ _)); refine blk_put (cs := #[.int .i64 t631, .int .i64 0, .int .i64 0]) ?_ 1 _ rfl; (with_reducible repeat (first | refine blk_drewN ?_ _ | refine blk_drew ?_ | refine blk_alloc ?_ _)); refine blk_put (cs := #[.int .i64 0, .int .i64 0, .int .i64 0]) ?_ 0 _ rfl; (with_reducible repeat (first | refine blk_drewN ?_ _ | refine blk_drew ?_ | refine blk_alloc ?_ _)); exact BK634.out⟩, ⟨by repeat (first | (with_reducible first | exact HB.out | apply below_alloc | apply pw_below_drewN | apply below_drew1 | refine below_set ?_ GE621.out | refine below_set ?_ GE626.out | refine below_set ?_ GE630.out | refine below_set ?_ GE634.out) | exact HB.out)⟩⟩
       ·replace c54 := Bool.eq_false_iff.mpr c54
        subst c54
        have H1 : (l9_PivotBoundsAsSpecified.j1 kj6 l3 l5 false) = some r := by rw [if_neg (show ¬ (false = true) by decide)] at H; exact H
        clear H
        have H := H1
        clear H1
        have H' := Aside0.mk H
        clear H
        have hnb114 := NB621_626.out
        have hnc114 := NB626_621.out
        have hnb115 := NB621_630.out
        have hnc115 := NB630_621.out
        have hnb116 := NB621_634.out
        have hnc116 := NB634_621.out
        have hcz117_0 : w45.cell? ⟨gb621, 0, none⟩ = some (.slice Ao32 t617.length co32) := (blk_cell BK621.out 0).trans rfl
        have hcz117_1 : w45.cell? ⟨gb621, 1, none⟩ = some (.int .i64 t620) := (blk_cell BK621.out 1).trans rfl
        have hfz117_0 := blk_frozen BK621.out 0
        have hfz117_1 := blk_frozen BK621.out 1
        obtain ⟨Ao118, co118, eo118⟩ := Kd.R_slice HO608.out
        subst eo118
        go_wp2_with (first | ((with_reducible refine gate_callee (f := 38) rfl ?_); refine goesL_ (some 95) rfl rfl Try.func38 (by kernel_rfl) rfl #[.slice Ao118 t605.length co118, .slice Ao32 t617.length co32] rfl (by (try simp only [List.map_toArray, List.map_cons, List.map_nil]); first | done | rfl | (simp only [List.length_drop, List.length_take]; rfl)) ?_; (with_reducible refine (r9_SameShells.calls kj6 _ _ t605 _ _ t617 true _ ?side1 ?side2 ?side3 ?side4 A50.out).mono ?_); (case side1 => refine (Kd.R_reads' (e := 57) (base := w.heap.size) (ok := fun k_ => (((True ∧ some k_ ≠ (v611 : Value).ownBlock) ∧ some k_ ≠ (.slice Ao32 t617.length co32 : Value).ownBlock) ∧ some k_ ≠ (.slice Ao36 t622.length co36 : Value).ownBlock)) (n := t605.length) (c := co118) ?_).2.2; exact (by (with_reducible repeat (first | apply Kd.R_alloc | apply Kd.R_drewN | apply Kd.R_drew)); exact (Kd.R_mono (Kd.R_far (p := ⟨gb634, 2, none⟩) (Kd.R_far (p := ⟨gb634, 1, none⟩) (Kd.R_far (p := ⟨gb634, 0, none⟩) (Kd.R_types HO608.out BK634.out (by decide)) (fun _ hk => hk.2) (.int .i64 t631)) (fun _ hk => hk.2) (.int .i64 t632)) (fun _ hk => hk.2) (.int .i64 t633)) (fun _ h_ => h_.1)))); (case side2 => exact (Kd.R_reads' HO608.out).2.1); (case side3 => refine (Kd.R_reads' (e := 57) (base := w.heap.size) (ok := fun k_ => (((True ∧ some k_ ≠ (.slice Ao118 t605.length co118 : Value).ownBlock) ∧ some k_ ≠ (v611 : Value).ownBlock) ∧ some k_ ≠ (.slice Ao36 t622.length co36 : Value).ownBlock)) (n := t617.length) (c := co32) ?_).2.2; exact (by (with_reducible repeat (first | apply Kd.R_alloc | apply Kd.R_drewN | apply Kd.R_drew)); exact (Kd.R_mono (Kd.R_far (p := ⟨gb634, 2, none⟩) (Kd.R_far (p := ⟨gb634, 1, none⟩) (Kd.R_far (p := ⟨gb634, 0, none⟩) (Kd.R_types HO619.out BK634.out (by decide)) (fun _ hk => hk.2) (.int .i64 t631)) (fun _ hk => hk.2) (.int .i64 t632)) (fun _ hk => hk.2) (.int .i64 t633)) (fun _ h_ => h_.1)))); (case side4 => exact (Kd.R_reads' HO619.out).2.1); rintro e w' ⟨rfl, ⟨nd, rfl⟩⟩; refine ⟨_, rfl, ?_⟩; have hnb119 := NB626_630.out; have hnc119 := NB630_626.out; have hnb120 := NB626_634.out; have hnc120 := NB634_626.out; have hcz121_0 : w45.cell? ⟨gb626, 0, none⟩ = some (.slice Ao36 t622.length co36) := (blk_cell BK626.out 0).trans rfl; have hcz121_1 : w45.cell? ⟨gb626, 1, none⟩ = some (.int .i64 t625) := (blk_cell BK626.out 1).trans rfl; have hfz121_0 := blk_frozen BK626.out 0; have hfz121_1 := blk_frozen BK626.out 1; obtain ⟨Ao122, co122, eo122⟩ := Kd.R_slice HO612.out; subst eo122) | (go_at_call 38; (with_reducible refine (r9_SameShells.calls kj6 _ _ t609 _ _ t622 false _ ?side1 ?side2 ?side3 ?side4 A53.out).mono ?_); (case side1 => refine (Kd.R_reads' (e := 57) (base := w.heap.size) (ok := fun k_ => (((True ∧ some k_ ≠ (.slice Ao118 t605.length co118 : Value).ownBlock) ∧ some k_ ≠ (.slice Ao32 t617.length co32 : Value).ownBlock) ∧ some k_ ≠ (.slice Ao36 t622.length co36 : Value).ownBlock)) (n := t609.length) (c := co122) ?_).2.2; exact (by (with_reducible repeat (first | apply Kd.R_alloc | apply Kd.R_drewN | apply Kd.R_drew)); exact (Kd.R_mono (Kd.R_far (p := ⟨gb634, 2, none⟩) (Kd.R_far (p := ⟨gb634, 1, none⟩) (Kd.R_far (p := ⟨gb634, 0, none⟩) (Kd.R_types HO612.out BK634.out (by decide)) (fun _ hk => hk.2) (.int .i64 t631)) (fun _ hk => hk.2) (.int .i64 t632)) (fun _ hk => hk.2) (.int .i64 t633)) (fun _ h_ => h_.1)))); (case side2 => exact (Kd.R_reads' HO612.out).2.1); (case side3 => refine (Kd.R_reads' (e := 57) (base := w.heap.size) (ok := fun k_ => (((True ∧ some k_ ≠ (.slice Ao118 t605.length co118 : Value).ownBlock) ∧ some k_ ≠ (.slice Ao122 t609.length co122 : Value).ownBlock) ∧ some k_ ≠ (.slice Ao32 t617.length co32 : Value).ownBlock)) (n := t622.length) (c := co36) ?_).2.2; exact (by (with_reducible repeat (first | apply Kd.R_alloc | apply Kd.R_drewN | apply Kd.R_drew)); exact (Kd.R_mono (Kd.R_far (p := ⟨gb634, 2, none⟩) (Kd.R_far (p := ⟨gb634, 1, none⟩) (Kd.R_far (p := ⟨gb634, 0, none⟩) (Kd.R_types HO624.out BK634.out (by decide)) (fun _ hk => hk.2) (.int .i64 t631)) (fun _ hk => hk.2) (.int .i64 t632)) (fun _ hk => hk.2) (.int .i64 t633)) (fun _ h_ => h_.1)))); (case side4 => exact (Kd.R_reads' HO624.out).2.1); rintro e w' ⟨rfl, ⟨nd, rfl⟩⟩))
        go_meet
        case rel => exact ⟨_, (false), (by first | rfl | (simp; done) | (simp [*]; done)), H', ⟨by have := HJ6.out; first | omega | exact Nat.le_refl _⟩, ⟨by (with_reducible repeat (first | apply Kd.R_alloc | apply Kd.R_drewN | apply Kd.R_drew)); exact Kd.R_mono (Kd.R_far (p := ⟨gb634, 2, none⟩) (Kd.R_far (p := ⟨gb634, 1, none⟩) (Kd.R_far (p := ⟨gb634, 0, none⟩) (Kd.R_types HO619.out BK634.out (by decide)) (fun _ hk => hk.2) (.int .i64 t631)) (fun _ hk => hk.2) (.int .i64 t632)) (fun _ hk => hk.2) (.int .i64 t633)) (fun _ hk => hk.1.2)⟩, ⟨by (with_reducible repeat (first | apply Kd.R_alloc | apply Kd.R_drewN | apply Kd.R_drew)); exact Kd.R_mono (Kd.R_far (p := ⟨gb634, 2, none⟩) (Kd.R_far (p := ⟨gb634, 1, none⟩) (Kd.R_far (p := ⟨gb634, 0, none⟩) (Kd.R_types HO624.out BK634.out (by decide)) (fun _ hk => hk.2) (.int .i64 t631)) (fun _ hk => hk.2) (.int .i64 t632)) (fun _ hk => hk.2) (.int .i64 t633)) (fun _ hk => hk.1.2)⟩, ⟨by (with_reducible repeat (first | refine blk_drewN ?_ _ | refine blk_drew ?_ | refine blk_alloc ?_ _)); refine blk_far ?_ NB621_634.out _; (with_reducible repeat (first | refine blk_drewN ?_ _ | refine blk_drew ?_ | refine blk_alloc ?_ _)); refine blk_far ?_ NB621_634.out _; (with_reducible repeat (first | refine blk_drewN ?_ _ | refine blk_drew ?_ | refine blk_alloc ?_ _)); refine blk_far ?_ NB621_634.out _; (with_reducible repeat (first | refine blk_drewN ?_ _ | refine blk_drew ?_ | refine blk_alloc ?_ _)); exact BK621.out⟩, ⟨by (with_reducible repeat (first | refine blk_drewN ?_ _ | refine blk_drew ?_ | refine blk_alloc ?_ _)); refine blk_far ?_ NB626_634.out _; (with_reducible repeat (first | refine blk_drewN ?_ _ | refine blk_drew ?_ | refine blk_alloc ?_ _)); refine blk_far ?_ NB626_634.out _; (with_reducible repeat (first | refine blk_drewN ?_ _ | refine blk_drew ?_ | refine blk_alloc ?_ _)); refine blk_far ?_ NB626_634.out _; (with_reducible repeat (first | refine blk_drewN ?_ _ | refine blk_drew ?_ | refine blk_alloc ?_ _)); exact BK626.out⟩, ⟨by (with_reducible repeat (first | refine blk_drewN ?_ _ | refine blk_drew ?_ | refine blk_alloc ?_ _)); refine blk_far ?_ NB630_634.out _; (with_reducible repeat (first | refine blk_drewN ?_ _ | refine blk_drew ?_ | refine blk_alloc ?_ _)); refine blk_far ?_ NB630_634.out _; (with_reducible repeat (first | refine blk_drewN ?_ _ | refine blk_drew ?_ | refine blk_alloc ?_ _)); refine blk_far ?_ NB630_634.out _; (with_reducible repeat (first | refine blk_drewN ?_ _ | refine blk_drew ?_ | refine blk_alloc ?_ _)); exact BK630.out⟩, ⟨by (with_reducible repeat (first | refine blk_drewN ?_ _ | refine blk_drew ?_ | refine blk_alloc ?_ _)); refine blk_put (cs := #[.int .i64 t631, .int .i64 t632, .int .i64 0]) ?_ 2 _ rfl; (with_reducible repeat (first | refine blk_drewN ?_ _ | refine blk_drew ?_ | refine blk_alloc ?_ _)); refine blk_put (cs := #[.int .i64 t631, .int .i64 0, .int .i64 0]) ?_ 1 _ rfl; (with_reducible repeat (first | refine blk_drewN ?_ _ | refine blk_drew ?_ | refine blk_alloc ?_ _)); refine blk_put (cs := #[.int .i64 0, .int .i64 0, .int .i64 0]) ?_ 0 _ rfl; (with_reducible repeat (first | refine blk_drewN ?_ _ | refine blk_drew ?_ | refine blk_alloc ?_ _)); exact BK634.out⟩, ⟨by repeat (first | (with_reducible first | exact HB.out | apply below_alloc | apply pw_below_drewN | apply below_drew1 | refine below_set ?_ GE621.out | refine below_set ?_ GE626.out | refine below_set ?_ GE630.out | refine below_set ?_ GE634.out) | exact HB.out)⟩⟩
      ·rw [if_neg c52] at H
       have c52b0 : (t606 == t620) = false := beq_eq_false_iff_ne.mpr c52
       have c52b1 : (t606 != t620) = true := bne_iff_ne.mpr c52
       (first | rw [c52b0] | (simp only [i64_w, i32_w]; rw [c52b0]) | skip)
       have H' := Aside0.mk H
       clear H
       have hnb123 := NB621_626.out
       have hnc123 := NB626_621.out
       have hnb124 := NB621_630.out
       have hnc124 := NB630_621.out
       have hnb125 := NB621_634.out
       have hnc125 := NB634_621.out
       have hcz126_0 : w45.cell? ⟨gb621, 0, none⟩ = some (.slice Ao32 t617.length co32) := (blk_cell BK621.out 0).trans rfl
       have hcz126_1 : w45.cell? ⟨gb621, 1, none⟩ = some (.int .i64 t620) := (blk_cell BK621.out 1).trans rfl
       have hfz126_0 := blk_frozen BK621.out 0
       have hfz126_1 := blk_frozen BK621.out 1
       obtain ⟨Ao127, co127, eo127⟩ := Kd.R_slice HO608.out
       subst eo127
       go_wp2_with (first | ((with_reducible refine gate_callee (f := 38) rfl ?_); refine goesL_ (some 95) rfl rfl Try.func38 (by kernel_rfl) rfl #[.slice Ao127 t605.length co127, .slice Ao32 t617.length co32] rfl (by (try simp only [List.map_toArray, List.map_cons, List.map_nil]); first | done | rfl | (simp only [List.length_drop, List.length_take]; rfl)) ?_; (with_reducible refine (r9_SameShells.calls kj6 _ _ t605 _ _ t617 true _ ?side1 ?side2 ?side3 ?side4 A50.out).mono ?_); (case side1 => refine (Kd.R_reads' (e := 57) (base := w.heap.size) (ok := fun k_ => (((True ∧ some k_ ≠ (v611 : Value).ownBlock) ∧ some k_ ≠ (.slice Ao32 t617.length co32 : Value).ownBlock) ∧ some k_ ≠ (.slice Ao36 t622.length co36 : Value).ownBlock)) (n := t605.length) (c := co127) ?_).2.2; exact (by (with_reducible repeat (first | apply Kd.R_alloc | apply Kd.R_drewN | apply Kd.R_drew)); exact (Kd.R_mono (Kd.R_far (p := ⟨gb634, 2, none⟩) (Kd.R_far (p := ⟨gb634, 1, none⟩) (Kd.R_far (p := ⟨gb634, 0, none⟩) (Kd.R_types HO608.out BK634.out (by decide)) (fun _ hk => hk.2) (.int .i64 t631)) (fun _ hk => hk.2) (.int .i64 t632)) (fun _ hk => hk.2) (.int .i64 t633)) (fun _ h_ => h_.1)))); (case side2 => exact (Kd.R_reads' HO608.out).2.1); (case side3 => refine (Kd.R_reads' (e := 57) (base := w.heap.size) (ok := fun k_ => (((True ∧ some k_ ≠ (.slice Ao127 t605.length co127 : Value).ownBlock) ∧ some k_ ≠ (v611 : Value).ownBlock) ∧ some k_ ≠ (.slice Ao36 t622.length co36 : Value).ownBlock)) (n := t617.length) (c := co32) ?_).2.2; exact (by (with_reducible repeat (first | apply Kd.R_alloc | apply Kd.R_drewN | apply Kd.R_drew)); exact (Kd.R_mono (Kd.R_far (p := ⟨gb634, 2, none⟩) (Kd.R_far (p := ⟨gb634, 1, none⟩) (Kd.R_far (p := ⟨gb634, 0, none⟩) (Kd.R_types HO619.out BK634.out (by decide)) (fun _ hk => hk.2) (.int .i64 t631)) (fun _ hk => hk.2) (.int .i64 t632)) (fun _ hk => hk.2) (.int .i64 t633)) (fun _ h_ => h_.1)))); (case side4 => exact (Kd.R_reads' HO619.out).2.1); rintro e w' ⟨rfl, ⟨nd, rfl⟩⟩; refine ⟨_, rfl, ?_⟩))
       go_meet
       case rel => exact ⟨_, (false), (by first | rfl | (simp; done) | (simp [*]; done)), H', ⟨by have := HJ6.out; first | omega | exact Nat.le_refl _⟩, ⟨by (with_reducible repeat (first | apply Kd.R_alloc | apply Kd.R_drewN | apply Kd.R_drew)); exact Kd.R_mono (Kd.R_far (p := ⟨gb634, 2, none⟩) (Kd.R_far (p := ⟨gb634, 1, none⟩) (Kd.R_far (p := ⟨gb634, 0, none⟩) (Kd.R_types HO619.out BK634.out (by decide)) (fun _ hk => hk.2) (.int .i64 t631)) (fun _ hk => hk.2) (.int .i64 t632)) (fun _ hk => hk.2) (.int .i64 t633)) (fun _ hk => hk.1.2)⟩, ⟨by (with_reducible repeat (first | apply Kd.R_alloc | apply Kd.R_drewN | apply Kd.R_drew)); exact Kd.R_mono (Kd.R_far (p := ⟨gb634, 2, none⟩) (Kd.R_far (p := ⟨gb634, 1, none⟩) (Kd.R_far (p := ⟨gb634, 0, none⟩) (Kd.R_types HO624.out BK634.out (by decide)) (fun _ hk => hk.2) (.int .i64 t631)) (fun _ hk => hk.2) (.int .i64 t632)) (fun _ hk => hk.2) (.int .i64 t633)) (fun _ hk => hk.1.2)⟩, ⟨by (with_reducible repeat (first | refine blk_drewN ?_ _ | refine blk_drew ?_ | refine blk_alloc ?_ _)); refine blk_far ?_ NB621_634.out _; (with_reducible repeat (first | refine blk_drewN ?_ _ | refine blk_drew ?_ | refine blk_alloc ?_ _)); refine blk_far ?_ NB621_634.out _; (with_reducible repeat (first | refine blk_drewN ?_ _ | refine blk_drew ?_ | refine blk_alloc ?_ _)); refine blk_far ?_ NB621_634.out _; (with_reducible repeat (first | refine blk_drewN ?_ _ | refine blk_drew ?_ | refine blk_alloc ?_ _)); exact BK621.out⟩, ⟨by (with_reducible repeat (first | refine blk_drewN ?_ _ | refine blk_drew ?_ | refine blk_alloc ?_ _)); refine blk_far ?_ NB626_634.out _; (with_reducible repeat (first | refine blk_drewN ?_ _ | refine blk_drew ?_ | refine blk_alloc ?_ _)); refine blk_far ?_ NB626_634.out _; (with_reducible repeat (first | refine blk_drewN ?_ _ | refine blk_drew ?_ | refine blk_alloc ?_ _)); refine blk_far ?_ NB626_634.out _; (with_reducible repeat (first | refine blk_drewN ?_ _ | refine blk_drew ?_ | refine blk_alloc ?_ _)); exact BK626.out⟩, ⟨by (with_reducible repeat (first | refine blk_drewN ?_ _ | refine blk_drew ?_ | refine blk_alloc ?_ _)); refine blk_far ?_ NB630_634.out _; (with_reducible repeat (first | refine blk_drewN ?_ _ | refine blk_drew ?_ | refine blk_alloc ?_ _)); refine blk_far ?_ NB630_634.out _; (with_reducible repeat (first | refine blk_drewN ?_ _ | refine blk_drew ?_ | refine blk_alloc ?_ _)); refine blk_far ?_ NB630_634.out _; (with_reducible repeat (first | refine blk_drewN ?_ _ | refine blk_drew ?_ | refine blk_alloc ?_ _)); exact BK630.out⟩, ⟨by (with_reducible repeat (first | refine blk_drewN ?_ _ | refine blk_drew ?_ | refine blk_alloc ?_ _)); refine blk_put (cs := #[.int .i64 t631, .int .i64 t632, .int .i64 0]) ?_ 2 _ rfl; (with_reducible repeat (first | refine blk_drewN ?_ _ | refine blk_drew ?_ | refine blk_alloc ?_ _)); refine blk_put (cs := #[.int .i64 t631, .int .i64 0, .int .i64 0]) ?_ 1 _ rfl; (with_reducible repeat (first | refine blk_drewN ?_ _ | refine blk_drew ?_ | refine blk_alloc ?_ _)); refine blk_put (cs := #[.int .i64 0, .int .i64 0, .int .i64 0]) ?_ 0 _ rfl; (with_reducible repeat (first | refine blk_drewN ?_ _ | refine blk_drew ?_ | refine blk_alloc ?_ _)); exact BK634.out⟩, ⟨by repeat (first | (with_reducible first | exact HB.out | apply below_alloc | apply pw_below_drewN | apply below_drew1 | refine below_set ?_ GE621.out | refine below_set ?_ GE626.out | refine below_set ?_ GE630.out | refine below_set ?_ GE634.out) | exact HB.out)⟩⟩
     ·replace c51 := Bool.eq_false_iff.mpr c51
      subst c51
      have H1 : (l9_PivotBoundsAsSpecified.j1 kj6 l3 l5 false) = some r := by rw [if_neg (show ¬ (false = true) by decide)] at H; exact H
      clear H
      have H := H1
      clear H1
      have H' := Aside0.mk H
      clear H
      have hnb128 := NB621_626.out
      have hnc128 := NB626_621.out
      have hnb129 := NB621_630.out
      have hnc129 := NB630_621.out
      have hnb130 := NB621_634.out
      have hnc130 := NB634_621.out
      have hcz131_0 : w45.cell? ⟨gb621, 0, none⟩ = some (.slice Ao32 t617.length co32) := (blk_cell BK621.out 0).trans rfl
      have hcz131_1 : w45.cell? ⟨gb621, 1, none⟩ = some (.int .i64 t620) := (blk_cell BK621.out 1).trans rfl
      have hfz131_0 := blk_frozen BK621.out 0
      have hfz131_1 := blk_frozen BK621.out 1
      obtain ⟨Ao132, co132, eo132⟩ := Kd.R_slice HO608.out
      subst eo132
      go_wp2_with (first | ((with_reducible refine gate_callee (f := 38) rfl ?_); refine goesL_ (some 95) rfl rfl Try.func38 (by kernel_rfl) rfl #[.slice Ao132 t605.length co132, .slice Ao32 t617.length co32] rfl (by (try simp only [List.map_toArray, List.map_cons, List.map_nil]); first | done | rfl | (simp only [List.length_drop, List.length_take]; rfl)) ?_; (with_reducible refine (r9_SameShells.calls kj6 _ _ t605 _ _ t617 false _ ?side1 ?side2 ?side3 ?side4 A50.out).mono ?_); (case side1 => refine (Kd.R_reads' (e := 57) (base := w.heap.size) (ok := fun k_ => (((True ∧ some k_ ≠ (v611 : Value).ownBlock) ∧ some k_ ≠ (.slice Ao32 t617.length co32 : Value).ownBlock) ∧ some k_ ≠ (.slice Ao36 t622.length co36 : Value).ownBlock)) (n := t605.length) (c := co132) ?_).2.2; exact (by (with_reducible repeat (first | apply Kd.R_alloc | apply Kd.R_drewN | apply Kd.R_drew)); exact (Kd.R_mono (Kd.R_far (p := ⟨gb634, 2, none⟩) (Kd.R_far (p := ⟨gb634, 1, none⟩) (Kd.R_far (p := ⟨gb634, 0, none⟩) (Kd.R_types HO608.out BK634.out (by decide)) (fun _ hk => hk.2) (.int .i64 t631)) (fun _ hk => hk.2) (.int .i64 t632)) (fun _ hk => hk.2) (.int .i64 t633)) (fun _ h_ => h_.1)))); (case side2 => exact (Kd.R_reads' HO608.out).2.1); (case side3 => refine (Kd.R_reads' (e := 57) (base := w.heap.size) (ok := fun k_ => (((True ∧ some k_ ≠ (.slice Ao132 t605.length co132 : Value).ownBlock) ∧ some k_ ≠ (v611 : Value).ownBlock) ∧ some k_ ≠ (.slice Ao36 t622.length co36 : Value).ownBlock)) (n := t617.length) (c := co32) ?_).2.2; exact (by (with_reducible repeat (first | apply Kd.R_alloc | apply Kd.R_drewN | apply Kd.R_drew)); exact (Kd.R_mono (Kd.R_far (p := ⟨gb634, 2, none⟩) (Kd.R_far (p := ⟨gb634, 1, none⟩) (Kd.R_far (p := ⟨gb634, 0, none⟩) (Kd.R_types HO619.out BK634.out (by decide)) (fun _ hk => hk.2) (.int .i64 t631)) (fun _ hk => hk.2) (.int .i64 t632)) (fun _ hk => hk.2) (.int .i64 t633)) (fun _ h_ => h_.1)))); (case side4 => exact (Kd.R_reads' HO619.out).2.1); rintro e w' ⟨rfl, ⟨nd, rfl⟩⟩; refine ⟨_, rfl, ?_⟩))
      go_meet
      case rel => exact ⟨_, (false), (by first | rfl | (simp; done) | (simp [*]; done)), H', ⟨by have := HJ6.out; first | omega | exact Nat.le_refl _⟩, ⟨by (with_reducible repeat (first | apply Kd.R_alloc | apply Kd.R_drewN | apply Kd.R_drew)); exact Kd.R_mono (Kd.R_far (p := ⟨gb634, 2, none⟩) (Kd.R_far (p := ⟨gb634, 1, none⟩) (Kd.R_far (p := ⟨gb634, 0, none⟩) (Kd.R_types HO619.out BK634.out (by decide)) (fun _ hk => hk.2) (.int .i64 t631)) (fun _ hk => hk.2) (.int .i64 t632)) (fun _ hk => hk.2) (.int .i64 t633)) (fun _ hk => hk.1.2)⟩, ⟨by (with_reducible repeat (first | apply Kd.R_alloc | apply Kd.R_drewN | apply Kd.R_drew)); exact Kd.R_mono (Kd.R_far (p := ⟨gb634, 2, none⟩) (Kd.R_far (p := ⟨gb634, 1, none⟩) (Kd.R_far (p := ⟨gb634, 0, none⟩) (Kd.R_types HO624.out BK634.out (by decide)) (fun _ hk => hk.2) (.int .i64 t631)) (fun _ hk => hk.2) (.int .i64 t632)) (fun _ hk => hk.2) (.int .i64 t633)) (fun _ hk => hk.1.2)⟩, ⟨by (with_reducible repeat (first | refine blk_drewN ?_ _ | refine blk_drew ?_ | refine blk_alloc ?_ _)); refine blk_far ?_ NB621_634.out _; (with_reducible repeat (first | refine blk_drewN ?_ _ | refine blk_drew ?_ | refine blk_alloc ?_ _)); refine blk_far ?_ NB621_634.out _; (with_reducible repeat (first | refine blk_drewN ?_ _ | refine blk_drew ?_ | refine blk_alloc ?_ _)); refine blk_far ?_ NB621_634.out _; (with_reducible repeat (first | refine blk_drewN ?_ _ | refine blk_drew ?_ | refine blk_alloc ?_ _)); exact BK621.out⟩, ⟨by (with_reducible repeat (first | refine blk_drewN ?_ _ | refine blk_drew ?_ | refine blk_alloc ?_ _)); refine blk_far ?_ NB626_634.out _; (with_reducible repeat (first | refine blk_drewN ?_ _ | refine blk_drew ?_ | refine blk_alloc ?_ _)); refine blk_far ?_ NB626_634.out _; (with_reducible repeat (first | refine blk_drewN ?_ _ | refine blk_drew ?_ | refine blk_alloc ?_ _)); refine blk_far ?_ NB626_634.out _; (with_reducible repeat (first | refine blk_drewN ?_ _ | refine blk_drew ?_ | refine blk_alloc ?_ _)); exact BK626.out⟩, ⟨by (with_reducible repeat (first | refine blk_drewN ?_ _ | refine blk_drew ?_ | refine blk_alloc ?_ _)); refine blk_far ?_ NB630_634.out _; (with_reducible repeat (first | refine blk_drewN ?_ _ | refine blk_drew ?_ | refine blk_alloc ?_ _)); refine blk_far ?_ NB630_634.out _; (with_reducible repeat (first | refine blk_drewN ?_ _ | refine blk_drew ?_ | refine blk_alloc ?_ _)); refine blk_far ?_ NB630_634.out _; (with_reducible repeat (first | refine blk_drewN ?_ _ | refine blk_drew ?_ | refine blk_alloc ?_ _)); exact BK630.out⟩, ⟨by (with_reducible repeat (first | refine blk_drewN ?_ _ | refine blk_drew ?_ | refine blk_alloc ?_ _)); refine blk_put (cs := #[.int .i64 t631, .int .i64 t632, .int .i64 0]) ?_ 2 _ rfl; (with_reducible repeat (first | refine blk_drewN ?_ _ | refine blk_drew ?_ | refine blk_alloc ?_ _)); refine blk_put (cs := #[.int .i64 t631, .int .i64 0, .int .i64 0]) ?_ 1 _ rfl; (with_reducible repeat (first | refine blk_drewN ?_ _ | refine blk_drew ?_ | refine blk_alloc ?_ _)); refine blk_put (cs := #[.int .i64 0, .int .i64 0, .int .i64 0]) ?_ 0 _ rfl; (with_reducible repeat (first | refine blk_drewN ?_ _ | refine blk_drew ?_ | refine blk_alloc ?_ _)); exact BK634.out⟩, ⟨by repeat (first | (with_reducible first | exact HB.out | apply below_alloc | apply pw_below_drewN | apply below_drew1 | refine below_set ?_ GE621.out | refine below_set ?_ GE626.out | refine below_set ?_ GE630.out | refine below_set ?_ GE634.out) | exact HB.out)⟩⟩
    case rest =>
     clear HC25
     try clear c1
     try clear c2
     try clear p2
     try clear c3
     try clear c4
     try clear c5
     try clear c6
     try clear c7
     try clear c8
     try clear c9
     try clear c10
     try clear c11
     try clear c12
     try clear c12b0
     try clear c12b1
     try clear c13
     try clear c13b0
     try clear c13b1
     try clear c14
     try clear c23
     try clear c25
     try clear c26
     try clear c33
     try clear c34
     try clear c35
     try clear c36
     try clear c37
     try clear c38
     try clear c41
     try clear c42
     try clear c46
     try clear c47
     try clear c48
     try clear c51
     try clear c52
     try clear c52b0
     try clear c52b1
     try clear c54
     try clear c55
     try clear c55b0
     try clear c55b1
     try clear c56
     try clear c56b0
     try clear c56b1
     try clear c57
     try clear c57b0
     try clear c57b1
     try clear c58
     try clear c58b0
     try clear c58b1
     try clear c59
     try clear c60
     try clear c61
     try clear c64
     try clear c65
     try clear c68
     try clear c71
     try clear c72
     try clear c73
     try clear c76
     try clear c77
     try clear c80
     try clear c83
     try clear c84
     try clear c85
     try clear c88
     try clear c89
     try clear c92
     try clear c94
     try clear c95
     try clear c96
     try clear c99
     try clear c100
     try clear c103
     try clear c105
     try clear c106
     try clear c107
     try clear c110
     try clear c111
     try clear c114
     try clear c115
     try clear c116
     try clear c119
     try clear c120
     try clear c123
     try clear c124
     try clear c125
     try clear c128
     try clear c129
     try clear c130
     try clear hcz101_0
     try clear hcz101_1
     try clear hcz104_0
     try clear hcz104_1
     try clear hcz104_2
     try clear hcz108_0
     try clear hcz108_1
     try clear hcz112_0
     try clear hcz112_1
     try clear hcz117_0
     try clear hcz117_1
     try clear hcz121_0
     try clear hcz121_1
     try clear hcz126_0
     try clear hcz126_1
     try clear hcz131_0
     try clear hcz131_1
     try clear hcz33_0
     try clear hcz33_1
     try clear hcz38_0
     try clear hcz38_1
     try clear hcz43_0
     try clear hcz43_1
     try clear hcz43_2
     try clear hcz49_0
     try clear hcz49_1
     try clear hcz49_2
     try clear hcz62_0
     try clear hcz62_1
     try clear hcz66_0
     try clear hcz66_1
     try clear hcz69_0
     try clear hcz69_1
     try clear hcz69_2
     try clear hcz70_0
     try clear hcz70_1
     try clear hcz70_2
     try clear hcz74_0
     try clear hcz74_1
     try clear hcz78_0
     try clear hcz78_1
     try clear hcz81_0
     try clear hcz81_1
     try clear hcz81_2
     try clear hcz82_0
     try clear hcz82_1
     try clear hcz82_2
     try clear hcz86_0
     try clear hcz86_1
     try clear hcz90_0
     try clear hcz90_1
     try clear hcz93_0
     try clear hcz93_1
     try clear hcz93_2
     try clear hcz97_0
     try clear hcz97_1
     try clear hfz101_0
     try clear hfz101_1
     try clear hfz104_0
     try clear hfz104_1
     try clear hfz104_2
     try clear hfz108_0
     try clear hfz108_1
     try clear hfz112_0
     try clear hfz112_1
     try clear hfz117_0
     try clear hfz117_1
     try clear hfz121_0
     try clear hfz121_1
     try clear hfz126_0
     try clear hfz126_1
     try clear hfz131_0
     try clear hfz131_1
     try clear hfz33_0
     try clear hfz33_1
     try clear hfz38_0
     try clear hfz38_1
     try clear hfz43_0
     try clear hfz43_1
     try clear hfz43_2
     try clear hfz49_0
     try clear hfz49_1
     try clear hfz49_2
     try clear hfz62_0
     try clear hfz62_1
     try clear hfz66_0
     try clear hfz66_1
     try clear hfz69_0
     try clear hfz69_1
     try clear hfz69_2
     try clear hfz70_0
     try clear hfz70_1
     try clear hfz70_2
     try clear hfz74_0
     try clear hfz74_1
     try clear hfz78_0
     try clear hfz78_1
     try clear hfz81_0
     try clear hfz81_1
     try clear hfz81_2
     try clear hfz82_0
     try clear hfz82_1
     try clear hfz82_2
     try clear hfz86_0
     try clear hfz86_1
     try clear hfz90_0
     try clear hfz90_1
     try clear hfz93_0
     try clear hfz93_1
     try clear hfz93_2
     try clear hfz97_0
     try clear hfz97_1
     try clear p2
     obtain ⟨kq, x25_24, rfl, HA, HJ24, HO_622000, HO_627000, BK621, BK626, BK630, BK634, HB⟩ := hcut
     cases kq with
     | zero => exact absurd HA.out (by simp [l9_PivotBoundsAsSpecified.j1])
     | succ kj24 =>
      have H := HA.out
      clear HA
      simp only [l9_PivotBoundsAsSpecified.j1] at H
      replace H := Option.bind_eq_some_iff.mp H
      obtain ⟨t637, A1330, H⟩ := H
      replace H : (if t637 = true then (if x25_24 = true then ((pivot_Valid.f kj24 l3).bind fun t638 => ((r9_Valid.f kj24 l3).bind fun t639 => (if (t638 == t639) = true then ((pivot_In.f kj24 l3 l5).bind fun t640 => ((r9_In.f kj24 l3 l5).bind fun t641 => (some (t640 == t641)))) else (some false)))) else (some false)) else (some false)) = some r := H
      have A133 := Aside0.mk A1330
      clear A1330
      by_cases c134 : t637 = true
      ·subst c134
       have H1 : (if x25_24 = true then ((pivot_Valid.f kj24 l3).bind fun t638 => ((r9_Valid.f kj24 l3).bind fun t639 => (if (t638 == t639) = true then ((pivot_In.f kj24 l3 l5).bind fun t640 => ((r9_In.f kj24 l3 l5).bind fun t641 => (some (t640 == t641)))) else (some false)))) else (some false)) = some r := by rw [if_pos rfl] at H; exact H
       clear H
       have H := H1
       clear H1
       by_cases c135 : x25_24 = true
       ·subst c135
        have H1 : ((pivot_Valid.f kj24 l3).bind fun t638 => ((r9_Valid.f kj24 l3).bind fun t639 => (if (t638 == t639) = true then ((pivot_In.f kj24 l3 l5).bind fun t640 => ((r9_In.f kj24 l3 l5).bind fun t641 => (some (t640 == t641)))) else (some false)))) = some r := by rw [if_pos rfl] at H; exact H
        clear H
        have H := H1
        clear H1
        replace H := Option.bind_eq_some_iff.mp H
        obtain ⟨t638, A1360, H⟩ := H
        replace H : ((r9_Valid.f kj24 l3).bind fun t639 => (if (t638 == t639) = true then ((pivot_In.f kj24 l3 l5).bind fun t640 => ((r9_In.f kj24 l3 l5).bind fun t641 => (some (t640 == t641)))) else (some false))) = some r := H
        have A136 := Aside0.mk A1360
        clear A1360
        replace H := Option.bind_eq_some_iff.mp H
        obtain ⟨t639, A1370, H⟩ := H
        replace H : (if (t638 == t639) = true then ((pivot_In.f kj24 l3 l5).bind fun t640 => ((r9_In.f kj24 l3 l5).bind fun t641 => (some (t640 == t641)))) else (some false)) = some r := H
        have A137 := Aside0.mk A1370
        clear A1370
        by_cases c138 : (t638 == t639) = true
        ·rw [if_pos c138] at H
         have c138b0 : (t638 == t639) = true := c138
         (try (have c138b1 : decide (t638 = t639) = true := by simpa using c138))
         (try (have c138b2 : (t638 == t639) = true := by simpa using c138))
         clear c138
         replace H := Option.bind_eq_some_iff.mp H
         obtain ⟨t640, A1390, H⟩ := H
         replace H : ((r9_In.f kj24 l3 l5).bind fun t641 => (some (t640 == t641))) = some r := H
         have A139 := Aside0.mk A1390
         clear A1390
         replace H := Option.bind_eq_some_iff.mp H
         obtain ⟨t641, A1400, H⟩ := H
         replace H : (some (t640 == t641)) = some r := H
         have A140 := Aside0.mk A1400
         clear A1400
         obtain rfl := Option.some.inj H
         go_wp2_with (first | ((with_reducible refine gate_callee (f := 10) rfl ?_); refine goesL_ (some 138) rfl rfl Try.func10 (by kernel_rfl) rfl #[] rfl (by (try simp only [List.map_toArray, List.map_cons, List.map_nil]); first | done | rfl | (simp only [List.length_drop, List.length_take]; rfl)) ?_; (with_reducible refine (l9_sanity.calls kj24  true _ A133.out (by first | rfl | exact HT.out)).mono ?_); rintro e w141 ⟨rfl, hb⟩; refine ⟨_, rfl, ?_⟩; have n0_ := Aside0.mk (Kd.R_below (by (with_reducible repeat (first | apply Kd.R_alloc | apply Kd.R_drewN | apply Kd.R_drew)); exact HO_622000.out) hb); have n1_ := Aside0.mk (Kd.R_below (by (with_reducible repeat (first | apply Kd.R_alloc | apply Kd.R_drewN | apply Kd.R_drew)); exact HO_627000.out) hb); have n2_ := Aside0.mk (blk_below (g := gb621) (o := .cells #[.slice Ao32 t617.length co32, .int .i64 t620] 68 (0, 0)) (by (with_reducible repeat (first | refine blk_drewN ?_ _ | refine blk_drew ?_ | refine blk_alloc ?_ _)); exact BK621.out) hb); have n3_ := Aside0.mk (blk_below (g := gb626) (o := .cells #[.slice Ao36 t622.length co36, .int .i64 t625] 68 (0, 0)) (by (with_reducible repeat (first | refine blk_drewN ?_ _ | refine blk_drew ?_ | refine blk_alloc ?_ _)); exact BK626.out) hb); have n4_ := Aside0.mk (blk_below (g := gb630) (o := .cells #[.int .i64 t627, .int .i64 t628, .int .i64 t629] 39 (0, 0)) (by (with_reducible repeat (first | refine blk_drewN ?_ _ | refine blk_drew ?_ | refine blk_alloc ?_ _)); exact BK630.out) hb); have n5_ := Aside0.mk (blk_below (g := gb634) (o := .cells #[.int .i64 t631, .int .i64 t632, .int .i64 t633] 39 (0, 0)) (by (with_reducible repeat (first | refine blk_drewN ?_ _ | refine blk_drew ?_ | refine blk_alloc ?_ _)); exact BK634.out) hb); have n6_ := Aside0.mk (below_step (by repeat (first | (with_reducible first | exact HB.out | apply below_alloc | apply pw_below_drewN | apply below_drew1 | refine below_set ?_ GE621.out | refine below_set ?_ GE626.out | refine below_set ?_ GE630.out | refine below_set ?_ GE634.out) | exact HB.out)) hb); clear HO_622000; clear HO_627000; clear BK621; clear BK626; clear BK630; clear BK634; clear HB; have HO_622000 := n0_; have HO_627000 := n1_; have BK621 := n2_; have BK626 := n3_; have BK630 := n4_; have BK634 := n5_; have HB := n6_; clear n0_ n1_ n2_ n3_ n4_ n5_ n6_; (try clear hb); (try clear hb2); (try clear hk); (try clear hi)) | (go_at_call 24; (with_reducible refine (pivot_Valid.calls kj24 _ _ l3 t638 _ ?side1 ?side2 A136.out).mono ?_); (case side1 => repeat (first | exact (Kd.C_below HR3.out HB.out) | (with_reducible refine Kd.C_alloc ?_ _) | (with_reducible refine Kd.C_drewN ?_ _) | (with_reducible refine Kd.C_drew ?_))); (case side2 => exact HC3.out); rintro e w142 ⟨rfl, hb⟩; have n0_ := Aside0.mk (Kd.R_below (by (with_reducible repeat (first | apply Kd.R_alloc | apply Kd.R_drewN | apply Kd.R_drew)); exact HO_622000.out) hb); have n1_ := Aside0.mk (Kd.R_below (by (with_reducible repeat (first | apply Kd.R_alloc | apply Kd.R_drewN | apply Kd.R_drew)); exact HO_627000.out) hb); have n2_ := Aside0.mk (blk_below (g := gb621) (o := .cells #[.slice Ao32 t617.length co32, .int .i64 t620] 68 (0, 0)) (by (with_reducible repeat (first | refine blk_drewN ?_ _ | refine blk_drew ?_ | refine blk_alloc ?_ _)); exact BK621.out) hb); have n3_ := Aside0.mk (blk_below (g := gb626) (o := .cells #[.slice Ao36 t622.length co36, .int .i64 t625] 68 (0, 0)) (by (with_reducible repeat (first | refine blk_drewN ?_ _ | refine blk_drew ?_ | refine blk_alloc ?_ _)); exact BK626.out) hb); have n4_ := Aside0.mk (blk_below (g := gb630) (o := .cells #[.int .i64 t627, .int .i64 t628, .int .i64 t629] 39 (0, 0)) (by (with_reducible repeat (first | refine blk_drewN ?_ _ | refine blk_drew ?_ | refine blk_alloc ?_ _)); exact BK630.out) hb); have n5_ := Aside0.mk (blk_below (g := gb634) (o := .cells #[.int .i64 t631, .int .i64 t632, .int .i64 t633] 39 (0, 0)) (by (with_reducible repeat (first | refine blk_drewN ?_ _ | refine blk_drew ?_ | refine blk_alloc ?_ _)); exact BK634.out) hb); have n6_ := Aside0.mk (below_step (by repeat (first | (with_reducible first | exact HB.out | apply below_alloc | apply pw_below_drewN | apply below_drew1 | refine below_set ?_ GE621.out | refine below_set ?_ GE626.out | refine below_set ?_ GE630.out | refine below_set ?_ GE634.out) | exact HB.out)) hb); clear HO_622000; clear HO_627000; clear BK621; clear BK626; clear BK630; clear BK634; clear HB; have HO_622000 := n0_; have HO_627000 := n1_; have BK621 := n2_; have BK626 := n3_; have BK630 := n4_; have BK634 := n5_; have HB := n6_; clear n0_ n1_ n2_ n3_ n4_ n5_ n6_; (try clear hb); (try clear hb2); (try clear hk); (try clear hi)) | (go_at_call 39; (with_reducible refine (r9_Valid.calls kj24 _ _ l3 t639 _ ?side1 ?side2 A137.out).mono ?_); (case side1 => repeat (first | exact (Kd.C_below HR3.out HB.out) | (with_reducible refine Kd.C_alloc ?_ _) | (with_reducible refine Kd.C_drewN ?_ _) | (with_reducible refine Kd.C_drew ?_))); (case side2 => exact HC3.out); rintro e w' ⟨rfl, ⟨nd, rfl⟩⟩) | (go_at_call 28; (with_reducible refine (pivot_In.calls kj24 _ _ l3 _ _ l5 t640 _ ?side1 ?side2 ?side3 ?side4 A139.out).mono ?_); (case side1 => repeat (first | exact (Kd.C_below HR3.out (by repeat (first | (with_reducible first | exact HB.out | apply below_alloc | apply pw_below_drewN | apply below_drew1 | refine below_set ?_ GE621.out | refine below_set ?_ GE626.out | refine below_set ?_ GE630.out | refine below_set ?_ GE634.out) | exact HB.out))) | (with_reducible refine Kd.C_alloc ?_ _) | (with_reducible refine Kd.C_drewN ?_ _) | (with_reducible refine Kd.C_drew ?_))); (case side2 => exact HC3.out); (case side3 => repeat (first | exact (Kd.C_below HR5.out (by repeat (first | (with_reducible first | exact HB.out | apply below_alloc | apply pw_below_drewN | apply below_drew1 | refine below_set ?_ GE621.out | refine below_set ?_ GE626.out | refine below_set ?_ GE630.out | refine below_set ?_ GE634.out) | exact HB.out))) | (with_reducible refine Kd.C_alloc ?_ _) | (with_reducible refine Kd.C_drewN ?_ _) | (with_reducible refine Kd.C_drew ?_))); (case side4 => exact HC5.out); rintro e w143 ⟨rfl, hb⟩; have n0_ := Aside0.mk (Kd.R_below (by (with_reducible repeat (first | apply Kd.R_alloc | apply Kd.R_drewN | apply Kd.R_drew)); exact HO_622000.out) hb); have n1_ := Aside0.mk (Kd.R_below (by (with_reducible repeat (first | apply Kd.R_alloc | apply Kd.R_drewN | apply Kd.R_drew)); exact HO_627000.out) hb); have n2_ := Aside0.mk (blk_below (g := gb621) (o := .cells #[.slice Ao32 t617.length co32, .int .i64 t620] 68 (0, 0)) (by (with_reducible repeat (first | refine blk_drewN ?_ _ | refine blk_drew ?_ | refine blk_alloc ?_ _)); exact BK621.out) hb); have n3_ := Aside0.mk (blk_below (g := gb626) (o := .cells #[.slice Ao36 t622.length co36, .int .i64 t625] 68 (0, 0)) (by (with_reducible repeat (first | refine blk_drewN ?_ _ | refine blk_drew ?_ | refine blk_alloc ?_ _)); exact BK626.out) hb); have n4_ := Aside0.mk (blk_below (g := gb630) (o := .cells #[.int .i64 t627, .int .i64 t628, .int .i64 t629] 39 (0, 0)) (by (with_reducible repeat (first | refine blk_drewN ?_ _ | refine blk_drew ?_ | refine blk_alloc ?_ _)); exact BK630.out) hb); have n5_ := Aside0.mk (blk_below (g := gb634) (o := .cells #[.int .i64 t631, .int .i64 t632, .int .i64 t633] 39 (0, 0)) (by (with_reducible repeat (first | refine blk_drewN ?_ _ | refine blk_drew ?_ | refine blk_alloc ?_ _)); exact BK634.out) hb); have n6_ := Aside0.mk (below_step (by repeat (first | (with_reducible first | exact HB.out | apply below_alloc | apply pw_below_drewN | apply below_drew1 | refine below_set ?_ GE621.out | refine below_set ?_ GE626.out | refine below_set ?_ GE630.out | refine below_set ?_ GE634.out) | exact HB.out)) hb); clear HO_622000; clear HO_627000; clear BK621; clear BK626; clear BK630; clear BK634; clear HB; have HO_622000 := n0_; have HO_627000 := n1_; have BK621 := n2_; have BK626 := n3_; have BK630 := n4_; have BK634 := n5_; have HB := n6_; clear n0_ n1_ n2_ n3_ n4_ n5_ n6_; (try clear hb); (try clear hb2); (try clear hk); (try clear hi)) | (go_at_call 40; (with_reducible refine (r9_In.calls kj24 _ _ l3 _ _ l5 t641 _ ?side1 ?side2 ?side3 ?side4 A140.out).mono ?_); (case side1 => repeat (first | exact (Kd.C_below HR3.out HB.out) | (with_reducible refine Kd.C_alloc ?_ _) | (with_reducible refine Kd.C_drewN ?_ _) | (with_reducible refine Kd.C_drew ?_))); (case side2 => exact HC3.out); (case side3 => repeat (first | exact (Kd.C_below HR5.out HB.out) | (with_reducible refine Kd.C_alloc ?_ _) | (with_reducible refine Kd.C_drewN ?_ _) | (with_reducible refine Kd.C_drew ?_))); (case side4 => exact HC5.out); rintro e w' ⟨rfl, ⟨nd, rfl⟩⟩))
         go_ret
         exact ⟨by first | rfl | (simp [errW_none, errW_some] <;> rfl) | (simp [*, errW_none, errW_some] <;> rfl), by repeat (first | (with_reducible first | exact HB.out | apply below_alloc | apply pw_below_drewN | apply below_drew1 | refine below_set ?_ GE621.out | refine below_set ?_ GE626.out | refine below_set ?_ GE630.out | refine below_set ?_ GE634.out) | exact HB.out)⟩
        ·rw [if_neg c138] at H
         have c138b0 : (t638 == t639) = false := by simpa using c138
         (try (have c138b1 : decide (t638 = t639) = false := by simpa using c138))
         (try (have c138b2 : (t638 == t639) = false := by simpa using c138))
         (try (have c138b3 : ¬ (t638 = t639) := by simpa using c138))
         clear c138
         exact absurd (Option.some.inj H) (by rw [HT.out]; decide)
       ·replace c135 := Bool.eq_false_iff.mpr c135
        subst c135
        have H1 : (some false) = some r := by rw [if_neg (show ¬ (false = true) by decide)] at H; exact H
        clear H
        have H := H1
        clear H1
        exact absurd (Option.some.inj H) (by rw [HT.out]; decide)
      ·replace c134 := Bool.eq_false_iff.mpr c134
       subst c134
       have H1 : (some false) = some r := by rw [if_neg (show ¬ (false = true) by decide)] at H; exact H
       clear H
       have H := H1
       clear H1
       exact absurd (Option.some.inj H) (by rw [HT.out]; decide)
end Go.Proofs.Ytoidpkpgeeeggaa.Q
end
section
set_option linter.unusedVariables false
namespace Go.Proofs.Ytoidpkpgeeeggaa.Low05
open Go.RowKit Go.Proofs.Ytoidpkpgeeeggaa.Q Go.Proofs.YtoidpkpgeeeggaaW.PrintWords Plain
/-- the binary digits of a root: with j digits to come, the root is from x on, before x + 2^j -/
theorem digits (n : Int) (hn : 0 ≤ n) (hn2 : n ≤ 1152921504606846976) (j : Nat) : j ≤ 31 → ∀ x : Int, 0 ≤ x → x + 2 ^ j ≤ 2147483648 → x * x ≤ n → n < (x + 2 ^ j) * (x + 2 ^ j) →
    Ev (fun k => r5_Isqrt.l0 k n x ((j : Int) - 1)) (root n) := by
  induction j with
  | zero =>
    intro _ x h0 _ h1 h2
    refine ev_succ ?_
    simp only [r5_Isqrt.l0]
    refine ev_neg (by omega) (ev_some ?_)
    exact (root_unique hn h0 h1 (by simpa using h2)).symm
  | succ j ih =>
    intro hj x h0 hb h1 h2
    have hp : (2 : Int) ^ (j + 1) = 2 * 2 ^ j := by rw [Int.pow_succ, Int.mul_comm]
    have hpn : ((2 : Int) ^ j) = ((2 ^ j : Nat) : Int) := by push_cast; rfl
    have hpos : 0 < (2 : Int) ^ j := by rw [hpn]; have := Nat.two_pow_pos j; omega
    have hs : shl .i64 1 (j : Int) = (2 : Int) ^ j := by rw [metric_shl_pow j (by omega), hpn]
    refine ev_succ ?_
    simp only [r5_Isqrt.l0]
    rw [show (((j + 1 : Nat) : Int) - 1) = (j : Int) by omega, hs]
    rw [hp] at hb h2
    generalize (2 : Int) ^ j = z at *
    have hx := sq_le_sq (a := x + z) (b := 2147483648) (by omega) (by omega)
    have hx0 := sq_nonneg (x + z)
    rw [w64 (x := x + z) (by omega) (by omega), w64 (x := (x + z) * (x + z)) (by omega) (by omega), w64 (x := (j : Int) - 1) (by omega) (by omega)]
    refine ev_pos (by omega) (ev_pos (by omega) ?_)
    by_cases hc : (x + z) * (x + z) ≤ n
    · exact ev_pos hc (ih (by omega) (x + z) (by omega) (by omega) hc (by rw [show x + z + z = x + 2 * z by omega]; exact h2))
    · exact ev_neg hc (ih (by omega) x h0 (by omega) h1 (by omega))
theorem isqrt_ev {n : Int} (hn : 0 ≤ n) (hn2 : n ≤ 1152921504606846976) : Ev (fun k => r5_Isqrt.f k n) (root n) := by
  unfold r5_Isqrt.f
  refine ev_neg (by omega) (ev_succ ?_)
  simp only [r5_Isqrt.j0]
  have := digits n hn hn2 31 (by omega) 0 (by omega) (by decide) (by omega) (by show n < (0 + 2147483648) * (0 + 2147483648); omega)
  exact this
theorem mul4_le {a b : Int} (ha : isKey a) (hb : isKey b) : 4 * a * b ≤ 72057594037927936 := by
  have := mul_key ha hb
  rw [four_mul]; omega
theorem low_ev (m : Int) {a b : Int} (ha : isKey a) (hb : isKey b) : Ev (fun k => r5_Low.f k m a b) (low m a b) := by
  have h0 := mul4_nonneg ha hb
  have h1 := mul4_le ha hb
  have r0 := root_nonneg (4 * a * b)
  have r1 := root4_le ha hb
  have a0 := ha.1; have a1 := ha.2; have b0 := hb.1; have b1 := hb.2
  unfold r5_Low.f low
  rw [w64 (x := 4 * a) (by omega) (by omega), w64 (x := 4 * a * b) (by omega) (by omega), w64 (x := a + b) (by omega) (by omega)]
  by_cases hm : m = 2
  · refine ev_pos hm (ev_bind (isqrt_ev h0 (by omega)) (ev_some ?_))
    rw [if_pos hm, w64 (by omega) (by omega)]
  · refine ev_neg hm ?_
    rw [if_neg hm]
    by_cases h : a < b
    · exact ev_pos h (ev_some (by rw [if_pos h, w64 (by omega) (by omega)]))
    · exact ev_neg h (ev_some (by rw [if_neg h, w64 (by omega) (by omega)]))
theorem high_ev (m : Int) {a b : Int} (ha : isKey a) (hb : isKey b) : Ev (fun k => r5_High.f k m a b) (high m a b) := by
  have h0 := mul4_nonneg ha hb
  have h1 := mul4_le ha hb
  have r0 := root_nonneg (4 * a * b)
  have r1 := root4_le ha hb
  have a0 := ha.1; have a1 := ha.2; have b0 := hb.1; have b1 := hb.2
  unfold r5_High.f high
  rw [w64 (x := 4 * a) (by omega) (by omega), w64 (x := 4 * a * b) (by omega) (by omega), w64 (x := a + b) (by omega) (by omega)]
  by_cases hm : m = 2
  · refine ev_pos hm (ev_bind (isqrt_ev h0 (by omega)) ?_)
    rw [if_pos hm, w64 (by omega) (by omega)]
    exact ev_ite (fun _ => ev_some rfl) (fun _ => ev_some rfl)
  · refine ev_neg hm ?_
    rw [if_neg hm]
    exact ev_ite (fun _ => ev_some rfl) (fun _ => ev_some rfl)
end Go.Proofs.Ytoidpkpgeeeggaa.Low05
end
section
set_option linter.unusedVariables false
namespace Go.Proofs.Ytoidpkpgeeeggaa.Gap05
open Go.RowKit Go.Proofs.Ytoidpkpgeeeggaa.Q Go.Proofs.YtoidpkpgeeeggaaW.PrintWords Plain Go.Proofs.Ytoidpkpgeeeggaa.Low05
theorem gap_ev (m : Int) {lo hi a : Int} (ha : isKey a) (hl : isKey lo) (hh : isKey hi) (h : lo ≤ hi) : Ev (fun k => r5_Gap.f k m lo hi a) (gap m lo hi a) := by
  unfold r5_Gap.f gap
  by_cases c1 : a < lo
  · rw [clamp_lo c1 h]
    exact ev_pos c1 (ev_bind (low_ev m ha hl) (ev_some rfl))
  · refine ev_neg c1 ?_
    by_cases c2 : a > hi
    · rw [clamp_hi c2 h]
      exact ev_pos c2 (ev_bind (low_ev m ha hh) (ev_some rfl))
    · rw [clamp_in (by omega) (by omega), low_self m a ha]
      exact ev_neg c2 (ev_some rfl)
theorem reach_ev (m : Int) {lo hi a : Int} (ha : isKey a) (hl : isKey lo) (hh : isKey hi) (h : lo ≤ hi) : Ev (fun k => r5_Reach.f k m lo hi a) (high m a hi) := by
  unfold r5_Reach.f
  refine ev_bind (high_ev m ha hl) (ev_bind (high_ev m ha hh) ?_)
  have := high_mono m ha hl h
  exact ev_neg (by omega) (ev_some rfl)
end Go.Proofs.Ytoidpkpgeeeggaa.Gap05
end
section
set_option linter.unusedVariables false
namespace Go.Proofs.Ytoidpkpgeeeggaa.EvShell
open Go.RowKit Go.Proofs.Ytoidpkpgeeeggaa.Q Go.Proofs.YtoidpkpgeeeggaaW.PrintWords Plain
theorem rdT (l : List S57) (i : Nat) : rd_T57 l (i : Int) = l.getD i z57 := by unfold rd_T57; rw [Int.toNat_natCast]
theorem valid_iff (l : List S57) : validSh l ↔ (∀ i, i < l.length → 0 ≤ (rd_T57 l (i : Int)).f0 ∧ (rd_T57 l (i : Int)).f0 ≤ (rd_T57 l (i : Int)).f1 ∧ (rd_T57 l (i : Int)).f1 ≤ 134217728) ∧ l.length ≤ 8 := by
  unfold validSh
  rw [all_lt l z57]
  simp only [rdT]
theorem good_iff (l : List Int) : keysGood l ↔ ∀ i, i < l.length → isKey (rd l (i : Int)) := by
  unfold keysGood
  rw [all_lt l 0]
  simp only [rd, Int.toNat_natCast]
theorem same_self (a : List S57) (ha : a.length ≤ 4611686018427387904) : Ev (fun k => r9_SameShells.f k a a) true := by
  unfold r9_SameShells.f
  refine ev_pos rfl ?_
  refine ev_count0 (G := fun i k => r9_SameShells.l0 k a a (i : Int)) (n := a.length) (fun i hi h => ?_) ?_
  · refine ev_succ ?_
    simp only [r9_SameShells.l0]
    refine ev_pos (by omega) (ev_pos (by omega) (ev_pos (by omega) (ev_neg (by simp) ?_)))
    rw [wsuc i (by omega)]
    exact h
  · refine ev_succ ?_
    simp only [r9_SameShells.l0]
    exact ev_neg (by omega) (ev_some rfl)
theorem rvalid_ev (l : List S57) (hl : l.length ≤ 9223372036854775807) : Ev (fun k => r9_Valid.f k l) (decide (validSh l)) := by
  unfold r9_Valid.f
  have hv := valid_iff l
  refine ev_count (G := fun i k => r9_Valid.l0 k l (i : Int)) (n := l.length)
    (fun i => ∀ j, j < i → 0 ≤ (rd_T57 l (j : Int)).f0 ∧ (rd_T57 l (j : Int)).f0 ≤ (rd_T57 l (j : Int)).f1 ∧ (rd_T57 l (j : Int)).f1 ≤ 134217728) (fun j hj => by omega) (fun i hi hI h => ?_) (fun hI => ?_)
  · refine ev_succ ?_
    simp only [r9_Valid.l0]
    refine ev_pos (by omega) (ev_pos (by omega) ?_)
    have bad : ¬ (0 ≤ (rd_T57 l (i : Int)).f0 ∧ (rd_T57 l (i : Int)).f0 ≤ (rd_T57 l (i : Int)).f1 ∧ (rd_T57 l (i : Int)).f1 ≤ 134217728) → false = decide (validSh l) := fun hb => by
      symm; rw [decide_eq_false_iff_not, hv]; exact fun k => hb (k.1 i hi)
    by_cases c1 : (rd_T57 l (i : Int)).f0 < 0
    · exact ev_pos c1 (ev_some (bad (by omega)))
    refine ev_neg c1 ?_
    by_cases c2 : (rd_T57 l (i : Int)).f0 > (rd_T57 l (i : Int)).f1
    · exact ev_pos c2 (ev_some (bad (by omega)))
    refine ev_neg c2 ?_
    by_cases c3 : (rd_T57 l (i : Int)).f1 > 134217728
    · exact ev_pos c3 (ev_some (bad (by omega)))
    refine ev_neg c3 ?_
    rw [wsuc i (by omega)]
    refine h (fun j hj => ?_)
    rcases Nat.lt_succ_iff_lt_or_eq.1 hj with h1 | rfl
    · exact hI j h1
    · omega
  · refine ev_succ ?_
    simp only [r9_Valid.l0]
    refine ev_neg (by omega) (ev_some ?_)
    rw [Bool.eq_iff_iff, decide_eq_true_eq, decide_eq_true_eq, hv]
    exact ⟨fun h => ⟨hI, by omega⟩, fun h => by have := h.2; omega⟩
/-- the shells that have what two lists have -/
def joinAt (a b : List S57) (i : Nat) : S57 := ⟨mn (rd_T57 a (i : Int)).f0 (rd_T57 b (i : Int)).f0, mx (rd_T57 a (i : Int)).f1 (rd_T57 b (i : Int)).f1⟩
def joinOf (a b : List S57) : List S57 := (List.range a.length).map (joinAt a b)
def joins (a b : List S57) : Prop := validSh a ∧ validSh b ∧ a.length = b.length
instance (a b : List S57) : Decidable (joins a b) := by unfold joins; infer_instance
theorem at_valid {a : List S57} (h : validSh a) {i : Nat} (hi : i < a.length) : 0 ≤ (rd_T57 a (i : Int)).f0 ∧ (rd_T57 a (i : Int)).f0 ≤ (rd_T57 a (i : Int)).f1 ∧ (rd_T57 a (i : Int)).f1 ≤ 134217728 := ((valid_iff a).1 h).1 i hi
theorem join_ev {a b : List S57} (ha : a.length ≤ 4611686018427387904) (hb : b.length ≤ 4611686018427387904) : Ev (fun k => pivot_Join.f k a b) (if joins a b then (joinOf a b, 0) else ([], 1)) := by
  have no : ¬ joins a b → Ev (fun k => pivot_Join.j0 k a b true) (if joins a b then (joinOf a b, 0) else ([], 1)) := fun h => by
    refine ev_succ ?_
    simp only [pivot_Join.j0]
    exact ev_pos (by first | rfl | trivial) (ev_some (if_neg h).symm)
  refine ev_bind (pivot_Valid.ev a ha) ?_
  by_cases h1 : validSh a
  · refine ev_pos (by simpa using h1) (ev_bind (pivot_Valid.ev b hb) ?_)
    by_cases h2 : validSh b
    · refine ev_pos (by simpa using h2) ?_
      by_cases h3 : a.length = b.length
      · have hj : joins a b := ⟨h1, h2, h3⟩
        rw [if_pos hj, show ((a.length : Int) != (b.length : Int)) = false by simp [h3]]
        refine ev_succ ?_
        simp only [pivot_Join.j0]
        refine ev_neg (by simp) ?_
        have h8 := h1.2
        refine ev_cast (ev_count0 (G := fun i k => pivot_Join.l0 k b ((List.range i).map (joinAt a b)) a (a.length : Int) (i : Int)) (n := a.length) (r := (joinOf a b, 0)) (fun i hi h => ?_) ?_) rfl
        · refine ev_succ ?_
          simp only [pivot_Join.l0]
          have va := at_valid h1 hi
          have vb := at_valid h2 (i := i) (by omega)
          refine ev_pos (by omega) (ev_pos (by omega) (ev_pos (by omega) ?_))
          refine ev_ob (show pivot_of.f _ _ = some (_, _) from rfl) (ev_pos (by omega) ?_)
          refine ev_ob (show pivot_pair_int_with.f _ _ _ = some (_, _) from rfl) (ev_ob (show pivot_pair_int_with.f _ _ _ = some (_, _) from rfl) (ev_pos (by simp; omega) ?_))
          rw [wsuc i (by omega)]
          refine ev_cast ?_ rfl
          have e : (List.range (i + 1)).map (joinAt a b) = (List.range i).map (joinAt a b) ++ [(⟨mn (mn (rd_T57 a (i : Int)).f0 (rd_T57 b (i : Int)).f0) (rd_T57 b (i : Int)).f1, mx (mx (rd_T57 a (i : Int)).f1 (rd_T57 b (i : Int)).f0) (rd_T57 b (i : Int)).f1⟩ : S57)] := by
            rw [List.range_succ, List.map_append, List.map_singleton]
            congr 2
            unfold joinAt
            congr 1
            · unfold mn; split <;> split <;> omega
            · unfold mx; split <;> split <;> (try split) <;> omega
          rw [e] at h
          exact h
        · refine ev_succ ?_
          simp only [pivot_Join.l0]
          exact ev_neg (by omega) (ev_some rfl)
      · have hj : ¬ joins a b := fun h => h3 h.2.2
        rw [show ((a.length : Int) != (b.length : Int)) = true by rw [bne_iff_ne]; omega]
        exact no hj
    · exact ev_neg (by simpa using h2) (no (fun h => h2 h.2.1))
  · exact ev_neg (by simpa using h1) (no (fun h => h1 h.1))
theorem rjoin_ev {a b : List S57} (ha : a.length ≤ 4611686018427387904) (hb : b.length ≤ 4611686018427387904) : Ev (fun k => r9_Join.f k a b) (if joins a b then (joinOf a b, 0) else ([], 1)) := by
  have no : ¬ joins a b → Ev (fun k => r9_Join.j0 k a b true) (if joins a b then (joinOf a b, 0) else ([], 1)) := fun h => by
    refine ev_succ ?_
    simp only [r9_Join.j0]
    exact ev_pos (by first | rfl | trivial) (ev_some (if_neg h).symm)
  refine ev_bind (rvalid_ev a (by omega)) ?_
  by_cases h1 : validSh a
  · refine ev_pos (by simpa using h1) (ev_bind (rvalid_ev b (by omega)) ?_)
    by_cases h2 : validSh b
    · refine ev_pos (by simpa using h2) ?_
      by_cases h3 : a.length = b.length
      · have hj : joins a b := ⟨h1, h2, h3⟩
        rw [if_pos hj, show ((a.length : Int) != (b.length : Int)) = false by simp [h3]]
        refine ev_succ ?_
        simp only [r9_Join.j0]
        refine ev_neg (by simp) ?_
        have h8 := h1.2
        refine ev_cast (ev_count0 (G := fun i k => r9_Join.l0 k a b ((List.range i).map (joinAt a b)) (i : Int)) (n := a.length) (r := (joinOf a b, 0)) (fun i hi h => ?_) ?_) rfl
        · refine ev_succ ?_
          simp only [r9_Join.l0]
          refine ev_pos (by omega) (ev_pos (by omega) (ev_pos (by omega) (ev_pos (by simp; omega) ?_)))
          rw [wsuc i (by omega)]
          rw [List.range_succ, List.map_append, List.map_singleton] at h
          exact h
        · refine ev_succ ?_
          simp only [r9_Join.l0]
          exact ev_neg (by omega) (ev_some rfl)
      · have hj : ¬ joins a b := fun h => h3 h.2.2
        rw [show ((a.length : Int) != (b.length : Int)) = true by rw [bne_iff_ne]; omega]
        exact no hj
    · exact ev_neg (by simpa using h2) (no (fun h => h2 h.2.1))
  · exact ev_neg (by simpa using h1) (no (fun h => h1 h.1))
/-- keys in shells -/
def inSh (l : List S57) (ks : List Int) : Prop := validSh l ∧ ks.length = l.length ∧ ∀ i, i < l.length → (rd_T57 l (i : Int)).f0 ≤ rd ks (i : Int) ∧ rd ks (i : Int) ≤ (rd_T57 l (i : Int)).f1
instance (l : List S57) (ks : List Int) : Decidable (inSh l ks) := by unfold inSh; infer_instance
theorem has_is (lo hi x : Int) (h : lo ≤ hi) : pivot_pair_int_has.f lo hi x = some (decide (lo ≤ x ∧ x ≤ hi)) := by
  unfold pivot_pair_int_has.f pivot_pair_int_with.f
  refine Plain.bind_of rfl ?_
  congr 1
  rw [Bool.eq_iff_iff, Bool.and_eq_true, beq_iff_eq, beq_iff_eq, decide_eq_true_eq]
  unfold mn mx
  dsimp only
  split <;> split <;> omega
theorem in_ev {l : List S57} {ks : List Int} (hl : l.length ≤ 4611686018427387904) : Ev (fun k => pivot_In.f k l ks) (decide (inSh l ks)) := by
  have no : ¬ inSh l ks → Ev (fun k => pivot_In.j0 k l ks true) (decide (inSh l ks)) := fun h => by
    refine ev_succ ?_
    simp only [pivot_In.j0]
    exact ev_pos (by first | rfl | trivial) (ev_some (decide_eq_false h).symm)
  refine ev_bind (pivot_Valid.ev l hl) ?_
  by_cases h1 : validSh l
  · refine ev_pos (by simpa using h1) ?_
    have h8 := h1.2
    by_cases h3 : ks.length = l.length
    · rw [show ((ks.length : Int) != (l.length : Int)) = false by simp [h3]]
      refine ev_succ ?_
      simp only [pivot_In.j0]
      refine ev_neg (by simp) ?_
      refine ev_cast (ev_count (G := fun i k => pivot_In.l0 k ks l (l.length : Int) (i : Int)) (n := l.length) (r := decide (inSh l ks)) (fun i => ∀ j, j < i → (rd_T57 l (j : Int)).f0 ≤ rd ks (j : Int) ∧ rd ks (j : Int) ≤ (rd_T57 l (j : Int)).f1) (fun j hj => by omega) (fun i hi hI h => ?_) (fun hI => ?_)) rfl
      · refine ev_succ ?_
        simp only [pivot_In.l0]
        have va := at_valid h1 hi
        refine ev_pos (by omega) (ev_pos (by omega) (ev_pos (by omega) (ev_ob (show pivot_of.f _ _ = some (_, _) from rfl) (ev_pos (by omega) (ev_ob (has_is _ _ _ va.2.1) ?_)))))
        by_cases c : (rd_T57 l (i : Int)).f0 ≤ rd ks (i : Int) ∧ rd ks (i : Int) ≤ (rd_T57 l (i : Int)).f1
        · refine ev_pos (by simpa using c) ?_
          rw [wsuc i (by omega)]
          refine h (fun j hj => ?_)
          rcases Nat.lt_succ_iff_lt_or_eq.1 hj with h1 | rfl
          · exact hI j h1
          · exact c
        · exact ev_neg (by simpa using c) (ev_some (decide_eq_false (fun h => c (h.2.2 i hi))).symm)
      · refine ev_succ ?_
        simp only [pivot_In.l0]
        exact ev_neg (by omega) (ev_some (decide_eq_true (⟨h1, h3, hI⟩ : inSh l ks)).symm)
    · rw [show ((ks.length : Int) != (l.length : Int)) = true by rw [bne_iff_ne]; omega]
      exact no (fun h => h3 h.2.1)
  · exact ev_neg (by simpa using h1) (no (fun h => h1 h.1))
theorem rin_ev {l : List S57} {ks : List Int} (hl : l.length ≤ 4611686018427387904) : Ev (fun k => r9_In.f k l ks) (decide (inSh l ks)) := by
  have no : ¬ inSh l ks → Ev (fun k => r9_In.j0 k l ks true) (decide (inSh l ks)) := fun h => by
    refine ev_succ ?_
    simp only [r9_In.j0]
    exact ev_pos (by first | rfl | trivial) (ev_some (decide_eq_false h).symm)
  refine ev_bind (rvalid_ev l (by omega)) ?_
  by_cases h1 : validSh l
  · refine ev_pos (by simpa using h1) ?_
    have h8 := h1.2
    by_cases h3 : ks.length = l.length
    · rw [show ((ks.length : Int) != (l.length : Int)) = false by simp [h3]]
      refine ev_succ ?_
      simp only [r9_In.j0]
      refine ev_neg (by simp) ?_
      refine ev_cast (ev_count (G := fun i k => r9_In.l0 k l ks (i : Int)) (n := l.length) (r := decide (inSh l ks)) (fun i => ∀ j, j < i → (rd_T57 l (j : Int)).f0 ≤ rd ks (j : Int) ∧ rd ks (j : Int) ≤ (rd_T57 l (j : Int)).f1) (fun j hj => by omega) (fun i hi hI h => ?_) (fun hI => ?_)) rfl
      · refine ev_succ ?_
        simp only [r9_In.l0]
        refine ev_pos (by omega) (ev_pos (by omega) (ev_pos (by omega) ?_))
        have bad : ¬ ((rd_T57 l (i : Int)).f0 ≤ rd ks (i : Int) ∧ rd ks (i : Int) ≤ (rd_T57 l (i : Int)).f1) → false = decide (inSh l ks) := fun c => (decide_eq_false (fun h => c (h.2.2 i hi))).symm
        by_cases c1 : rd ks (i : Int) < (rd_T57 l (i : Int)).f0
        · exact ev_pos c1 (ev_some (bad (by omega)))
        refine ev_neg c1 ?_
        by_cases c2 : rd ks (i : Int) > (rd_T57 l (i : Int)).f1
        · exact ev_pos c2 (ev_some (bad (by omega)))
        refine ev_neg c2 ?_
        rw [wsuc i (by omega)]
        refine h (fun j hj => ?_)
        rcases Nat.lt_succ_iff_lt_or_eq.1 hj with h1 | rfl
        · exact hI j h1
        · omega
      · refine ev_succ ?_
        simp only [r9_In.l0]
        exact ev_neg (by omega) (ev_some (decide_eq_true (⟨h1, h3, hI⟩ : inSh l ks)).symm)
    · rw [show ((ks.length : Int) != (l.length : Int)) = true by rw [bne_iff_ne]; omega]
      exact no (fun h => h3 h.2.1)
  · exact ev_neg (by simpa using h1) (no (fun h => h1 h.1))
/-- the shells and keys that Low and High take -/
def askedSh (m : Int) (l : List S57) (ks : List Int) : Prop := ((1 ≤ m ∧ m ≤ 3) ∧ validSh l ∧ ks.length = l.length) ∧ keysGood ks
instance (m : Int) (l : List S57) (ks : List Int) : Decidable (askedSh m l ks) := by unfold askedSh; infer_instance
def lowOf (m : Int) (l : List S57) (ks : List Int) : Nat → Int := bestAt (fun b s k => mx b (Plain.gap m s.f0 s.f1 k)) 0 l ks
def highOf (m : Int) (l : List S57) (ks : List Int) : Nat → Int := bestAt (fun b s k => mn b (Plain.high m k s.f1)) 134217728 l ks
theorem low_is (m : Int) {l : List S57} {ks : List Int} (hl : l.length ≤ 4611686018427387904) (hk : ks.length ≤ 4611686018427387904) : pivot_Low.f m l ks = some (if askedSh m l ks then (lowOf m l ks l.length, 0) else (0, 1)) := if_pos ⟨hl, hk⟩
theorem high_is (m : Int) {l : List S57} {ks : List Int} (hl : l.length ≤ 4611686018427387904) (hk : ks.length ≤ 4611686018427387904) : pivot_High.f m l ks = some (if askedSh m l ks then (highOf m l ks l.length, 0) else (0, 1)) := if_pos ⟨hl, hk⟩
theorem asked_ev (m : Int) {l : List S57} {ks : List Int} (hl : l.length ≤ 4611686018427387904) (hk : ks.length ≤ 4611686018427387904) : Ev (fun k => r9_asked.f k m l ks) (decide (askedSh m l ks)) := by
  have hg := good_iff ks
  refine ev_count (G := fun i k => r9_asked.l0 k m l ks (i : Int)) (n := ks.length) (fun i => ∀ j, j < i → isKey (rd ks (j : Int))) (fun j hj => by omega) (fun i hi hI h => ?_) (fun hI => ?_)
  · refine ev_succ ?_
    simp only [r9_asked.l0]
    refine ev_pos (by omega) (ev_pos (by omega) ?_)
    have bad : ¬ isKey (rd ks (i : Int)) → false = decide (askedSh m l ks) := fun c => (decide_eq_false (fun h => c (hg.1 h.2 i hi))).symm
    by_cases c1 : rd ks (i : Int) < 0
    · exact ev_pos c1 (ev_some (bad (fun h => by have := h.1; omega)))
    refine ev_neg c1 ?_
    by_cases c2 : rd ks (i : Int) > 134217728
    · exact ev_pos c2 (ev_some (bad (fun h => by have := h.2; omega)))
    refine ev_neg c2 ?_
    rw [wsuc i (by omega)]
    refine h (fun j hj => ?_)
    rcases Nat.lt_succ_iff_lt_or_eq.1 hj with h1 | rfl
    · exact hI j h1
    · exact ⟨by omega, by omega⟩
  · refine ev_succ ?_
    simp only [r9_asked.l0]
    refine ev_neg (by omega) (ev_ob (ref09_Metric_is m) ?_)
    by_cases h1 : 1 ≤ m ∧ m ≤ 3
    · refine ev_pos (by simpa using h1) (ev_bind (rvalid_ev l (by omega)) ?_)
      by_cases h2 : validSh l
      · refine ev_pos (by simpa using h2) (ev_some ?_)
        rw [Bool.eq_iff_iff, beq_iff_eq, decide_eq_true_eq]
        exact ⟨fun h => ⟨⟨h1, h2, by omega⟩, hg.2 hI⟩, fun h => by have := h.1.2.2; omega⟩
      · exact ev_neg (by simpa using h2) (ev_some (decide_eq_false (fun h => h2 h.1.2.1)).symm)
    · exact ev_neg (by simpa using h1) (ev_some (decide_eq_false (fun h => h1 h.1.1)).symm)
theorem rlow_ev (m : Int) {l : List S57} {ks : List Int} (hl : l.length ≤ 4611686018427387904) (hk : ks.length ≤ 4611686018427387904) : Ev (fun k => r9_Low.f k m l ks) (if askedSh m l ks then (0, lowOf m l ks l.length, 0) else (0, 0, 1)) := by
  refine ev_bind (asked_ev m hl hk) ?_
  by_cases h : askedSh m l ks
  · refine ev_pos (by simpa using h) ?_
    rw [if_pos h]
    obtain ⟨⟨_, hv, hlen⟩, hg⟩ := h
    refine ev_cast (ev_count0 (G := fun i k => r9_Low.l0 k m l ks (lowOf m l ks i) (i : Int)) (n := l.length) (r := (0, lowOf m l ks l.length, 0)) (fun i hi h => ?_) ?_) rfl
    · refine ev_succ ?_
      simp only [r9_Low.l0]
      have va := at_valid hv hi
      refine ev_pos (by omega) (ev_pos (by omega) (ev_pos (by omega) (ev_bind (Gap05.gap_ev m ((good_iff ks).1 hg i (by omega)) ⟨va.1, by omega⟩ ⟨by omega, va.2.2⟩ va.2.1) ?_)))
      rw [wsuc i (by omega)]
      exact h
    · refine ev_succ ?_
      simp only [r9_Low.l0]
      exact ev_neg (by omega) (ev_some rfl)
  · exact ev_neg (by simpa using h) (ev_some (if_neg h).symm)
theorem rhigh_ev (m : Int) {l : List S57} {ks : List Int} (hl : l.length ≤ 4611686018427387904) (hk : ks.length ≤ 4611686018427387904) : Ev (fun k => r9_High.f k m l ks) (if askedSh m l ks then (0, highOf m l ks l.length, 0) else (0, 0, 1)) := by
  refine ev_bind (asked_ev m hl hk) ?_
  by_cases h : askedSh m l ks
  · refine ev_pos (by simpa using h) ?_
    rw [if_pos h]
    obtain ⟨⟨_, hv, hlen⟩, hg⟩ := h
    refine ev_cast (ev_count0 (G := fun i k => r9_High.l0 k m l ks (highOf m l ks i) (i : Int)) (n := l.length) (r := (0, highOf m l ks l.length, 0)) (fun i hi h => ?_) ?_) rfl
    · refine ev_succ ?_
      simp only [r9_High.l0]
      have va := at_valid hv hi
      refine ev_pos (by omega) (ev_pos (by omega) (ev_pos (by omega) (ev_bind (Gap05.reach_ev m ((good_iff ks).1 hg i (by omega)) ⟨va.1, by omega⟩ ⟨by omega, va.2.2⟩ va.2.1) ?_)))
      rw [wsuc i (by omega)]
      exact h
    · refine ev_succ ?_
      simp only [r9_High.l0]
      exact ev_neg (by omega) (ev_some rfl)
  · exact ev_neg (by simpa using h) (ev_some (if_neg h).symm)
end Go.Proofs.Ytoidpkpgeeeggaa.EvShell
end
section
set_option linter.unusedVariables false
namespace Go.Proofs.Ytoidpkpgeeeggaa.Near
open Go.RowKit Go.Proofs.Ytoidpkpgeeeggaa.Q Go.Proofs.YtoidpkpgeeeggaaW.PrintWords Plain Go
theorem map_range_row (l : List (List Int)) (f : List Int → Int) : (List.range l.length).map (fun i => f (rowOf l i)) = l.map f := by
  apply List.ext_getElem
  · simp
  · intro i h1 h2
    simp at h1 h2
    simp [rowOf, List.getD_eq_getElem?_getD, h2]
end Go.Proofs.Ytoidpkpgeeeggaa.Near
end
