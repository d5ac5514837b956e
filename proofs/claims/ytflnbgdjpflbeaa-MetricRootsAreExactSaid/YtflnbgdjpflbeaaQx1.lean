/- Printed by a program of this claim (print2.py), over the kit's print, with contracts proved by hand among them. -/
import Derived.Test.YtflnbgdjpflbeaaQx0
namespace Go.Proofs.Ytflnbgdjpflbeaa.Q
open Go.RowKit Go.Proofs.YtflnbgdjpflbeaaW.PrintWords Go.Proofs.YtflnbgdjpflbeaaW.PrintLast Go.Proofs.YtflnbgdjpflbeaaW.PrintMore
attribute [local go_sem] max2_int min2_int max_two min_two max_three min_three max_four min_four   -- for this text's walks alone
set_option linter.unusedVariables false
set_option linter.unusedSimpArgs false

/-! ### antiquaryref05_Valid: function 27 -/
def antiquaryref05_Valid.f (a0 : Int) (a1 : Int) : Option (Bool) := if a0 ≥ 1 then (if a0 ≤ 3 then (if a1 ≥ 0 then (some (decide (a1 ≤ 134217728))) else (some false)) else (some false)) else (some false)
set_option maxHeartbeats 8000000 in
set_option maxRecDepth 100000 in
theorem antiquaryref05_Valid.calls (a0 : Int) (a1 : Int) (r : Bool) (w : World) (h : antiquaryref05_Valid.f a0 a1 = some r) :
    Calls Try.prog 27 #[.int .i64 a0, .int .i64 a1] w fun e w' => e = .returned (.bool r) ∧ Drawn0 w w' := by
  have H : (if a0 ≥ 1 then (if a0 ≤ 3 then (if a1 ≥ 0 then (some (decide (a1 ≤ 134217728))) else (some false)) else (some false)) else (some false)) = some r := h
  clear h
  by_cases c3 : a0 ≥ 1
  · rw [if_pos c3] at H
    have c3b0 : decide (1 ≤ a0) = true := decide_eq_true c3
    clear c3
    by_cases c4 : a0 ≤ 3
    · rw [if_pos c4] at H
      have c4b0 : decide (a0 ≤ 3) = true := decide_eq_true c4
      clear c4
      by_cases c5 : a1 ≥ 0
      · rw [if_pos c5] at H
        have c5b0 : decide (0 ≤ a1) = true := decide_eq_true c5
        clear c5
        obtain rfl := Option.some.inj H
        go_enter Try.func27, Try.ntmps27
        go_wp2
        go_ret
        exact ⟨by first | rfl | (simp; done) | (simp [*]; done), by repeat (first | exact Drawn0.refl _ | apply Drawn0.step)⟩
      · rw [if_neg c5] at H
        have c5b0 : decide (0 ≤ a1) = false := decide_eq_false c5
        clear c5
        obtain rfl := Option.some.inj H
        go_enter Try.func27, Try.ntmps27
        go_wp2
        go_ret
        exact ⟨by first | rfl | (simp; done) | (simp [*]; done), by repeat (first | exact Drawn0.refl _ | apply Drawn0.step)⟩
    · rw [if_neg c4] at H
      have c4b0 : decide (a0 ≤ 3) = false := decide_eq_false c4
      clear c4
      obtain rfl := Option.some.inj H
      go_enter Try.func27, Try.ntmps27
      go_wp2
      go_ret
      exact ⟨by first | rfl | (simp; done) | (simp [*]; done), by repeat (first | exact Drawn0.refl _ | apply Drawn0.step)⟩
  · rw [if_neg c3] at H
    have c3b0 : decide (1 ≤ a0) = false := decide_eq_false c3
    clear c3
    obtain rfl := Option.some.inj H
    go_enter Try.func27, Try.ntmps27
    go_wp2
    go_ret
    exact ⟨by first | rfl | (simp; done) | (simp [*]; done), by repeat (first | exact Drawn0.refl _ | apply Drawn0.step)⟩

/-! ### antiquarylaw05_keys: function 10 -/
def antiquarylaw05_keys.f (a0 : Int) (a1 : Int) (a2 : Int) (a3 : Int) : Option (Bool) := (antiquaryref05_Valid.f a0 a1).bind fun t101 => (if t101 = true then ((antiquaryref05_Valid.f a0 a2).bind fun t102 => (if t102 = true then ((antiquaryref05_Valid.f a0 a3).bind fun t103 => (some t103)) else (some false))) else (some false))
set_option maxHeartbeats 8000000 in
set_option maxRecDepth 100000 in
theorem antiquarylaw05_keys.calls (a0 : Int) (a1 : Int) (a2 : Int) (a3 : Int) (r : Bool) (w : World) (h : antiquarylaw05_keys.f a0 a1 a2 a3 = some r) :
    Calls Try.prog 10 #[.int .i64 a0, .int .i64 a1, .int .i64 a2, .int .i64 a3] w fun e w' => e = .returned (.bool r) ∧ Drawn0 w w' := by
  have H : ((antiquaryref05_Valid.f a0 a1).bind fun t101 => (if t101 = true then ((antiquaryref05_Valid.f a0 a2).bind fun t102 => (if t102 = true then ((antiquaryref05_Valid.f a0 a3).bind fun t103 => (some t103)) else (some false))) else (some false))) = some r := h
  clear h
  replace H := Option.bind_eq_some_iff.mp H
  obtain ⟨t101, A50, H⟩ := H
  replace H : (if t101 = true then ((antiquaryref05_Valid.f a0 a2).bind fun t102 => (if t102 = true then ((antiquaryref05_Valid.f a0 a3).bind fun t103 => (some t103)) else (some false))) else (some false)) = some r := H
  have A5 := Aside0.mk A50
  clear A50
  by_cases c6 : t101 = true
  · subst c6
    have H1 : ((antiquaryref05_Valid.f a0 a2).bind fun t102 => (if t102 = true then ((antiquaryref05_Valid.f a0 a3).bind fun t103 => (some t103)) else (some false))) = some r := by rw [if_pos rfl] at H; exact H
    clear H
    have H := H1
    clear H1
    replace H := Option.bind_eq_some_iff.mp H
    obtain ⟨t102, A70, H⟩ := H
    replace H : (if t102 = true then ((antiquaryref05_Valid.f a0 a3).bind fun t103 => (some t103)) else (some false)) = some r := H
    have A7 := Aside0.mk A70
    clear A70
    by_cases c8 : t102 = true
    · subst c8
      have H1 : ((antiquaryref05_Valid.f a0 a3).bind fun t103 => (some t103)) = some r := by rw [if_pos rfl] at H; exact H
      clear H
      have H := H1
      clear H1
      replace H := Option.bind_eq_some_iff.mp H
      obtain ⟨t103, A90, H⟩ := H
      replace H : (some t103) = some r := H
      have A9 := Aside0.mk A90
      clear A90
      obtain rfl := Option.some.inj H
      go_enter Try.func10, Try.ntmps10
      go_wp2_with (first | ((with_reducible refine gate_callee (f := 27) rfl ?_); refine goesL_ (some 11) rfl rfl Try.func27 (by kernel_rfl) rfl #[.int .i64 a0, .int .i64 a1] rfl (by (try simp only [List.map_toArray, List.map_cons, List.map_nil]); first | done | rfl | (simp only [List.length_drop, List.length_take]; rfl)) ?_; (with_reducible refine (antiquaryref05_Valid.calls a0 a1 true _ A5.out).mono ?_); rintro e w' ⟨rfl, ⟨nd, rfl⟩⟩; refine ⟨_, rfl, ?_⟩) | (go_at_call 27; (with_reducible refine (antiquaryref05_Valid.calls a0 a2 true _ A7.out).mono ?_); rintro e w' ⟨rfl, ⟨nd, rfl⟩⟩) | (go_at_call 27; (with_reducible refine (antiquaryref05_Valid.calls a0 a3 t103 _ A9.out).mono ?_); rintro e w' ⟨rfl, ⟨nd, rfl⟩⟩))
      go_ret
      exact ⟨by first | rfl | (simp; done) | (simp [*]; done), by repeat (first | exact Drawn0.refl _ | apply Drawn0.step)⟩
    · replace c8 := Bool.eq_false_iff.mpr c8
      subst c8
      have H1 : (some false) = some r := by rw [if_neg (show ¬ (false = true) by decide)] at H; exact H
      clear H
      have H := H1
      clear H1
      obtain rfl := Option.some.inj H
      go_enter Try.func10, Try.ntmps10
      go_wp2_with (first | ((with_reducible refine gate_callee (f := 27) rfl ?_); refine goesL_ (some 11) rfl rfl Try.func27 (by kernel_rfl) rfl #[.int .i64 a0, .int .i64 a1] rfl (by (try simp only [List.map_toArray, List.map_cons, List.map_nil]); first | done | rfl | (simp only [List.length_drop, List.length_take]; rfl)) ?_; (with_reducible refine (antiquaryref05_Valid.calls a0 a1 true _ A5.out).mono ?_); rintro e w' ⟨rfl, ⟨nd, rfl⟩⟩; refine ⟨_, rfl, ?_⟩) | (go_at_call 27; (with_reducible refine (antiquaryref05_Valid.calls a0 a2 false _ A7.out).mono ?_); rintro e w' ⟨rfl, ⟨nd, rfl⟩⟩))
      go_ret
      exact ⟨by first | rfl | (simp; done) | (simp [*]; done), by repeat (first | exact Drawn0.refl _ | apply Drawn0.step)⟩
  · replace c6 := Bool.eq_false_iff.mpr c6
    subst c6
    have H1 : (some false) = some r := by rw [if_neg (show ¬ (false = true) by decide)] at H; exact H
    clear H
    have H := H1
    clear H1
    obtain rfl := Option.some.inj H
    go_enter Try.func10, Try.ntmps10
    go_wp2_with (first | ((with_reducible refine gate_callee (f := 27) rfl ?_); refine goesL_ (some 11) rfl rfl Try.func27 (by kernel_rfl) rfl #[.int .i64 a0, .int .i64 a1] rfl (by (try simp only [List.map_toArray, List.map_cons, List.map_nil]); first | done | rfl | (simp only [List.length_drop, List.length_take]; rfl)) ?_; (with_reducible refine (antiquaryref05_Valid.calls a0 a1 false _ A5.out).mono ?_); rintro e w' ⟨rfl, ⟨nd, rfl⟩⟩; refine ⟨_, rfl, ?_⟩))
    go_ret
    exact ⟨by first | rfl | (simp; done) | (simp [*]; done), by repeat (first | exact Drawn0.refl _ | apply Drawn0.step)⟩

/-! ### metric_clamp_int: function 34, by hand -/
def metric_clamp_int.f (a0 : Int) (a1 : Int) (a2 : Int) : Option (Int) := some (mx a1 (mn a0 a2))
set_option maxHeartbeats 400000 in
theorem metric_clamp_int.calls (a0 : Int) (a1 : Int) (a2 : Int) (r : Int) (w : World) (h : metric_clamp_int.f a0 a1 a2 = some r) :
    Calls Try.prog 34 #[.int .i64 a0, .int .i64 a1, .int .i64 a2] w fun e w' => e = .returned (.int .i64 r) ∧ Drawn0 w w' := by
  obtain rfl := Option.some.inj h
  clear h
  obtain ⟨x, hx⟩ : ∃ x, mn a0 a2 = x := ⟨_, rfl⟩
  obtain ⟨y, hy⟩ : ∃ y, mx a1 x = y := ⟨_, rfl⟩
  rw [hx, hy]
  unfold mn at hx
  unfold mx at hy
  go_enter Try.func34, Try.ntmps34
  go_wp2
  go_ret
  exact ⟨rfl, Drawn0.refl _⟩

/-! ### bits_Len: function 38, by hand -/
def bits_Len.f (a0 : Int) : Option (Int) := if 0 ≤ a0 ∧ a0 ≤ 1152921504606846976 then some (Lib.bitLen a0.toNat : Int) else none
theorem bits_Len.calls (a0 : Int) (r : Int) (w : World) (h : bits_Len.f a0 = some r) :
    Calls Try.prog 38 #[.int .u64 a0] w fun e w' => e = .returned (.int .i64 r) ∧ Drawn0 w w' := by
  unfold bits_Len.f at h
  split at h
  · rename_i hk
    obtain rfl := Option.some.inj h
    refine (Go.Proofs.Try.bits_Len a0 w hk.1 (by omega)).mono ?_
    rintro e w' ⟨rfl, rfl⟩
    exact ⟨rfl, Drawn0.refl _⟩
  · cases h

/-! ### metric_Isqrt: function 30 -/
def metric_Isqrt.l0 : Nat → Int → Int → Option (Int)
  | 0, _, _ => none
  | k + 1, x0, x3 => if x3 = 0 then (none) else (if (wrap64 (Int.tdiv (wrap64 (x3 + (wrap64 (Int.tdiv x0 x3)))) 2)) ≥ x3 then (some x3) else (metric_Isqrt.l0 k x0 (wrap64 (Int.tdiv (wrap64 (x3 + (wrap64 (Int.tdiv x0 x3)))) 2))))
def metric_Isqrt.f (k : Nat) (a0 : Int) : Option (Int) := (metric_clamp_int.f a0 0 1152921504606846976).bind fun t104 => (if t104 = 0 then (some 0) else ((bits_Len.f (IntKind.u64.wrap (t104))).bind fun t105 => (if 0 ≤ (wrap64 (Int.tdiv (wrap64 (t105 + 1)) 2)) then (metric_Isqrt.l0 k t104 (shl .i64 1 (wrap64 (Int.tdiv (wrap64 (t105 + 1)) 2)))) else (none))))
theorem metric_Isqrt.mono_l : ∀ k, (∀ y0 y1, LeO (metric_Isqrt.l0 k y0 y1) (metric_Isqrt.l0 (k + 1) y0 y1))
  | 0 => fun _ _ r h => by simp [metric_Isqrt.l0] at h
  | k + 1 => by
    have ih0 := metric_Isqrt.mono_l k
    · intro y0 y1
      unfold metric_Isqrt.l0
      repeat' first
      | (with_reducible exact ih0 _ _)
      | (with_reducible exact LeO.refl _)
      | (with_reducible exact LeO.none _)
      | (with_reducible refine LeO.ite ?_ ?_)
      | (with_reducible refine LeO.bind ?_ (fun _ => ?_))
      | exact ih0 _ _
      | exact LeO.none _
      | refine LeO.ite ?_ ?_
      | refine LeO.bind ?_ (fun _ => ?_)
theorem metric_Isqrt.mono : ∀ a0 k, LeO (metric_Isqrt.f k a0) (metric_Isqrt.f (k + 1) a0) := by
  intro a0 k
  have ih0 := metric_Isqrt.mono_l k
  unfold metric_Isqrt.f
  repeat' first
      | (with_reducible exact ih0 _ _)
      | (with_reducible exact LeO.refl _)
      | (with_reducible exact LeO.none _)
      | (with_reducible refine LeO.ite ?_ ?_)
      | (with_reducible refine LeO.bind ?_ (fun _ => ?_))
      | exact ih0 _ _
      | exact LeO.none _
      | refine LeO.ite ?_ ?_
      | refine LeO.bind ?_ (fun _ => ?_)
set_option maxHeartbeats 8000000 in
set_option maxRecDepth 100000 in
theorem metric_Isqrt.calls (k : Nat) (a0 : Int) (r : Int) (w : World) (h : metric_Isqrt.f k a0 = some r) :
    Calls Try.prog 30 #[.int .i64 a0] w fun e w' => e = .returned (.int .i64 r) ∧ Drawn0 w w' := by
  have H : ((metric_clamp_int.f a0 0 1152921504606846976).bind fun t104 => (if t104 = 0 then (some 0) else ((bits_Len.f (IntKind.u64.wrap (t104))).bind fun t105 => (if 0 ≤ (wrap64 (Int.tdiv (wrap64 (t105 + 1)) 2)) then (metric_Isqrt.l0 k t104 (shl .i64 1 (wrap64 (Int.tdiv (wrap64 (t105 + 1)) 2)))) else (none))))) = some r := h
  clear h
  replace H := Option.bind_eq_some_iff.mp H
  obtain ⟨t104, A20, H⟩ := H
  replace H : (if t104 = 0 then (some 0) else ((bits_Len.f (IntKind.u64.wrap (t104))).bind fun t105 => (if 0 ≤ (wrap64 (Int.tdiv (wrap64 (t105 + 1)) 2)) then (metric_Isqrt.l0 k t104 (shl .i64 1 (wrap64 (Int.tdiv (wrap64 (t105 + 1)) 2)))) else (none)))) = some r := H
  have A2 := Aside0.mk A20
  clear A20
  by_cases c3 : t104 = 0
  · rw [if_pos c3] at H
    have c3b0 : (t104 == 0) = true := beq_iff_eq.mpr c3
    have c3b1 : (t104 != 0) = false := bne_eq_false_iff_eq.mpr c3
    clear c3
    obtain rfl := Option.some.inj H
    go_enter Try.func30, Try.ntmps30
    go_wp2_with (first | ((with_reducible refine gate_callee (f := 34) rfl ?_); refine goesL_ (some 6) rfl rfl Try.func34 (by kernel_rfl) rfl #[.int .i64 a0, .int .i64 0, .int .i64 1152921504606846976] rfl (by (try simp only [List.map_toArray, List.map_cons, List.map_nil]); first | done | rfl | (simp only [List.length_drop, List.length_take]; rfl)) ?_; (with_reducible refine (metric_clamp_int.calls a0 0 1152921504606846976 t104 _ A2.out).mono ?_); rintro e w' ⟨rfl, ⟨nd, rfl⟩⟩; refine ⟨_, rfl, ?_⟩))
    go_ret
    exact ⟨by first | rfl | (simp; done) | (simp [*]; done), by repeat (first | exact Drawn0.refl _ | apply Drawn0.step)⟩
  · rw [if_neg c3] at H
    have c3b0 : (t104 == 0) = false := beq_eq_false_iff_ne.mpr c3
    have c3b1 : (t104 != 0) = true := bne_iff_ne.mpr c3
    replace H := Option.bind_eq_some_iff.mp H
    obtain ⟨t105, A40, H⟩ := H
    replace H : (if 0 ≤ (wrap64 (Int.tdiv (wrap64 (t105 + 1)) 2)) then (metric_Isqrt.l0 k t104 (shl .i64 1 (wrap64 (Int.tdiv (wrap64 (t105 + 1)) 2)))) else (none)) = some r := H
    have A4 := Aside0.mk A40
    clear A40
    obtain ⟨ji5, hji5⟩ : ∃ j_ : Int, (wrap64 (Int.tdiv (wrap64 (t105 + 1)) 2)) = j_ := ⟨_, rfl⟩
    replace H : (if 0 ≤ (ji5) then (metric_Isqrt.l0 k t104 (shl .i64 1 (ji5))) else (none)) = some r := by first | (rw [hji5] at H; exact H) | (simp only [hji5] at H ⊢; exact H)
    (try rw [hji5] at A2)
    (try rw [hji5] at A4)
    have hji5w : (IntKind.i64.wrap (Int.tdiv (wrap64 (t105 + 1)) 2)) = ji5 := (i64_w _).trans hji5
    by_cases c6 : 0 ≤ (ji5)
    · rw [if_pos c6] at H
      have c6b0 := eq_true c6
      have c6b1 : decide (0 ≤ (ji5)) = true := decide_eq_true c6
      clear c6
      obtain ⟨ji7, hji7⟩ : ∃ j_ : Int, (shl .i64 1 (ji5)) = j_ := ⟨_, rfl⟩
      replace H : (metric_Isqrt.l0 k t104 ji7) = some r := by first | (rw [hji7] at H; exact H) | (simp only [hji7] at H ⊢; exact H)
      (try rw [hji7] at A2)
      (try rw [hji7] at A4)
      have hji7_ : (IntKind.i64.wrap (1 * 2 ^ min (ji5).toNat 64)) = ji7 := hji7
      have hji7z : (ji5) ≤ 64 → (IntKind.i64.wrap (1 * 2 ^ (ji5).toNat)) = ji7 := shl_small hji7
      have hji7u : (IntKind.i64.wrap (2 ^ min (ji5).toNat 64)) = ji7 := by have h_ := hji7_; rw [Int.one_mul] at h_; exact h_
      have hji7v : (ji5) ≤ 64 → (IntKind.i64.wrap (2 ^ (ji5).toNat)) = ji7 := fun hle_ => by have h_ := hji7z hle_; rw [Int.one_mul] at h_; exact h_
      have hji7y : (wrap64 (1 * 2 ^ min (ji5).toNat 64)) = ji7 := (i64_w _).symm.trans hji7_
      have hji7x : (ji5) ≤ 64 → (wrap64 (1 * 2 ^ (ji5).toNat)) = ji7 := fun h_ => (i64_w _).symm.trans (hji7z h_)
      have H' := Aside0.mk H
      clear H
      go_enter Try.func30, Try.ntmps30
      go_wp2_with (first | ((with_reducible refine gate_callee (f := 34) rfl ?_); refine goesL_ (some 6) rfl rfl Try.func34 (by kernel_rfl) rfl #[.int .i64 a0, .int .i64 0, .int .i64 1152921504606846976] rfl (by (try simp only [List.map_toArray, List.map_cons, List.map_nil]); first | done | rfl | (simp only [List.length_drop, List.length_take]; rfl)) ?_; (with_reducible refine (metric_clamp_int.calls a0 0 1152921504606846976 t104 _ A2.out).mono ?_); rintro e w' ⟨rfl, ⟨nd, rfl⟩⟩; refine ⟨_, rfl, ?_⟩) | ((with_reducible refine gate_callee (f := 38) rfl ?_); refine goesL_ (some 11) rfl rfl Try.func38 (by kernel_rfl) rfl #[.int .u64 (IntKind.u64.wrap (t104))] rfl (by (try simp only [List.map_toArray, List.map_cons, List.map_nil]); first | done | rfl | (simp only [List.length_drop, List.length_take]; rfl)) ?_; (with_reducible refine (bits_Len.calls (IntKind.u64.wrap (t104)) t105 _ A4.out).mono ?_); rintro e w' ⟨rfl, ⟨nd, rfl⟩⟩; refine ⟨_, rfl, ?_⟩))
      go_loopg [3] k (fun kq v3 w' => ∃ (x3_1 : Int), v3 = .int .i64 x3_1 ∧ Aside0 (metric_Isqrt.l0 kq t104 x3_1 = some r) ∧ Aside0 (kq ≤ k) ∧ Drawn0 w w')
      case atStart => exact ⟨(ji7), (by first | rfl | (simp; done) | (simp only [← hji7] <;> (first | rfl | simp)) | (simp [*]; done)), H', ⟨Nat.le_refl _⟩, by repeat (first | exact Drawn0.refl _ | apply Drawn0.step)⟩
      case round =>
        clear H'
        try clear p2
        try clear c3
        try clear c3b0
        try clear c3b1
        try clear c6
        try clear c6b0
        try clear c6b1
        try clear p6
        obtain ⟨x3_1, rfl, HA, HK1, ⟨m1, rfl⟩⟩ := hrel
        cases gk with
        | zero => exact absurd HA.out (by simp [metric_Isqrt.l0])
        | succ k1 =>
          have H := HA.out
          clear HA
          simp only [metric_Isqrt.l0] at H
          by_cases c8 : x3_1 = 0
          · rw [if_pos c8] at H
            exact absurd H (by simp)
          · rw [if_neg c8] at H
            have c8b0 : (x3_1 == 0) = false := beq_eq_false_iff_ne.mpr c8
            have c8b1 : (x3_1 != 0) = true := bne_iff_ne.mpr c8
            by_cases c9 : (wrap64 (Int.tdiv (wrap64 (x3_1 + (wrap64 (Int.tdiv t104 x3_1)))) 2)) ≥ x3_1
            · rw [if_pos c9] at H
              have c9b0 : decide (x3_1 ≤ (wrap64 (Int.tdiv (wrap64 (x3_1 + (wrap64 (Int.tdiv t104 x3_1)))) 2))) = true := decide_eq_true c9
              clear c9
              obtain rfl := Option.some.inj H
              go_wp2
              go_ret
              exact ⟨by first | rfl | (simp; done) | (simp only [← hji5, ← hji7] <;> (first | rfl | simp)) | (simp [*]; done), by repeat (first | exact Drawn0.refl _ | apply Drawn0.step)⟩
            · rw [if_neg c9] at H
              have c9b0 : decide (x3_1 ≤ (wrap64 (Int.tdiv (wrap64 (x3_1 + (wrap64 (Int.tdiv t104 x3_1)))) 2))) = false := decide_eq_false c9
              clear c9
              have H' := Aside0.mk H
              clear H
              go_wp2
              go_roundg k1
              case measure => have := HK1.out; omega
              case rel => exact ⟨(wrap64 (Int.tdiv (wrap64 (x3_1 + (wrap64 (Int.tdiv t104 x3_1)))) 2)), (by first | rfl | (simp; done) | (simp [*]; done)), H', ⟨by have := HK1.out; omega⟩, by repeat (first | exact Drawn0.refl _ | apply Drawn0.step)⟩
    · rw [if_neg c6] at H
      exact absurd H (by simp)

/-! ### metric_of: function 32, by hand -/
theorem metric_Isqrt.loop (n : Int) (hn1 : 1 ≤ n) (hn2 : n ≤ 1152921504606846976) (d : Nat) : ∀ (k : Nat) (x : Int), 1 ≤ x → x ≤ 2147483648 → n < (x + 1) * (x + 1) → x ≤ d → d < k → metric_Isqrt.l0 k n x = some (Plain.root n) := by
  induction d with
  | zero => intro k x h1 _ _ h2 _; omega
  | succ d ih =>
    intro k x h1 h2 h3 h4 h5
    obtain ⟨k, rfl⟩ : ∃ m, k = m + 1 := ⟨k - 1, by omega⟩
    simp only [metric_Isqrt.l0]
    rw [if_neg (by omega)]
    have hq0 : 0 ≤ n / x := Int.ediv_nonneg (by omega) (by omega)
    have hq1 : n / x ≤ n := Int.ediv_le_self _ (by omega)
    have hq2 : x * (n / x) ≤ n := Int.mul_ediv_self_le (by omega)
    have hq3 : n < x * (n / x + 1) := by
      have := Int.lt_mul_ediv_self_add (x := n) (k := x) (by omega)
      rw [Int.mul_add]
      omega
    have e1 : wrap64 (Int.tdiv n x) = n / x := by
      rw [Int.tdiv_eq_ediv_of_nonneg (by omega)]
      unfold wrap64
      omega
    have e2 : wrap64 (x + n / x) = x + n / x := by unfold wrap64; omega
    have e3 : wrap64 (Int.tdiv (x + n / x) 2) = (x + n / x) / 2 := by
      rw [Int.tdiv_eq_ediv_of_nonneg (by omega)]
      unfold wrap64
      omega
    rw [e1, e2, e3]
    generalize n / x = q at hq0 hq1 hq2 hq3
    by_cases hy : (x + q) / 2 ≥ x
    · rw [if_pos hy]
      congr 1
      symm
      refine Plain.root_unique (by omega) (by omega) ?_ h3
      have : x * x ≤ x * q := Int.mul_le_mul_of_nonneg_left (by omega) (by omega)
      omega
    · rw [if_neg hy]
      refine ih k _ ?_ (by omega) ?_ (by omega) (by omega)
      · by_cases hx : x = 1
        · subst hx
          omega
        · omega
      · have h6 : x + (q + 1) ≤ 2 * ((x + q) / 2 + 1) := by omega
        generalize (x + q) / 2 + 1 = y at h6
        have h7 := Plain.sq_le_sq (show (0 : Int) ≤ x + (q + 1) by omega) h6
        have h8 : 4 * (x * (q + 1)) ≤ (x + (q + 1)) * (x + (q + 1)) := by
          have h9 : (0 : Int) ≤ (x - (q + 1)) * (x - (q + 1)) := by
            rcases Int.le_total 0 (x - (q + 1)) with h | h
            · exact Int.mul_nonneg h h
            · exact Int.mul_nonneg_of_nonpos_of_nonpos h h
          generalize q + 1 = z at h9 ⊢
          have e4 : (x - z) * (x - z) = x * x - 2 * (x * z) + z * z := by
            rw [Int.sub_mul, Int.mul_sub, Int.mul_sub, Int.mul_comm z x]; omega
          have e5 : (x + z) * (x + z) = x * x + 2 * (x * z) + z * z := by
            rw [Int.add_mul, Int.mul_add, Int.mul_add, Int.mul_comm z x]; omega
          omega
        have e6 : 2 * y * (2 * y) = 4 * (y * y) := by
          rw [Int.mul_assoc, Int.mul_left_comm y 2 y, ← Int.mul_assoc]; rfl
        omega
theorem metric_clamp60 (n : Int) : metric_clamp_int.f n 0 1152921504606846976 = some (Plain.clamp60 n) := by
  unfold metric_clamp_int.f mx mn Plain.clamp60
  congr 1
  by_cases h : n < 0
  · rw [if_pos h, if_neg (show ¬ (1152921504606846976 < n) by omega), if_neg (by omega)]
  · rw [if_neg h]
    by_cases h2 : n > 1152921504606846976
    · rw [if_pos h2, if_pos (by omega)]
    · rw [if_neg h2]
      by_cases h3 : n = 0
      · rw [h3]; rfl
      · rw [if_pos (by omega)]
theorem metric_shl_pow (l : Nat) (h : l ≤ 31) : shl .i64 1 (l : Int) = ((2 ^ l : Nat) : Int) := by
  unfold shl
  rw [show min (l : Int).toNat IntKind.i64.bits = l by rw [show IntKind.i64.bits = 64 from rfl]; omega, Int.one_mul]
  have h1 : 2 ^ l ≤ 2 ^ 31 := Nat.pow_le_pow_right (by omega) h
  rw [IntKind.wrap_i64]
  have h2 : ((2 : Int) ^ l) = ((2 ^ l : Nat) : Int) := by push_cast; rfl
  rw [h2]
  generalize 2 ^ l = z at h1
  omega
theorem metric_Isqrt.start (m : Int) (l : Nat) (h0 : 1 ≤ m) (h1 : m ≤ 1152921504606846976) (hlt : m.toNat < 2 ^ l) (hle : l ≤ 61) : ∃ k, metric_Isqrt.l0 k m (shl .i64 1 (((l + 1) / 2 : Nat) : Int)) = some (Plain.root m) := by
  rw [metric_shl_pow _ (by omega)]
  have hp1 : 1 ≤ 2 ^ ((l + 1) / 2) := Nat.one_le_two_pow
  have hp2 : 2 ^ ((l + 1) / 2) ≤ 2 ^ 31 := Nat.pow_le_pow_right (by omega) (by omega)
  have hp3 : 2 ^ l ≤ 2 ^ ((l + 1) / 2) * 2 ^ ((l + 1) / 2) := by rw [← Nat.pow_add]; exact Nat.pow_le_pow_right (by omega) (by omega)
  have h3 : m.toNat < 2 ^ ((l + 1) / 2) * 2 ^ ((l + 1) / 2) := Nat.lt_of_lt_of_le hlt hp3
  clear hlt hp3
  generalize 2 ^ ((l + 1) / 2) = x at hp1 hp2 h3 ⊢
  refine ⟨x + 1, metric_Isqrt.loop m h0 h1 x (x + 1) x (by omega) (by omega) ?_ (by omega) (by omega)⟩
  have h4 : ((m.toNat : Nat) : Int) < ((x * x : Nat) : Int) := by omega
  rw [Int.natCast_mul] at h4
  have := Plain.sq_le_sq (a := (x : Int)) (b := (x : Int) + 1) (by omega) (by omega)
  omega
theorem bits_Len.is (m : Int) (h0 : 0 ≤ m) (h1 : m ≤ 1152921504606846976) : ∃ l : Nat, bits_Len.f m = some (l : Int) ∧ m.toNat < 2 ^ l ∧ l ≤ 61 :=
  ⟨Lib.bitLen m.toNat, if_pos ⟨h0, h1⟩, Plain.bitLen_lt m.toNat (by omega), Plain.bitLen_le m.toNat 60 (by omega)⟩
theorem metric_Isqrt.is (n : Int) : ∃ k, metric_Isqrt.f k n = some (Plain.root (Plain.clamp60 n)) := by
  obtain ⟨hm0, hm1⟩ := Plain.clamp60_range n
  have hc := metric_clamp60 n
  generalize Plain.clamp60 n = m at hm0 hm1 hc ⊢
  unfold metric_Isqrt.f
  by_cases h0 : m = 0
  · refine ⟨0, Plain.bind_of hc ?_⟩
    rw [if_pos h0, h0]
    exact congrArg some (Plain.root_sq (x := 0) (by omega)).symm
  · obtain ⟨l, hl, hlt, hle⟩ := bits_Len.is m hm0 hm1
    obtain ⟨k, hk⟩ := metric_Isqrt.start m l (by omega) hm1 hlt hle
    have hw : IntKind.u64.wrap m = m := by
      rw [IntKind.wrap_u64]
      omega
    have e1 : wrap64 ((l : Int) + 1) = ((l + 1 : Nat) : Int) := by unfold wrap64; omega
    have e2 : wrap64 (Int.tdiv ((l + 1 : Nat) : Int) 2) = (((l + 1) / 2 : Nat) : Int) := by
      rw [Int.tdiv_eq_ediv_of_nonneg (by omega)]
      unfold wrap64
      omega
    refine ⟨k, Plain.bind_of hc ?_⟩
    rw [if_neg h0, hw]
    refine Plain.bind_of hl ?_
    rw [e1, e2, if_pos (by omega)]
    exact hk
theorem metric_Isqrt.called (n : Int) (w : World) (h0 : 0 ≤ n) (h1 : n ≤ 1152921504606846976) :
    Calls Try.prog 30 #[.int .i64 n] w fun e w' => e = .returned (.int .i64 (Plain.root n)) ∧ ∃ k, w' = w.drewN k := by
  obtain ⟨k, hk⟩ := metric_Isqrt.is n
  rw [Plain.clamp60_in h0 h1] at hk
  exact (metric_Isqrt.calls k n _ w hk).mono fun e w' h => ⟨h.1, h.2.out⟩
theorem metric_side.calls (s : Int) (w : World) : Calls Try.prog 44 #[.int .i64 s] w fun e w' => e = .returned (.func (.func 45) #[] #[.pointer (some ⟨w.heap.size, 0, none⟩)]) ∧ w' = w.alloc (.cells #[.int .i64 s] 3) := by
  have hmf : ∀ (fn : Fn) (first cap : Array Value) (w : World), (Instr.makeFunc fn first cap).run Try.prog w = .ok (.func fn first cap) w := fun _ _ _ _ => rfl
  go_enter Try.func44, Try.ntmps44
  go_wp2
  go_ret
  exact ⟨rfl, rfl⟩
set_option maxHeartbeats 400000 in
theorem metric_side1.calls (s a b : Int) (ad : Addr) (w : World) (hc : w.cell? ad = some (.int .i64 s)) (hs0 : -1 ≤ s) (hs1 : s ≤ 1) (ha : 0 ≤ a) (ha' : a ≤ 134217728) (hb : 0 ≤ b) (hb' : b ≤ 134217728) :
    Calls Try.prog 45 #[.int .i64 a, .int .i64 b, .pointer (some ad)] w fun e w' => e = .returned (.int .i64 (a + b + s * Plain.root (4 * a * b))) ∧ Drawn0 w w' := by
  have hr0 := Plain.root_nonneg (4 * a * b)
  have hr1 := Plain.root4_le (a := a) (b := b) ⟨ha, ha'⟩ ⟨hb, hb'⟩
  have hab0 : 0 ≤ 4 * a * b := Int.mul_nonneg (by omega) hb
  have hab1 : 4 * a * b ≤ 72057594037927936 := by
    have := Int.mul_le_mul (a := 4 * a) (b := b) (c := 536870912) (d := 134217728) (by omega) hb' hb (by omega)
    omega
  have hm : -268435456 ≤ s * Plain.root (4 * a * b) ∧ s * Plain.root (4 * a * b) ≤ 268435456 := by
    rcases (show s = -1 ∨ s = 0 ∨ s = 1 by omega) with h | h | h <;> subst h <;> constructor <;> omega
  obtain ⟨hm0, hm1⟩ := hm
  have e1 : IntKind.i64.wrap (a + b) = a + b := IntWalk.i64_in _ (by omega)
  have e2 : IntKind.i64.wrap (4 * a) = 4 * a := IntWalk.i64_in _ (by omega)
  have e3 : IntKind.i64.wrap (4 * a * b) = 4 * a * b := IntWalk.i64_in _ (by omega)
  have e4 : IntKind.i64.wrap (s * Plain.root (4 * a * b)) = s * Plain.root (4 * a * b) := IntWalk.i64_in _ (by omega)
  have e5 : IntKind.i64.wrap (a + b + s * Plain.root (4 * a * b)) = a + b + s * Plain.root (4 * a * b) := IntWalk.i64_in _ (by omega)
  go_enter Try.func45, Try.ntmps45
  go_wp2
  go_quiet ((go_at_call 30; exact Calls.quiet_of (metric_Isqrt.called _ _ (by omega) (by omega))))
  go_wp2
  go_ret
  exact ⟨rfl, by repeat (first | exact Drawn0.refl _ | apply Drawn0.step)⟩
theorem metric_low_sum.calls (a b : Int) (w : World) (ha : 0 ≤ a) (ha' : a ≤ 134217728) (hb : 0 ≤ b) (hb' : b ≤ 134217728) :
    Calls Try.prog 46 #[.int .i64 a, .int .i64 b] w fun e w' => e = .returned (.int .i64 (mx a b - mn a b)) ∧ Drawn0 w w' := by
  obtain ⟨x, hx⟩ : ∃ x, mx a b = x := ⟨_, rfl⟩
  obtain ⟨y, hy⟩ : ∃ y, mn a b = y := ⟨_, rfl⟩
  have hx0 : 0 ≤ x ∧ x ≤ 134217728 := by rw [← hx]; unfold mx; omega
  have hy0 : 0 ≤ y ∧ y ≤ 134217728 := by rw [← hy]; unfold mn; omega
  obtain ⟨hx1, hx2⟩ := hx0
  obtain ⟨hy1, hy2⟩ := hy0
  rw [hx, hy]
  unfold mx at hx
  unfold mn at hy
  go_enter Try.func46, Try.ntmps46
  go_wp2
  go_ret
  exact ⟨rfl, Drawn0.refl _⟩
theorem metric_high_sum.calls (a b : Int) (w : World) (ha : 0 ≤ a) (ha' : a ≤ 134217728) (hb : 0 ≤ b) (hb' : b ≤ 134217728) :
    Calls Try.prog 47 #[.int .i64 a, .int .i64 b] w fun e w' => e = .returned (.int .i64 (a + b)) ∧ Drawn0 w w' := by
  go_enter Try.func47, Try.ntmps47
  go_wp2
  go_ret
  exact ⟨rfl, Drawn0.refl _⟩
/-- the two functions of a metric's rules, as values -/
def metric_isLow (m : Int) (v : Value) (w : World) : Prop := (m ≠ 2 ∧ v = .func (.func 46) #[] #[]) ∨ (m = 2 ∧ ∃ ad, v = .func (.func 45) #[] #[.pointer (some ad)] ∧ w.cell? ad = some (.int .i64 (-1)))
def metric_isHigh (m : Int) (v : Value) (w : World) : Prop := (m ≠ 2 ∧ v = .func (.func 47) #[] #[]) ∨ (m = 2 ∧ ∃ ad, v = .func (.func 45) #[] #[.pointer (some ad)] ∧ w.cell? ad = some (.int .i64 1))
theorem metric_sum.calls (w : World) : Calls Try.prog 40 #[] w fun e w' => e = .returned (.agg #[.func (.func 46) #[] #[], .func (.func 47) #[] #[]]) ∧ w' = w.alloc (.cells #[.func (.func 46) #[] #[], .func (.func 47) #[] #[]] 41) := by
  go_enter Try.func40, Try.ntmps40
  go_wp2
  exact bodyPost_ret (v := .agg #[.func (.func 46) #[] #[], .func (.func 47) #[] #[]]) (by simp [results, Try.results40, go_sem]) rfl ⟨rfl, rfl⟩
theorem metric_square.calls (w : World) : Calls Try.prog 39 #[] w fun e w' => e = .returned (.agg #[.func (.func 45) #[] #[.pointer (some ⟨w.heap.size + 1, 0, none⟩)], .func (.func 45) #[] #[.pointer (some ⟨w.heap.size + 1 + 1, 0, none⟩)]]) ∧
    w' = (((w.alloc (.cells #[.func (.func 45) #[] #[.pointer (some ⟨w.heap.size + 1, 0, none⟩)], .func (.func 45) #[] #[.pointer (some ⟨w.heap.size + 1 + 1, 0, none⟩)]] 41)).alloc (.cells #[.int .i64 (-1)] 3)).alloc (.cells #[.int .i64 1] 3)) := by
  go_enter Try.func39, Try.ntmps39
  go_wp2_with (go_at_call 44; refine (metric_side.calls _ _).mono ?_; rintro e w' ⟨rfl, rfl⟩)
  exact bodyPost_ret (v := .agg #[.func (.func 45) #[] #[.pointer (some ⟨w.heap.size + 1, 0, none⟩)], .func (.func 45) #[] #[.pointer (some ⟨w.heap.size + 1 + 1, 0, none⟩)]]) (by simp [results, Try.results39, go_sem]) rfl ⟨rfl, rfl⟩
/-- what of hands back -/
def metric_RulesPost (m : Int) (w : World) (e : Ending) (w' : World) : Prop := ∃ l h, e = .returned (.agg #[l, h]) ∧ metric_isLow m l w' ∧ metric_isHigh m h w' ∧ Below w.heap.size w w'
theorem metric_of.calls (m : Int) (w : World) : Calls Try.prog 32 #[.int .i64 m] w (metric_RulesPost m w) := by
  by_cases hm : m = 2
  · have hm1 : (m == 2) = true := beq_iff_eq.mpr hm
    obtain rfl := hm
    go_enter Try.func32, Try.ntmps32
    go_wp2_with (go_at_call 39; refine (metric_square.calls _).mono ?_; rintro e w' ⟨rfl, rfl⟩)
    refine bodyPost_ret (v := .agg #[.func (.func 45) #[] #[.pointer (some ⟨w.heap.size + 1 + 1, 0, none⟩)], .func (.func 45) #[] #[.pointer (some ⟨w.heap.size + 1 + 1 + 1, 0, none⟩)]]) (by simp [results, Try.results32, go_sem]) rfl ⟨_, _, rfl, .inr ⟨rfl, _, rfl, by simp [go_sem]⟩, .inr ⟨rfl, _, rfl, by simp [go_sem]⟩, ?_⟩
    repeat (first | exact Below.refl _ _ | apply below_alloc)
  · have hm1 : (m == 2) = false := beq_eq_false_iff_ne.mpr hm
    have Hm := Lib.hid hm
    clear hm
    go_enter Try.func32, Try.ntmps32
    go_wp2_with (go_at_call 40; refine (metric_sum.calls _).mono ?_; rintro e w' ⟨rfl, rfl⟩)
    refine bodyPost_ret (v := .agg #[.func (.func 46) #[] #[], .func (.func 47) #[] #[]]) (by simp [results, Try.results32, go_sem]) rfl ⟨_, _, rfl, .inl ⟨Hm.out, rfl⟩, .inl ⟨Hm.out, rfl⟩, ?_⟩
    repeat (first | exact Below.refl _ _ | apply below_alloc)
/-- the two functions, whichever the metric is -/
theorem metric_rules_cases {m : Int} {l h : Value} {w : World} (hl : metric_isLow m l w) (hh : metric_isHigh m h w) :
    (m ≠ 2 ∧ l = .func (.func 46) #[] #[] ∧ h = .func (.func 47) #[] #[]) ∨
    (m = 2 ∧ ∃ ad ad2, l = .func (.func 45) #[] #[.pointer (some ad)] ∧ h = .func (.func 45) #[] #[.pointer (some ad2)] ∧ w.cell? ad = some (.int .i64 (-1)) ∧ w.cell? ad2 = some (.int .i64 1)) := by
  rcases hl with ⟨h1, h2⟩ | ⟨h1, ad, h2, h3⟩
  · rcases hh with ⟨_, h4⟩ | ⟨h4, _⟩
    · exact .inl ⟨h1, h2, h4⟩
    · exact absurd h4 h1
  · rcases hh with ⟨h4, _⟩ | ⟨_, ad2, h4, h5⟩
    · exact absurd h1 h4
    · exact .inr ⟨h1, ad, ad2, h2, h4, h3, h5⟩

/-! ### metric_Low: function 14, by hand -/
def metric_Low.f (a0 a1 a2 : Int) : Option Int := if Plain.isKey a1 ∧ Plain.isKey a2 then some (Plain.low a0 a1 a2) else none
theorem metric_Low.calls (a0 a1 a2 r : Int) (w : World) (h : metric_Low.f a0 a1 a2 = some r) :
    Calls Try.prog 14 #[.int .i64 a0, .int .i64 a1, .int .i64 a2] w fun e w' => e = .returned (.int .i64 r) ∧ Below w.heap.size w w' := by
  unfold metric_Low.f at h
  by_cases hk : Plain.isKey a1 ∧ Plain.isKey a2
  · rw [if_pos hk] at h
    obtain rfl := Option.some.inj h
    clear h
    obtain ⟨⟨h10, h11⟩, ⟨h20, h21⟩⟩ := hk
    go_enter Try.func14, Try.ntmps14
    go_wp2_with fail
    refine (metric_of.calls _ _).mono ?_
    rintro e w1 ⟨l, h, rfl, hl, hh, hb⟩
    rcases metric_rules_cases hl hh with ⟨hm, rfl, rfl⟩ | ⟨rfl, ad, ad2, rfl, rfl, hc, hc2⟩
    · have Hv : Hid (Plain.low a0 a1 a2 = mx a1 a2 - mn a1 a2) := by unfold Plain.low; rw [if_neg hm]; unfold mx mn; show _ = _; split <;> omega
      clear hm hl hh
      have hf : ∀ w, (Instr.field 41 (.agg #[.func (.func 46) #[] #[], .func (.func 47) #[] #[]]) 0).run Try.prog w = .ok (.func (.func 46) #[] #[]) w := fun _ => by kernel_rfl
      go_wp2_with fail
      refine (metric_low_sum.calls _ _ _ h10 h11 h20 h21).mono ?_
      rintro e w2 ⟨rfl, hd⟩
      go_wp2
      go_ret
      exact ⟨by rw [Hv.out]; rfl, below_step hb hd.below⟩
    · clear hl hh hc2
      have hf : ∀ w, (Instr.field 41 (.agg #[.func (.func 45) #[] #[.pointer (some ad)], .func (.func 45) #[] #[.pointer (some ad2)]]) 0).run Try.prog w = .ok (.func (.func 45) #[] #[.pointer (some ad)]) w := fun _ => by kernel_rfl
      go_wp2_with fail
      refine (metric_side1.calls _ _ _ _ _ hc (by omega) (by omega) h10 h11 h20 h21).mono ?_
      rintro e w2 ⟨rfl, hd⟩
      go_wp2
      go_ret
      exact ⟨by unfold Plain.low; rw [if_pos rfl]; simp; omega, below_step hb hd.below⟩
  · rw [if_neg hk] at h; cases h

/-! ### metric_High: function 16, by hand -/
def metric_High.f (a0 a1 a2 : Int) : Option Int := if Plain.isKey a1 ∧ Plain.isKey a2 then some (Plain.high a0 a1 a2) else none
theorem metric_High.calls (a0 a1 a2 r : Int) (w : World) (h : metric_High.f a0 a1 a2 = some r) :
    Calls Try.prog 16 #[.int .i64 a0, .int .i64 a1, .int .i64 a2] w fun e w' => e = .returned (.int .i64 r) ∧ Below w.heap.size w w' := by
  unfold metric_High.f at h
  by_cases hk : Plain.isKey a1 ∧ Plain.isKey a2
  · rw [if_pos hk] at h
    obtain rfl := Option.some.inj h
    clear h
    obtain ⟨⟨h10, h11⟩, ⟨h20, h21⟩⟩ := hk
    go_enter Try.func16, Try.ntmps16
    go_wp2_with fail
    refine (metric_of.calls _ _).mono ?_
    rintro e w1 ⟨l, h, rfl, hl, hh, hb⟩
    rcases metric_rules_cases hl hh with ⟨hm, rfl, rfl⟩ | ⟨rfl, ad, ad2, rfl, rfl, hc, hc2⟩
    · have Hv : Hid (Plain.high a0 a1 a2 = mn (a1 + a2) 134217728) := by unfold Plain.high; rw [if_neg hm]; unfold mn; exact rfl
      clear hm hl hh
      have hf : ∀ w, (Instr.field 41 (.agg #[.func (.func 46) #[] #[], .func (.func 47) #[] #[]]) 1).run Try.prog w = .ok (.func (.func 47) #[] #[]) w := fun _ => by kernel_rfl
      go_wp2_with fail
      refine (metric_high_sum.calls _ _ _ h10 h11 h20 h21).mono ?_
      rintro e w2 ⟨rfl, hd⟩
      obtain ⟨x, hx⟩ : ∃ x, mn (a1 + a2) 134217728 = x := ⟨_, rfl⟩
      rw [hx] at Hv
      unfold mn at hx
      go_wp2
      go_ret
      exact ⟨by rw [Hv.out]; rfl, below_step hb hd.below⟩
    · clear hl hh hc
      have Hv : Hid (Plain.high 2 a1 a2 = mn (a1 + a2 + 1 * Plain.root (4 * a1 * a2)) 134217728) := by unfold Plain.high; rw [if_pos rfl]; unfold mn; rw [Int.one_mul]; exact rfl
      have hf : ∀ w, (Instr.field 41 (.agg #[.func (.func 45) #[] #[.pointer (some ad)], .func (.func 45) #[] #[.pointer (some ad2)]]) 1).run Try.prog w = .ok (.func (.func 45) #[] #[.pointer (some ad2)]) w := fun _ => by kernel_rfl
      go_wp2_with fail
      refine (metric_side1.calls _ _ _ _ _ hc2 (by omega) (by omega) h10 h11 h20 h21).mono ?_
      rintro e w2 ⟨rfl, hd⟩
      obtain ⟨y, hy⟩ : ∃ y, a1 + a2 + 1 * Plain.root (4 * a1 * a2) = y := ⟨_, rfl⟩
      obtain ⟨x, hx⟩ : ∃ x, mn y 134217728 = x := ⟨_, rfl⟩
      rw [hy] at Hv ⊢
      rw [hx] at Hv
      clear hy
      unfold mn at hx
      go_wp2
      go_ret
      exact ⟨by rw [Hv.out]; rfl, below_step hb hd.below⟩
  · rw [if_neg hk] at h; cases h

/-! ### metric_Ring: function 12 -/
def metric_Ring.f (a0 : Int) (a1 : Int) (a2 : Int) : Option (Int × Int) := if a2 < a1 then ((metric_Low.f a0 a1 a2).bind fun t106 => ((metric_High.f a0 a1 a2).bind fun t107 => (some (t106, t107)))) else ((metric_High.f a0 a1 a2).bind fun t108 => (some (0, t108)))
set_option maxHeartbeats 8000000 in
set_option maxRecDepth 100000 in
theorem metric_Ring.calls (a0 : Int) (a1 : Int) (a2 : Int) (r1 : Int) (r2 : Int) (w : World) (h : metric_Ring.f a0 a1 a2 = some (r1, r2)) :
    Calls Try.prog 12 #[.int .i64 a0, .int .i64 a1, .int .i64 a2] w fun e w' => e = .returned (.tuple #[.int .i64 r1, .int .i64 r2]) ∧ Below w.heap.size w w' := by
  have HB := Aside0.mk (Below.refl w.heap.size w)
  have H : (if a2 < a1 then ((metric_Low.f a0 a1 a2).bind fun t106 => ((metric_High.f a0 a1 a2).bind fun t107 => (some (t106, t107)))) else ((metric_High.f a0 a1 a2).bind fun t108 => (some (0, t108)))) = some (r1, r2) := h
  clear h
  by_cases c4 : a2 < a1
  · rw [if_pos c4] at H
    have c4b0 : decide (a2 < a1) = true := decide_eq_true c4
    clear c4
    replace H := Option.bind_eq_some_iff.mp H
    obtain ⟨t106, A50, H⟩ := H
    replace H : ((metric_High.f a0 a1 a2).bind fun t107 => (some (t106, t107))) = some (r1, r2) := H
    have A5 := Aside0.mk A50
    clear A50
    replace H := Option.bind_eq_some_iff.mp H
    obtain ⟨t107, A60, H⟩ := H
    replace H : (some (t106, t107)) = some (r1, r2) := H
    have A6 := Aside0.mk A60
    clear A60
    simp only [Option.some.injEq, Prod.mk.injEq] at H
    obtain ⟨rfl, rfl⟩ := H
    go_enter Try.func12, Try.ntmps12
    go_wp2_with (first | ((with_reducible refine gate_callee (f := 14) rfl ?_); refine goesL_ (some 15) rfl rfl Try.func14 (by kernel_rfl) rfl #[.int .i64 a0, .int .i64 a1, .int .i64 a2] rfl (by (try simp only [List.map_toArray, List.map_cons, List.map_nil]); first | done | rfl | (simp only [List.length_drop, List.length_take]; rfl)) ?_; (with_reducible refine (metric_Low.calls a0 a1 a2 t106 _ A5.out).mono ?_); rintro e w7 ⟨rfl, hb⟩; refine ⟨_, rfl, ?_⟩; have n0_ := Aside0.mk (below_step (by repeat (first | (with_reducible first | exact HB.out | apply below_alloc | apply pw_below_drewN | apply below_drew1) | exact HB.out)) hb); clear HB; have HB := n0_; clear n0_; (try clear hb); (try clear hb2); (try clear hk); (try clear hi)) | ((with_reducible refine gate_callee (f := 16) rfl ?_); refine goesL_ (some 20) rfl rfl Try.func16 (by kernel_rfl) rfl #[.int .i64 a0, .int .i64 a1, .int .i64 a2] rfl (by (try simp only [List.map_toArray, List.map_cons, List.map_nil]); first | done | rfl | (simp only [List.length_drop, List.length_take]; rfl)) ?_; (with_reducible refine (metric_High.calls a0 a1 a2 t107 _ A6.out).mono ?_); rintro e w8 ⟨rfl, hb⟩; refine ⟨_, rfl, ?_⟩; have n0_ := Aside0.mk (below_step (by repeat (first | (with_reducible first | exact HB.out | apply below_alloc | apply pw_below_drewN | apply below_drew1) | exact HB.out)) hb); clear HB; have HB := n0_; clear n0_; (try clear hb); (try clear hb2); (try clear hk); (try clear hi)))
    go_ret2
    exact ⟨by first | rfl | (simp [errW_none, errW_some] <;> rfl) | (simp [*, errW_none, errW_some] <;> rfl), by repeat (first | (with_reducible first | exact HB.out | apply below_alloc | apply pw_below_drewN | apply below_drew1) | exact HB.out)⟩
  · rw [if_neg c4] at H
    have c4b0 : decide (a2 < a1) = false := decide_eq_false c4
    clear c4
    replace H := Option.bind_eq_some_iff.mp H
    obtain ⟨t108, A90, H⟩ := H
    replace H : (some (0, t108)) = some (r1, r2) := H
    have A9 := Aside0.mk A90
    clear A90
    simp only [Option.some.injEq, Prod.mk.injEq] at H
    obtain ⟨rfl, rfl⟩ := H
    go_enter Try.func12, Try.ntmps12
    go_wp2_with (first | ((with_reducible refine gate_callee (f := 16) rfl ?_); refine goesL_ (some 20) rfl rfl Try.func16 (by kernel_rfl) rfl #[.int .i64 a0, .int .i64 a1, .int .i64 a2] rfl (by (try simp only [List.map_toArray, List.map_cons, List.map_nil]); first | done | rfl | (simp only [List.length_drop, List.length_take]; rfl)) ?_; (with_reducible refine (metric_High.calls a0 a1 a2 t108 _ A9.out).mono ?_); rintro e w10 ⟨rfl, hb⟩; refine ⟨_, rfl, ?_⟩; have n0_ := Aside0.mk (below_step (by repeat (first | (with_reducible first | exact HB.out | apply below_alloc | apply pw_below_drewN | apply below_drew1) | exact HB.out)) hb); clear HB; have HB := n0_; clear n0_; (try clear hb); (try clear hb2); (try clear hk); (try clear hi)))
    go_ret2
    exact ⟨by first | rfl | (simp [errW_none, errW_some] <;> rfl) | (simp [*, errW_none, errW_some] <;> rfl), by repeat (first | (with_reducible first | exact HB.out | apply below_alloc | apply pw_below_drewN | apply below_drew1) | exact HB.out)⟩

/-! ### metric_Triangle: function 18 -/
def metric_Triangle.f (a0 : Int) (a1 : Int) (a2 : Int) (a3 : Int) : Option (Bool) := (metric_Low.f a0 a1 a2).bind fun t109 => ((metric_High.f a0 a1 a2).bind fun t110 => ((metric_clamp_int.f a3 t109 t110).bind fun t111 => (some (a3 == t111))))
set_option maxHeartbeats 8000000 in
set_option maxRecDepth 100000 in
theorem metric_Triangle.calls (a0 : Int) (a1 : Int) (a2 : Int) (a3 : Int) (r : Bool) (w : World) (h : metric_Triangle.f a0 a1 a2 a3 = some r) :
    Calls Try.prog 18 #[.int .i64 a0, .int .i64 a1, .int .i64 a2, .int .i64 a3] w fun e w' => e = .returned (.bool r) ∧ Below w.heap.size w w' := by
  have HB := Aside0.mk (Below.refl w.heap.size w)
  have H : ((metric_Low.f a0 a1 a2).bind fun t109 => ((metric_High.f a0 a1 a2).bind fun t110 => ((metric_clamp_int.f a3 t109 t110).bind fun t111 => (some (a3 == t111))))) = some r := h
  clear h
  replace H := Option.bind_eq_some_iff.mp H
  obtain ⟨t109, A50, H⟩ := H
  replace H : ((metric_High.f a0 a1 a2).bind fun t110 => ((metric_clamp_int.f a3 t109 t110).bind fun t111 => (some (a3 == t111)))) = some r := H
  have A5 := Aside0.mk A50
  clear A50
  replace H := Option.bind_eq_some_iff.mp H
  obtain ⟨t110, A60, H⟩ := H
  replace H : ((metric_clamp_int.f a3 t109 t110).bind fun t111 => (some (a3 == t111))) = some r := H
  have A6 := Aside0.mk A60
  clear A60
  replace H := Option.bind_eq_some_iff.mp H
  obtain ⟨t111, A70, H⟩ := H
  replace H : (some (a3 == t111)) = some r := H
  have A7 := Aside0.mk A70
  clear A70
  obtain rfl := Option.some.inj H
  go_enter Try.func18, Try.ntmps18
  go_wp2_with (first | ((with_reducible refine gate_callee (f := 14) rfl ?_); refine goesL_ (some 14) rfl rfl Try.func14 (by kernel_rfl) rfl #[.int .i64 a0, .int .i64 a1, .int .i64 a2] rfl (by (try simp only [List.map_toArray, List.map_cons, List.map_nil]); first | done | rfl | (simp only [List.length_drop, List.length_take]; rfl)) ?_; (with_reducible refine (metric_Low.calls a0 a1 a2 t109 _ A5.out).mono ?_); rintro e w8 ⟨rfl, hb⟩; refine ⟨_, rfl, ?_⟩; have n0_ := Aside0.mk (below_step (by repeat (first | (with_reducible first | exact HB.out | apply below_alloc | apply pw_below_drewN | apply below_drew1) | exact HB.out)) hb); clear HB; have HB := n0_; clear n0_; (try clear hb); (try clear hb2); (try clear hk); (try clear hi)) | ((with_reducible refine gate_callee (f := 16) rfl ?_); refine goesL_ (some 18) rfl rfl Try.func16 (by kernel_rfl) rfl #[.int .i64 a0, .int .i64 a1, .int .i64 a2] rfl (by (try simp only [List.map_toArray, List.map_cons, List.map_nil]); first | done | rfl | (simp only [List.length_drop, List.length_take]; rfl)) ?_; (with_reducible refine (metric_High.calls a0 a1 a2 t110 _ A6.out).mono ?_); rintro e w9 ⟨rfl, hb⟩; refine ⟨_, rfl, ?_⟩; have n0_ := Aside0.mk (below_step (by repeat (first | (with_reducible first | exact HB.out | apply below_alloc | apply pw_below_drewN | apply below_drew1) | exact HB.out)) hb); clear HB; have HB := n0_; clear n0_; (try clear hb); (try clear hb2); (try clear hk); (try clear hi)) | ((with_reducible refine gate_callee (f := 34) rfl ?_); refine goesL_ (some 19) rfl rfl Try.func34 (by kernel_rfl) rfl #[.int .i64 a3, .int .i64 t109, .int .i64 t110] rfl (by (try simp only [List.map_toArray, List.map_cons, List.map_nil]); first | done | rfl | (simp only [List.length_drop, List.length_take]; rfl)) ?_; (with_reducible refine (metric_clamp_int.calls a3 t109 t110 t111 _ A7.out).mono ?_); rintro e w' ⟨rfl, ⟨nd, rfl⟩⟩; refine ⟨_, rfl, ?_⟩))
  go_ret
  exact ⟨by first | rfl | (simp [errW_none, errW_some] <;> rfl) | (simp [*, errW_none, errW_some] <;> rfl), by repeat (first | (with_reducible first | exact HB.out | apply below_alloc | apply pw_below_drewN | apply below_drew1) | exact HB.out)⟩

/-! ### metric_Gap: function 20 -/
def metric_Gap.f (a0 : Int) (a1 : Int) (a2 : Int) (a3 : Int) : Option (Int) := (metric_clamp_int.f a3 a1 a2).bind fun t112 => ((metric_Low.f a0 a3 t112).bind fun t113 => (some t113))
set_option maxHeartbeats 8000000 in
set_option maxRecDepth 100000 in
theorem metric_Gap.calls (a0 : Int) (a1 : Int) (a2 : Int) (a3 : Int) (r : Int) (w : World) (h : metric_Gap.f a0 a1 a2 a3 = some r) :
    Calls Try.prog 20 #[.int .i64 a0, .int .i64 a1, .int .i64 a2, .int .i64 a3] w fun e w' => e = .returned (.int .i64 r) ∧ Below w.heap.size w w' := by
  have HB := Aside0.mk (Below.refl w.heap.size w)
  have H : ((metric_clamp_int.f a3 a1 a2).bind fun t112 => ((metric_Low.f a0 a3 t112).bind fun t113 => (some t113))) = some r := h
  clear h
  replace H := Option.bind_eq_some_iff.mp H
  obtain ⟨t112, A50, H⟩ := H
  replace H : ((metric_Low.f a0 a3 t112).bind fun t113 => (some t113)) = some r := H
  have A5 := Aside0.mk A50
  clear A50
  replace H := Option.bind_eq_some_iff.mp H
  obtain ⟨t113, A60, H⟩ := H
  replace H : (some t113) = some r := H
  have A6 := Aside0.mk A60
  clear A60
  obtain rfl := Option.some.inj H
  go_enter Try.func20, Try.ntmps20
  go_wp2_with (first | ((with_reducible refine gate_callee (f := 34) rfl ?_); refine goesL_ (some 14) rfl rfl Try.func34 (by kernel_rfl) rfl #[.int .i64 a3, .int .i64 a1, .int .i64 a2] rfl (by (try simp only [List.map_toArray, List.map_cons, List.map_nil]); first | done | rfl | (simp only [List.length_drop, List.length_take]; rfl)) ?_; (with_reducible refine (metric_clamp_int.calls a3 a1 a2 t112 _ A5.out).mono ?_); rintro e w' ⟨rfl, ⟨nd, rfl⟩⟩; refine ⟨_, rfl, ?_⟩) | ((with_reducible refine gate_callee (f := 14) rfl ?_); refine goesL_ (some 15) rfl rfl Try.func14 (by kernel_rfl) rfl #[.int .i64 a0, .int .i64 a3, .int .i64 t112] rfl (by (try simp only [List.map_toArray, List.map_cons, List.map_nil]); first | done | rfl | (simp only [List.length_drop, List.length_take]; rfl)) ?_; (with_reducible refine (metric_Low.calls a0 a3 t112 t113 _ A6.out).mono ?_); rintro e w7 ⟨rfl, hb⟩; refine ⟨_, rfl, ?_⟩; have n0_ := Aside0.mk (below_step (by repeat (first | (with_reducible first | exact HB.out | apply below_alloc | apply pw_below_drewN | apply below_drew1) | exact HB.out)) hb); clear HB; have HB := n0_; clear n0_; (try clear hb); (try clear hb2); (try clear hk); (try clear hi)))
  go_ret
  exact ⟨by first | rfl | (simp [errW_none, errW_some] <;> rfl) | (simp [*, errW_none, errW_some] <;> rfl), by repeat (first | (with_reducible first | exact HB.out | apply below_alloc | apply pw_below_drewN | apply below_drew1) | exact HB.out)⟩

/-! ### metric_Reach: function 22 -/
def metric_Reach.f (a0 : Int) (a1 : Int) (a2 : Int) (a3 : Int) : Option (Int) := (metric_High.f a0 a3 a2).bind fun t114 => (some t114)
set_option maxHeartbeats 8000000 in
set_option maxRecDepth 100000 in
theorem metric_Reach.calls (a0 : Int) (a1 : Int) (a2 : Int) (a3 : Int) (r : Int) (w : World) (h : metric_Reach.f a0 a1 a2 a3 = some r) :
    Calls Try.prog 22 #[.int .i64 a0, .int .i64 a1, .int .i64 a2, .int .i64 a3] w fun e w' => e = .returned (.int .i64 r) ∧ Below w.heap.size w w' := by
  have HB := Aside0.mk (Below.refl w.heap.size w)
  have H : ((metric_High.f a0 a3 a2).bind fun t114 => (some t114)) = some r := h
  clear h
  replace H := Option.bind_eq_some_iff.mp H
  obtain ⟨t114, A50, H⟩ := H
  replace H : (some t114) = some r := H
  have A5 := Aside0.mk A50
  clear A50
  obtain rfl := Option.some.inj H
  go_enter Try.func22, Try.ntmps22
  go_wp2_with (first | ((with_reducible refine gate_callee (f := 16) rfl ?_); refine goesL_ (some 12) rfl rfl Try.func16 (by kernel_rfl) rfl #[.int .i64 a0, .int .i64 a3, .int .i64 a2] rfl (by (try simp only [List.map_toArray, List.map_cons, List.map_nil]); first | done | rfl | (simp only [List.length_drop, List.length_take]; rfl)) ?_; (with_reducible refine (metric_High.calls a0 a3 a2 t114 _ A5.out).mono ?_); rintro e w6 ⟨rfl, hb⟩; refine ⟨_, rfl, ?_⟩; have n0_ := Aside0.mk (below_step (by repeat (first | (with_reducible first | exact HB.out | apply below_alloc | apply pw_below_drewN | apply below_drew1) | exact HB.out)) hb); clear HB; have HB := n0_; clear n0_; (try clear hb); (try clear hb2); (try clear hk); (try clear hi)))
  go_ret
  exact ⟨by first | rfl | (simp [errW_none, errW_some] <;> rfl) | (simp [*, errW_none, errW_some] <;> rfl), by repeat (first | (with_reducible first | exact HB.out | apply below_alloc | apply pw_below_drewN | apply below_drew1) | exact HB.out)⟩

/-! ### metric_Ball: function 24 -/
def metric_Ball.f (a0 : Int) (a1 : Int) (a2 : Int) (a3 : Int) : Option (Bool) := (metric_High.f a0 a2 a3).bind fun t115 => (some (decide (a1 ≤ t115)))
set_option maxHeartbeats 8000000 in
set_option maxRecDepth 100000 in
theorem metric_Ball.calls (a0 : Int) (a1 : Int) (a2 : Int) (a3 : Int) (r : Bool) (w : World) (h : metric_Ball.f a0 a1 a2 a3 = some r) :
    Calls Try.prog 24 #[.int .i64 a0, .int .i64 a1, .int .i64 a2, .int .i64 a3] w fun e w' => e = .returned (.bool r) ∧ Below w.heap.size w w' := by
  have HB := Aside0.mk (Below.refl w.heap.size w)
  have H : ((metric_High.f a0 a2 a3).bind fun t115 => (some (decide (a1 ≤ t115)))) = some r := h
  clear h
  replace H := Option.bind_eq_some_iff.mp H
  obtain ⟨t115, A50, H⟩ := H
  replace H : (some (decide (a1 ≤ t115))) = some r := H
  have A5 := Aside0.mk A50
  clear A50
  obtain rfl := Option.some.inj H
  go_enter Try.func24, Try.ntmps24
  go_wp2_with (first | ((with_reducible refine gate_callee (f := 16) rfl ?_); refine goesL_ (some 13) rfl rfl Try.func16 (by kernel_rfl) rfl #[.int .i64 a0, .int .i64 a2, .int .i64 a3] rfl (by (try simp only [List.map_toArray, List.map_cons, List.map_nil]); first | done | rfl | (simp only [List.length_drop, List.length_take]; rfl)) ?_; (with_reducible refine (metric_High.calls a0 a2 a3 t115 _ A5.out).mono ?_); rintro e w6 ⟨rfl, hb⟩; refine ⟨_, rfl, ?_⟩; have n0_ := Aside0.mk (below_step (by repeat (first | (with_reducible first | exact HB.out | apply below_alloc | apply pw_below_drewN | apply below_drew1) | exact HB.out)) hb); clear HB; have HB := n0_; clear n0_; (try clear hb); (try clear hb2); (try clear hk); (try clear hi)))
  go_ret
  exact ⟨by first | rfl | (simp [errW_none, errW_some] <;> rfl) | (simp [*, errW_none, errW_some] <;> rfl), by repeat (first | (with_reducible first | exact HB.out | apply below_alloc | apply pw_below_drewN | apply below_drew1) | exact HB.out)⟩

end Go.Proofs.Ytflnbgdjpflbeaa.Q
