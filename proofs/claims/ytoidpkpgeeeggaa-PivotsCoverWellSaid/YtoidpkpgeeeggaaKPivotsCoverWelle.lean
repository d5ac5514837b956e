/- A part of the proof of PivotsCoverWell: what the row's text reaches (packed by a program of this claim out of its texts). -/
import Derived.Test.YtoidpkpgeeeggaaKPivotsCoverWelld
import Derived.Deep.Matrix
import Derived.Deep.SlicePairs
import Derived.ChangeShapes
section
namespace Go.Proofs.Ytoidpkpgeeeggaa.Q
open Go.RowKit Go.Proofs.YtoidpkpgeeeggaaW.PrintWords Go.Proofs.YtoidpkpgeeeggaaW.PrintLast Go.Proofs.YtoidpkpgeeeggaaW.PrintMore
attribute [local go_sem] max2_int min2_int max_two min_two max_three min_three max_four min_four   -- for this text's walks alone
set_option linter.unusedVariables false
set_option linter.unusedSimpArgs false
mutual
def antiquarylaw09_PivotsCoverWell.j0 : Nat → Int → List (List Int) → Int → List Int → Bool → Option (Bool)
  | 0, _, _, _, _, _ => none
  | k + 1, x0, x1, x2, x3, x33 => if x33 = true then ((antiquarylaw09_sanity.f k).bind fun t432 => (some t432)) else ((pivot_Choose.f x0 x1 (wrap64 (1 + (Int.tmod (wrap64 (x2)) 8)))).bind fun bt433 => (if bt433.2 = 0 then (if (bt433.1.length : Int) < 1 then (antiquarylaw09_PivotsCoverWell.j1 k x0 x1 x3 (wrap64 (1 + (Int.tmod (wrap64 (x2)) 8))) bt433.1 true) else (if (bt433.1.length : Int) > (wrap64 (1 + (Int.tmod (wrap64 (x2)) 8))) then (antiquarylaw09_PivotsCoverWell.j1 k x0 x1 x3 (wrap64 (1 + (Int.tmod (wrap64 (x2)) 8))) bt433.1 true) else (if 0 < (bt433.1.length : Int) then (antiquarylaw09_PivotsCoverWell.j1 k x0 x1 x3 (wrap64 (1 + (Int.tmod (wrap64 (x2)) 8))) bt433.1 ((rd bt433.1 0) != 0)) else (none)))) else (antiquarylaw09_PivotsCoverWell.j1 k x0 x1 x3 (wrap64 (1 + (Int.tmod (wrap64 (x2)) 8))) bt433.1 true)))
def antiquarylaw09_PivotsCoverWell.j1 : Nat → Int → List (List Int) → List Int → Int → List Int → Bool → Option (Bool)
  | 0, _, _, _, _, _, _ => none
  | k + 1, x0, x1, x3, x9, x10, x64 => if x64 = true then (some false) else (antiquarylaw09_PivotsCoverWell.l0 k x0 x1 x3 x9 x10 ([] : List (List Int)) 0)
def antiquarylaw09_PivotsCoverWell.l0 : Nat → Int → List (List Int) → List Int → Int → List Int → List (List Int) → Int → Option (Bool)
  | 0, _, _, _, _, _, _, _ => none
  | k + 1, x0, x1, x3, x9, x10, x12, x13 => if x13 < (x10.length : Int) then (if 0 ≤ x13 then (if (rd x10 x13) < 0 then (some false) else (if (rd x10 x13) ≥ (x1.length : Int) then (some false) else (if 0 ≤ (rd x10 x13) then (if (rd x10 x13) < (x1.length : Int) then (if x12.length < 5864062014805 then (antiquarylaw09_PivotsCoverWell.l0 k x0 x1 x3 x9 x10 (x12 ++ [rd_L1 x1 (rd x10 x13)]) (wrap64 (x13 + 1))) else (none)) else (none)) else (none)))) else (none)) else ((pivot_Cover.f k x0 x12 x1).bind fun bt445 => (if bt445.2 = 0 then (if (x10.length : Int) < x9 then (antiquarylaw09_PivotsCoverWell.j3 k x0 x1 x3 x9 x12 bt445.1 (bt445.1 != 0)) else (antiquarylaw09_PivotsCoverWell.j3 k x0 x1 x3 x9 x12 bt445.1 false)) else (antiquarylaw09_PivotsCoverWell.j3 k x0 x1 x3 x9 x12 bt445.1 true)))
def antiquarylaw09_PivotsCoverWell.j3 : Nat → Int → List (List Int) → List Int → Int → List (List Int) → Int → Bool → Option (Bool)
  | 0, _, _, _, _, _, _, _ => none
  | k + 1, x0, x1, x3, x9, x12, x14, x113 => if x113 = true then (some false) else (antiquarylaw09_PivotsCoverWell.l1 k x0 x1 x3 x9 x12 x14 0)
def antiquarylaw09_PivotsCoverWell.l1 : Nat → Int → List (List Int) → List Int → Int → List (List Int) → Int → Int → Option (Bool)
  | 0, _, _, _, _, _, _, _ => none
  | k + 1, x0, x1, x3, x9, x12, x14, x16 => if x16 < (x12.length : Int) then (antiquarylaw09_PivotsCoverWell.l2 k x0 x1 x3 x9 x12 x14 x16 0) else ((antiquarylaw09_some.f k x1 x3 x9).bind fun t450 => ((pivot_Cover.f k x0 t450 x1).bind fun bt453 => ((antiquarylaw09_sanity.f k).bind fun t455 => (if t455 = true then (if bt453.2 = 0 then ((metric_High.f x0 bt453.1 bt453.1).bind fun t456 => (some (decide (x14 ≤ t456)))) else (some false)) else (some false)))))
def antiquarylaw09_PivotsCoverWell.l2 : Nat → Int → List (List Int) → List Int → Int → List (List Int) → Int → Int → Int → Option (Bool)
  | 0, _, _, _, _, _, _, _, _ => none
  | k + 1, x0, x1, x3, x9, x12, x14, x16, x17 => if x17 < x16 then (if 0 ≤ x16 then (if x16 < (x12.length : Int) then (if 0 ≤ x17 then (if x17 < (x12.length : Int) then ((vector_Key.f k x0 (rd_L1 x12 x16) (rd_L1 x12 x17)).bind fun t449 => (if t449 = 0 then (some false) else (if t449 < x14 then (some false) else (antiquarylaw09_PivotsCoverWell.l2 k x0 x1 x3 x9 x12 x14 x16 (wrap64 (x17 + 1)))))) else (none)) else (none)) else (none)) else (none)) else (antiquarylaw09_PivotsCoverWell.l1 k x0 x1 x3 x9 x12 x14 (wrap64 (x16 + 1)))
end
def antiquarylaw09_PivotsCoverWell.f (k : Nat) (a0 : Int) (l1 : List (List Int)) (a2 : Int) (l3 : List Int) : Option (Bool) := (antiquaryref09_Few.f k l1 30).bind fun t429 => (if t429 = true then ((antiquaryref09_Metric.f a0).bind fun t430 => (if t430 = true then ((antiquaryref09_Fit.f k l1).bind fun t431 => (antiquarylaw09_PivotsCoverWell.j0 k a0 l1 a2 l3 (!t431))) else (antiquarylaw09_PivotsCoverWell.j0 k a0 l1 a2 l3 true))) else (antiquarylaw09_PivotsCoverWell.j0 k a0 l1 a2 l3 true))
def antiquarylaw09_PivotsCoverWell.T23 : Bool × List (List Nat × List Nat) := (true, [([], []), ([], []), ([], []), ([1, 2], [1, 2]), ([3], [3]), ([], []), ([], []), ([5, 6], [5, 6]), ([7], [7]), ([0, 4, 8], [0, 4, 8]), ([9, 9, 0, 1, 2, 3, 4, 5, 6, 7, 8, 9], [9])])
def antiquarylaw09_PivotsCoverWell.B23 : List Nat := [0, 0, 0, 6, 14, 0, 0, 96, 224, 511, 1023]
theorem antiquarylaw09_PivotsCoverWell.tab23 : rtab .any (opsOf Try.f5 23) = antiquarylaw09_PivotsCoverWell.T23 := by kernel_rfl
theorem antiquarylaw09_PivotsCoverWell.bits23 : waitsOk antiquarylaw09_PivotsCoverWell.T23.2 antiquarylaw09_PivotsCoverWell.B23 = true := by kernel_rfl
set_option maxHeartbeats 8000000 in
set_option maxRecDepth 100000 in
theorem antiquarylaw09_PivotsCoverWell.calls (k : Nat) (a0 : Int) (P1_ : Nat → Prop) (A1 : Option Addr) (c1 : Nat) (l1 : List (List Int)) (a2 : Int) (A3 : Option Addr) (c3 : Nat) (l3 : List Int) (r : Bool) (w : World) (hs1 : Kd.V (Kd.slice 3 (Kd.int .i64)) 23 w w.heap.size (fun k_ => P1_ k_) (.slice A1 l1.length c1) l1) (hr3 : Kd.C (Kd.int .u8) w A3 l3.length l3) (hc3 : l3.length ≤ c3) (h : antiquarylaw09_PivotsCoverWell.f k a0 l1 a2 l3 = some r) (hT : r = true) :
    Calls Try.prog 5 #[.int .i64 a0, .slice A1 l1.length c1, .int .u8 a2, .slice A3 l3.length c3] w fun e w' => e = .returned (.bool r) ∧ Below w.heap.size w w' := by
  have HT := Aside0.mk hT
  clear hT
  have HO1 := Aside0.mk (show Kd.V (Kd.slice 3 (Kd.int .i64)) 23 w w.heap.size (fun k_ => (P1_ k_ ∨ w.heap.size ≤ k_)) (.slice A1 l1.length c1) l1 from Kd.V_mono hs1 (fun k_ hk => .inl hk))
  have HR3 := Aside0.mk hr3
  have HC3 := Aside0.mk hc3
  clear hr3 hc3
  have HB := Aside0.mk (Below.refl w.heap.size w)
  have H : ((antiquaryref09_Few.f k l1 30).bind fun t429 => (if t429 = true then ((antiquaryref09_Metric.f a0).bind fun t430 => (if t430 = true then ((antiquaryref09_Fit.f k l1).bind fun t431 => (antiquarylaw09_PivotsCoverWell.j0 k a0 l1 a2 l3 (!t431))) else (antiquarylaw09_PivotsCoverWell.j0 k a0 l1 a2 l3 true))) else (antiquarylaw09_PivotsCoverWell.j0 k a0 l1 a2 l3 true))) = some r := h
  clear h
  have HC5 := Aside0.mk H
  clear H
  go_enter Try.func5, Try.ntmps5
  go_upto_region 1 with (fail)
  go_cut [33] (fun v33 wc => ∃ (kq : Nat) (x33_4 : Bool), v33 = .bool x33_4 ∧ Aside0 (antiquarylaw09_PivotsCoverWell.j0 kq a0 l1 a2 l3 x33_4 = some r) ∧ Aside0 (kq ≤ k) ∧ Aside0 (Kd.V (Kd.slice 3 (Kd.int .i64)) 23 wc w.heap.size (fun k_ => (P1_ k_ ∨ w.heap.size ≤ k_)) (.slice A1 l1.length c1) l1) ∧ Aside0 (Below w.heap.size w wc))
  case first =>
    have H := HC5.out
    clear HC5
    replace H := Option.bind_eq_some_iff.mp H
    obtain ⟨t429, A60, H⟩ := H
    replace H : (if t429 = true then ((antiquaryref09_Metric.f a0).bind fun t430 => (if t430 = true then ((antiquaryref09_Fit.f k l1).bind fun t431 => (antiquarylaw09_PivotsCoverWell.j0 k a0 l1 a2 l3 (!t431))) else (antiquarylaw09_PivotsCoverWell.j0 k a0 l1 a2 l3 true))) else (antiquarylaw09_PivotsCoverWell.j0 k a0 l1 a2 l3 true)) = some r := H
    have A6 := Aside0.mk A60
    clear A60
    by_cases c7 : t429 = true
    · subst c7
      have H1 : ((antiquaryref09_Metric.f a0).bind fun t430 => (if t430 = true then ((antiquaryref09_Fit.f k l1).bind fun t431 => (antiquarylaw09_PivotsCoverWell.j0 k a0 l1 a2 l3 (!t431))) else (antiquarylaw09_PivotsCoverWell.j0 k a0 l1 a2 l3 true))) = some r := by rw [if_pos rfl] at H; exact H
      clear H
      have H := H1
      clear H1
      replace H := Option.bind_eq_some_iff.mp H
      obtain ⟨t430, A80, H⟩ := H
      replace H : (if t430 = true then ((antiquaryref09_Fit.f k l1).bind fun t431 => (antiquarylaw09_PivotsCoverWell.j0 k a0 l1 a2 l3 (!t431))) else (antiquarylaw09_PivotsCoverWell.j0 k a0 l1 a2 l3 true)) = some r := H
      have A8 := Aside0.mk A80
      clear A80
      by_cases c9 : t430 = true
      · subst c9
        have H1 : ((antiquaryref09_Fit.f k l1).bind fun t431 => (antiquarylaw09_PivotsCoverWell.j0 k a0 l1 a2 l3 (!t431))) = some r := by rw [if_pos rfl] at H; exact H
        clear H
        have H := H1
        clear H1
        replace H := Option.bind_eq_some_iff.mp H
        obtain ⟨t431, A100, H⟩ := H
        replace H : (antiquarylaw09_PivotsCoverWell.j0 k a0 l1 a2 l3 (!t431)) = some r := H
        have A10 := Aside0.mk A100
        clear A100
        have H' := Aside0.mk H
        clear H
        go_wp2_with (first | ((with_reducible refine gate_callee (f := 9) rfl ?_); refine goesL_ (some 22) rfl rfl Try.func9 (by kernel_rfl) rfl #[.slice A1 l1.length c1, .int .i64 30] rfl (by (try simp only [List.map_toArray, List.map_cons, List.map_nil]); first | done | rfl | (simp only [List.length_drop, List.length_take]; rfl)) ?_; (with_reducible refine (antiquaryref09_Few.calls k _ _ l1 30 true _ ?side1 ?side2 A6.out).mono ?_); (case side1 => repeat (first | exact (Kd.V_reads' HO1.out).2.2 | (with_reducible refine Kd.C_alloc ?_ _) | (with_reducible refine Kd.C_drewN ?_ _) | (with_reducible refine Kd.C_drew ?_))); (case side2 => exact (Kd.V_reads' HO1.out).2.1); rintro e w' ⟨rfl, ⟨nd, rfl⟩⟩; refine ⟨_, rfl, ?_⟩) | (go_at_call 29; (with_reducible refine (antiquaryref09_Metric.calls a0 true _ A8.out).mono ?_); rintro e w' ⟨rfl, ⟨nd, rfl⟩⟩) | (go_at_call 30; (with_reducible refine (antiquaryref09_Fit.calls k _ _ l1 t431 _ ?side1 ?side2 A10.out).mono ?_); (case side1 => repeat (first | exact (Kd.V_reads' HO1.out).2.2 | (with_reducible refine Kd.C_alloc ?_ _) | (with_reducible refine Kd.C_drewN ?_ _) | (with_reducible refine Kd.C_drew ?_))); (case side2 => exact (Kd.V_reads' HO1.out).2.1); rintro e w' ⟨rfl, ⟨nd, rfl⟩⟩))
        go_meet
        case rel => exact ⟨_, (!t431), (by first | rfl | (simp; done) | (simp [*]; done)), H', ⟨by first | omega | exact Nat.le_refl _⟩, ⟨by (with_reducible repeat (first | apply Kd.V_alloc | apply Kd.V_drewN | apply Kd.V_drew)); exact HO1.out⟩, ⟨by repeat (first | (with_reducible first | exact HB.out | apply below_alloc | apply pw_below_drewN | apply below_drew1) | exact HB.out)⟩⟩
      · replace c9 := Bool.eq_false_iff.mpr c9
        subst c9
        have H1 : (antiquarylaw09_PivotsCoverWell.j0 k a0 l1 a2 l3 true) = some r := by rw [if_neg (show ¬ (false = true) by decide)] at H; exact H
        clear H
        have H := H1
        clear H1
        have H' := Aside0.mk H
        clear H
        go_wp2_with (first | ((with_reducible refine gate_callee (f := 9) rfl ?_); refine goesL_ (some 22) rfl rfl Try.func9 (by kernel_rfl) rfl #[.slice A1 l1.length c1, .int .i64 30] rfl (by (try simp only [List.map_toArray, List.map_cons, List.map_nil]); first | done | rfl | (simp only [List.length_drop, List.length_take]; rfl)) ?_; (with_reducible refine (antiquaryref09_Few.calls k _ _ l1 30 true _ ?side1 ?side2 A6.out).mono ?_); (case side1 => repeat (first | exact (Kd.V_reads' HO1.out).2.2 | (with_reducible refine Kd.C_alloc ?_ _) | (with_reducible refine Kd.C_drewN ?_ _) | (with_reducible refine Kd.C_drew ?_))); (case side2 => exact (Kd.V_reads' HO1.out).2.1); rintro e w' ⟨rfl, ⟨nd, rfl⟩⟩; refine ⟨_, rfl, ?_⟩) | (go_at_call 29; (with_reducible refine (antiquaryref09_Metric.calls a0 false _ A8.out).mono ?_); rintro e w' ⟨rfl, ⟨nd, rfl⟩⟩))
        go_meet
        case rel => exact ⟨_, (true), (by first | rfl | (simp; done) | (simp [*]; done)), H', ⟨by first | omega | exact Nat.le_refl _⟩, ⟨by (with_reducible repeat (first | apply Kd.V_alloc | apply Kd.V_drewN | apply Kd.V_drew)); exact HO1.out⟩, ⟨by repeat (first | (with_reducible first | exact HB.out | apply below_alloc | apply pw_below_drewN | apply below_drew1) | exact HB.out)⟩⟩
    · replace c7 := Bool.eq_false_iff.mpr c7
      subst c7
      have H1 : (antiquarylaw09_PivotsCoverWell.j0 k a0 l1 a2 l3 true) = some r := by rw [if_neg (show ¬ (false = true) by decide)] at H; exact H
      clear H
      have H := H1
      clear H1
      have H' := Aside0.mk H
      clear H
      go_wp2_with (first | ((with_reducible refine gate_callee (f := 9) rfl ?_); refine goesL_ (some 22) rfl rfl Try.func9 (by kernel_rfl) rfl #[.slice A1 l1.length c1, .int .i64 30] rfl (by (try simp only [List.map_toArray, List.map_cons, List.map_nil]); first | done | rfl | (simp only [List.length_drop, List.length_take]; rfl)) ?_; (with_reducible refine (antiquaryref09_Few.calls k _ _ l1 30 false _ ?side1 ?side2 A6.out).mono ?_); (case side1 => repeat (first | exact (Kd.V_reads' HO1.out).2.2 | (with_reducible refine Kd.C_alloc ?_ _) | (with_reducible refine Kd.C_drewN ?_ _) | (with_reducible refine Kd.C_drew ?_))); (case side2 => exact (Kd.V_reads' HO1.out).2.1); rintro e w' ⟨rfl, ⟨nd, rfl⟩⟩; refine ⟨_, rfl, ?_⟩))
      go_meet
      case rel => exact ⟨_, (true), (by first | rfl | (simp; done) | (simp [*]; done)), H', ⟨by first | omega | exact Nat.le_refl _⟩, ⟨by (with_reducible repeat (first | apply Kd.V_alloc | apply Kd.V_drewN | apply Kd.V_drew)); exact HO1.out⟩, ⟨by repeat (first | (with_reducible first | exact HB.out | apply below_alloc | apply pw_below_drewN | apply below_drew1) | exact HB.out)⟩⟩
  case rest =>
    clear HC5
    try clear c1
    try clear p2
    try clear c3
    try clear c5
    try clear c7
    try clear c9
    obtain ⟨kq, x33_4, rfl, HA, HJ4, HO_1, HB⟩ := hcut
    cases kq with
    | zero => exact absurd HA.out (by simp [antiquarylaw09_PivotsCoverWell.j0])
    | succ kj4 =>
      have H := HA.out
      clear HA
      simp only [antiquarylaw09_PivotsCoverWell.j0] at H
      by_cases c11 : x33_4 = true
      · subst c11
        have H1 : ((antiquarylaw09_sanity.f kj4).bind fun t432 => (some t432)) = some r := by rw [if_pos rfl] at H; exact H
        clear H
        have H := H1
        clear H1
        replace H := Option.bind_eq_some_iff.mp H
        obtain ⟨t432, A120, H⟩ := H
        replace H : (some t432) = some r := H
        have A12 := Aside0.mk A120
        clear A120
        obtain rfl := Option.some.inj H
        go_wp2_with (first | ((with_reducible refine gate_callee (f := 10) rfl ?_); refine goesL_ (some 34) rfl rfl Try.func10 (by kernel_rfl) rfl #[] rfl (by (try simp only [List.map_toArray, List.map_cons, List.map_nil]); first | done | rfl | (simp only [List.length_drop, List.length_take]; rfl)) ?_; (with_reducible refine (antiquarylaw09_sanity.calls kj4  t432 _ A12.out (by first | rfl | exact HT.out)).mono ?_); rintro e w13 ⟨rfl, hb⟩; refine ⟨_, rfl, ?_⟩; have n0_ := Aside0.mk (Kd.V_below (by (with_reducible repeat (first | apply Kd.V_alloc | apply Kd.V_drewN | apply Kd.V_drew)); exact HO_1.out) hb); have n1_ := Aside0.mk (below_step (by repeat (first | (with_reducible first | exact HB.out | apply below_alloc | apply pw_below_drewN | apply below_drew1) | exact HB.out)) hb); clear HO_1; clear HB; have HO_1 := n0_; have HB := n1_; clear n0_ n1_; (try clear hb); (try clear hb2); (try clear hk); (try clear hi)))
        go_ret
        exact ⟨by first | rfl | (simp [errW_none, errW_some] <;> rfl) | (simp [*, errW_none, errW_some] <;> rfl), by repeat (first | (with_reducible first | exact HB.out | apply below_alloc | apply pw_below_drewN | apply below_drew1) | exact HB.out)⟩
      · replace c11 := Bool.eq_false_iff.mpr c11
        subst c11
        have H1 : ((pivot_Choose.f a0 l1 (wrap64 (1 + (Int.tmod (wrap64 (a2)) 8)))).bind fun bt433 => (if bt433.2 = 0 then (if (bt433.1.length : Int) < 1 then (antiquarylaw09_PivotsCoverWell.j1 kj4 a0 l1 l3 (wrap64 (1 + (Int.tmod (wrap64 (a2)) 8))) bt433.1 true) else (if (bt433.1.length : Int) > (wrap64 (1 + (Int.tmod (wrap64 (a2)) 8))) then (antiquarylaw09_PivotsCoverWell.j1 kj4 a0 l1 l3 (wrap64 (1 + (Int.tmod (wrap64 (a2)) 8))) bt433.1 true) else (if 0 < (bt433.1.length : Int) then (antiquarylaw09_PivotsCoverWell.j1 kj4 a0 l1 l3 (wrap64 (1 + (Int.tmod (wrap64 (a2)) 8))) bt433.1 ((rd bt433.1 0) != 0)) else (none)))) else (antiquarylaw09_PivotsCoverWell.j1 kj4 a0 l1 l3 (wrap64 (1 + (Int.tmod (wrap64 (a2)) 8))) bt433.1 true))) = some r := by rw [if_neg (show ¬ (false = true) by decide)] at H; exact H
        clear H
        have H := H1
        clear H1
        replace H := Option.bind_eq_some_iff.mp H
        obtain ⟨⟨t433, t434⟩, A140, H⟩ := H
        replace H : (if t434 = 0 then (if (t433.length : Int) < 1 then (antiquarylaw09_PivotsCoverWell.j1 kj4 a0 l1 l3 (wrap64 (1 + (Int.tmod (wrap64 (a2)) 8))) t433 true) else (if (t433.length : Int) > (wrap64 (1 + (Int.tmod (wrap64 (a2)) 8))) then (antiquarylaw09_PivotsCoverWell.j1 kj4 a0 l1 l3 (wrap64 (1 + (Int.tmod (wrap64 (a2)) 8))) t433 true) else (if 0 < (t433.length : Int) then (antiquarylaw09_PivotsCoverWell.j1 kj4 a0 l1 l3 (wrap64 (1 + (Int.tmod (wrap64 (a2)) 8))) t433 ((rd t433 0) != 0)) else (none)))) else (antiquarylaw09_PivotsCoverWell.j1 kj4 a0 l1 l3 (wrap64 (1 + (Int.tmod (wrap64 (a2)) 8))) t433 true)) = some r := H
        have A14 := Aside0.mk A140
        clear A140
        have HC15 := Aside0.mk H
        clear H
        go_upto_region 5 with (first | ((with_reducible refine gate_callee (f := 11) rfl ?_); refine goesL_ (some 43) rfl rfl Try.func11 (by kernel_rfl) rfl #[.int .i64 a0, .slice A1 l1.length c1, .int .i64 (wrap64 (1 + (Int.tmod (wrap64 (a2)) 8)))] rfl (by (try simp only [List.map_toArray, List.map_cons, List.map_nil]); first | done | rfl | (simp only [List.length_drop, List.length_take]; rfl)) ?_; (with_reducible refine (pivot_Choose.calls a0 _ _ l1 (wrap64 (1 + (Int.tmod (wrap64 (a2)) 8))) t433 t434 _ ?side1 ?side2 A14.out).mono ?_); (case side1 => repeat (first | exact (Kd.V_reads' HO_1.out).2.2 | (with_reducible refine Kd.C_alloc ?_ _) | (with_reducible refine Kd.C_drewN ?_ _) | (with_reducible refine Kd.C_drew ?_))); (case side2 => exact (Kd.V_reads' HO_1.out).2.1); rintro e w16 ⟨v435, rfl, ho0, hb⟩; refine ⟨_, rfl, ?_⟩; have n0_ := Aside0.mk (Kd.V_elder' (by (with_reducible repeat (first | apply Kd.V_alloc | apply Kd.V_drewN | apply Kd.V_drew)); exact HO_1.out) (Kd.R_base ho0) hb); have n1_ := Aside0.mk (Kd.R_lower (Kd.R_newM (M := fun k_ => (w.heap.size ≤ k_)) ho0 (below_size (by repeat (first | (with_reducible first | exact HB.out | apply below_alloc | apply pw_below_drewN | apply below_drew1) | exact HB.out))) (fun k_ h_ => h_)) (below_size (by repeat (first | (with_reducible first | exact HB.out | apply below_alloc | apply pw_below_drewN | apply below_drew1) | exact HB.out)))); have n2_ := Aside0.mk (below_step (by repeat (first | (with_reducible first | exact HB.out | apply below_alloc | apply pw_below_drewN | apply below_drew1) | exact HB.out)) hb); clear HO_1; clear HB; have HO_1 := n0_; have HO436 := n1_; have HB := n2_; clear n0_ n1_ n2_; (try clear hb); (try clear hb2); (try clear hk); (try clear hi); (try clear ho0)))
        (try simp only [Act.put, List.setIfInBounds_toArray, List.set_cons_zero, List.set_cons_succ])
        go_cut [64] (fun v64 wc => ∃ (kq : Nat) (x64_14 : Bool), v64 = .bool x64_14 ∧ Aside0 (antiquarylaw09_PivotsCoverWell.j1 kq a0 l1 l3 (wrap64 (1 + (Int.tmod (wrap64 (a2)) 8))) t433 x64_14 = some r) ∧ Aside0 (kq ≤ kj4) ∧ Aside0 (Kd.V (Kd.slice 3 (Kd.int .i64)) 23 wc w.heap.size (fun k_ => (P1_ k_ ∨ w.heap.size ≤ k_) ∧ some k_ ≠ (v435 : Value).ownBlock) (.slice A1 l1.length c1) l1) ∧ Aside0 (Kd.R (Kd.int .i64) 3 wc w.heap.size (fun k_ => (w.heap.size ≤ k_)) v435 t433) ∧ Aside0 (Below w.heap.size w wc))
        case first =>
          have H := HC15.out
          clear HC15
          by_cases c17 : t434 = 0
          · rw [if_pos c17] at H
            have c17b0 : (t434 == 0) = true := beq_iff_eq.mpr c17
            have c17b1 : (t434 != 0) = false := bne_eq_false_iff_eq.mpr c17
            clear c17
            (first | rw [c17b0] | (simp only [i64_w, i32_w]; rw [c17b0]) | skip)
            by_cases c18 : (t433.length : Int) < 1
            · rw [if_pos c18] at H
              have c18b0 : decide ((t433.length : Int) < 1) = true := decide_eq_true c18
              have c18b1 : decide (t433.length < 1) = true := decide_eq_true (by omega)
              clear c18
              have H' := Aside0.mk H
              clear H
              obtain ⟨Ao19, co19, eo19⟩ := Kd.R_slice HO436.out
              subst eo19
              go_wp2
              go_meet
              case rel => exact ⟨_, (true), (by first | rfl | (simp; done) | (simp [*]; done)), H', ⟨by have := HJ4.out; first | omega | exact Nat.le_refl _⟩, ⟨by (with_reducible repeat (first | apply Kd.V_alloc | apply Kd.V_drewN | apply Kd.V_drew)); exact HO_1.out⟩, ⟨by (with_reducible repeat (first | apply Kd.R_alloc | apply Kd.R_drewN | apply Kd.R_drew)); exact Kd.R_mono HO436.out (fun _ hk => hk.1)⟩, ⟨by repeat (first | (with_reducible first | exact HB.out | apply below_alloc | apply pw_below_drewN | apply below_drew1) | exact HB.out)⟩⟩
            · rw [if_neg c18] at H
              have c18b0 : decide ((t433.length : Int) < 1) = false := decide_eq_false c18
              have c18b1 : decide (t433.length < 1) = false := decide_eq_false (by omega)
              clear c18
              by_cases c20 : (t433.length : Int) > (wrap64 (1 + (Int.tmod (wrap64 (a2)) 8)))
              · rw [if_pos c20] at H
                have c20b0 : decide ((wrap64 (1 + (Int.tmod (wrap64 (a2)) 8))) < (t433.length : Int)) = true := decide_eq_true c20
                clear c20
                have H' := Aside0.mk H
                clear H
                obtain ⟨Ao21, co21, eo21⟩ := Kd.R_slice HO436.out
                subst eo21
                go_wp2
                go_meet
                case rel => exact ⟨_, (true), (by first | rfl | (simp; done) | (simp [*]; done)), H', ⟨by have := HJ4.out; first | omega | exact Nat.le_refl _⟩, ⟨by (with_reducible repeat (first | apply Kd.V_alloc | apply Kd.V_drewN | apply Kd.V_drew)); exact HO_1.out⟩, ⟨by (with_reducible repeat (first | apply Kd.R_alloc | apply Kd.R_drewN | apply Kd.R_drew)); exact Kd.R_mono HO436.out (fun _ hk => hk.1)⟩, ⟨by repeat (first | (with_reducible first | exact HB.out | apply below_alloc | apply pw_below_drewN | apply below_drew1) | exact HB.out)⟩⟩
              · rw [if_neg c20] at H
                have c20b0 : decide ((wrap64 (1 + (Int.tmod (wrap64 (a2)) 8))) < (t433.length : Int)) = false := decide_eq_false c20
                clear c20
                by_cases c22 : 0 < (t433.length : Int)
                · rw [if_pos c22] at H
                  have c22b0 : decide (0 < (t433.length : Int)) = true := decide_eq_true c22
                  have c22b1 : decide (0 < t433.length) = true := decide_eq_true (by omega)
                  clear c22
                  have H' := Aside0.mk H
                  clear H
                  obtain ⟨Ao23, co23, eo23⟩ := Kd.R_slice HO436.out
                  subst eo23
                  have p437 : 0 ≤ (0 : Int) := (by omega)
                  have q437 : 0 < (t433.length : Int) := of_decide_eq_true (by first | (with_reducible assumption) | assumption)
                  obtain ⟨ad437, e437, hx437_0⟩ := Kd.at_int (Kd.R_reads' HO436.out).2.2 0 p437 q437
                  cases e437
                  have qi437 : (0 < t433.length) = True := eq_true (by omega)
                  (try rw [show ((0 : Int)).toNat = 0 from rfl] at hx437_0)
                  (try rw [Addr.add_zero'] at hx437_0)
                  replace p437 := eq_true p437
                  replace q437 := eq_true q437
                  go_wp2
                  go_meet
                  case rel => exact ⟨_, (((rd t433 0) != 0)), (by first | rfl | (simp; done) | (simp [*]; done)), H', ⟨by have := HJ4.out; first | omega | exact Nat.le_refl _⟩, ⟨by (with_reducible repeat (first | apply Kd.V_alloc | apply Kd.V_drewN | apply Kd.V_drew)); exact HO_1.out⟩, ⟨by (with_reducible repeat (first | apply Kd.R_alloc | apply Kd.R_drewN | apply Kd.R_drew)); exact Kd.R_mono HO436.out (fun _ hk => hk.1)⟩, ⟨by repeat (first | (with_reducible first | exact HB.out | apply below_alloc | apply pw_below_drewN | apply below_drew1) | exact HB.out)⟩⟩
                · rw [if_neg c22] at H
                  exact absurd H (by simp)
          · rw [if_neg c17] at H
            have c17b0 : (t434 == 0) = false := beq_eq_false_iff_ne.mpr c17
            have c17b1 : (t434 != 0) = true := bne_iff_ne.mpr c17
            (first | rw [c17b0] | (simp only [i64_w, i32_w]; rw [c17b0]) | skip)
            have H' := Aside0.mk H
            clear H
            go_wp2
            go_meet
            case rel => exact ⟨_, (true), (by first | rfl | (simp; done) | (simp [*]; done)), H', ⟨by have := HJ4.out; first | omega | exact Nat.le_refl _⟩, ⟨by (with_reducible repeat (first | apply Kd.V_alloc | apply Kd.V_drewN | apply Kd.V_drew)); exact HO_1.out⟩, ⟨by (with_reducible repeat (first | apply Kd.R_alloc | apply Kd.R_drewN | apply Kd.R_drew)); exact Kd.R_mono HO436.out (fun _ hk => hk.1)⟩, ⟨by repeat (first | (with_reducible first | exact HB.out | apply below_alloc | apply pw_below_drewN | apply below_drew1) | exact HB.out)⟩⟩
        case rest =>
          clear HC15
          try clear c1
          try clear c2
          try clear p2
          try clear c3
          try clear p4
          try clear q4
          try clear hx4
          try clear qi4
          try clear c5
          try clear p6
          try clear c7
          try clear c9
          try clear c10
          try clear c11
          try clear c17
          try clear c17b0
          try clear c17b1
          try clear c18
          try clear c18b0
          try clear c18b1
          try clear c20
          try clear c20b0
          try clear c22
          try clear c22b0
          try clear c22b1
          try clear hx437_0
          try clear p2
          try clear p437
          try clear q437
          obtain ⟨kq, x64_14, rfl, HA, HJ14, HO_1, HO_10, HB⟩ := hcut
          cases kq with
          | zero => exact absurd HA.out (by simp [antiquarylaw09_PivotsCoverWell.j1])
          | succ kj14 =>
            have H := HA.out
            clear HA
            simp only [antiquarylaw09_PivotsCoverWell.j1] at H
            by_cases c24 : x64_14 = true
            · subst c24
              have H1 : (some false) = some r := by rw [if_pos rfl] at H; exact H
              clear H
              have H := H1
              clear H1
              exact absurd (Option.some.inj H) (by rw [HT.out]; decide)
            · replace c24 := Bool.eq_false_iff.mpr c24
              subst c24
              have H1 : (antiquarylaw09_PivotsCoverWell.l0 kj14 a0 l1 l3 (wrap64 (1 + (Int.tmod (wrap64 (a2)) 8))) t433 ([] : List (List Int)) 0) = some r := by rw [if_neg (show ¬ (false = true) by decide)] at H; exact H
              clear H
              have H := H1
              clear H1
              have H' := Aside0.mk H
              clear H
              go_wp2
              go_loopg [12, 13] kj14 (fun kq v12 v13 w' => ∃ (x12_3 : List (List Int)) (x13_3 : Int), v13 = .int .i64 x13_3 ∧ Aside0 (antiquarylaw09_PivotsCoverWell.l0 kq a0 l1 l3 (wrap64 (1 + (Int.tmod (wrap64 (a2)) 8))) t433 x12_3 x13_3 = some r) ∧ Aside0 (kq ≤ kj14) ∧ Aside0 (Kd.V (Kd.slice 3 (Kd.int .i64)) 23 w' w.heap.size (fun k_ => (P1_ k_ ∨ w.heap.size ≤ k_) ∧ some k_ ≠ (v435 : Value).ownBlock ∧ some k_ ≠ (v12 : Value).ownBlock) (.slice A1 l1.length c1) l1) ∧ Aside0 (Kd.R (Kd.int .i64) 3 w' w.heap.size (fun k_ => (w.heap.size ≤ k_)) v435 t433) ∧ Aside0 (Kd.N (Kd.slice 3 (Kd.int .i64)) 23 w' w.heap.size (fun k_ => (P1_ k_ ∨ w.heap.size ≤ k_) ∧ some k_ ≠ (v435 : Value).ownBlock) v12 x12_3) ∧ Aside0 (Below w.heap.size w w'))
              case atStart => exact ⟨(([] : List (List Int))), (0), (by first | rfl | (simp; done) | (simp [*]; done)), H', ⟨Nat.le_refl _⟩, ⟨by (with_reducible repeat (first | apply Kd.V_alloc | apply Kd.V_drewN | apply Kd.V_drew)); exact Kd.V_mono HO_1.out (fun _ hk => ⟨hk.1, ⟨hk.2, (by simp [Value.ownBlock])⟩⟩)⟩, ⟨by (with_reducible repeat (first | apply Kd.R_alloc | apply Kd.R_drewN | apply Kd.R_drew)); exact HO_10.out⟩, ⟨by first | exact Kd.S_nil _ _ _ _ _ | exact Kd.N_nil _ _ _ _ _ | exact Kd.V_nil _ _ _ _ _ | exact Kd.Q_nil _ _ _ _ _ | exact Kd.R_nil _ _ _ _ _⟩, ⟨by repeat (first | (with_reducible first | exact HB.out | apply below_alloc | apply pw_below_drewN | apply below_drew1) | exact HB.out)⟩⟩
              case round =>
                clear H'
                try clear c1
                try clear c2
                try clear p2
                try clear c3
                try clear p4
                try clear q4
                try clear hx4
                try clear qi4
                try clear c5
                try clear p6
                try clear c7
                try clear c9
                try clear c10
                try clear c11
                try clear c17
                try clear c17b0
                try clear c17b1
                try clear c18
                try clear c18b0
                try clear c18b1
                try clear c20
                try clear c20b0
                try clear c22
                try clear c22b0
                try clear c22b1
                try clear c24
                try clear hx437_0
                try clear p2
                try clear p4
                try clear p437
                try clear p6
                try clear q4
                try clear q437
                obtain ⟨x12_3, x13_3, rfl, HA, HK3, HO_1, HO_10, HO_12, HB⟩ := hrel
                cases gk with
                | zero => exact absurd HA.out (by simp [antiquarylaw09_PivotsCoverWell.l0])
                | succ k3 =>
                  have H := HA.out
                  clear HA
                  simp only [antiquarylaw09_PivotsCoverWell.l0] at H
                  by_cases c25 : x13_3 < (t433.length : Int)
                  · rw [if_pos c25] at H
                    have c25b0 : decide (x13_3 < (t433.length : Int)) = true := decide_eq_true c25
                    clear c25
                    by_cases c26 : 0 ≤ x13_3
                    · rw [if_pos c26] at H
                      have c26b0 : decide (0 ≤ x13_3) = true := decide_eq_true c26
                      clear c26
                      by_cases c27 : (rd t433 x13_3) < 0
                      · rw [if_pos c27] at H
                        have c27b0 : decide ((rd t433 x13_3) < 0) = true := decide_eq_true c27
                        clear c27
                        obtain rfl := Option.some.inj H
                        obtain ⟨Ao28, co28, eo28⟩ := Kd.R_slice HO_10.out
                        subst eo28
                        have p438 : 0 ≤ (x13_3 : Int) := of_decide_eq_true (by first | (with_reducible assumption) | assumption)
                        have q438 : x13_3 < (t433.length : Int) := of_decide_eq_true (by first | (with_reducible assumption) | assumption)
                        obtain ⟨ad438, e438, hx438_0⟩ := Kd.at_int (Kd.R_reads' HO_10.out).2.2 x13_3 p438 q438
                        cases e438
                        replace p438 := eq_true p438
                        replace q438 := eq_true q438
                        go_wp2
                        go_ret
                        exact ⟨by first | rfl | (simp [errW_none, errW_some] <;> rfl) | (simp [*, errW_none, errW_some] <;> rfl), by repeat (first | (with_reducible first | exact HB.out | apply below_alloc | apply pw_below_drewN | apply below_drew1) | exact HB.out)⟩
                      · rw [if_neg c27] at H
                        have c27b0 : decide ((rd t433 x13_3) < 0) = false := decide_eq_false c27
                        clear c27
                        by_cases c29 : (rd t433 x13_3) ≥ (l1.length : Int)
                        · rw [if_pos c29] at H
                          have c29b0 : decide ((l1.length : Int) ≤ (rd t433 x13_3)) = true := decide_eq_true c29
                          clear c29
                          obtain rfl := Option.some.inj H
                          obtain ⟨Ao30, co30, eo30⟩ := Kd.R_slice HO_10.out
                          subst eo30
                          have p438 : 0 ≤ (x13_3 : Int) := of_decide_eq_true (by first | (with_reducible assumption) | assumption)
                          have q438 : x13_3 < (t433.length : Int) := of_decide_eq_true (by first | (with_reducible assumption) | assumption)
                          obtain ⟨ad438, e438, hx438_0⟩ := Kd.at_int (Kd.R_reads' HO_10.out).2.2 x13_3 p438 q438
                          cases e438
                          replace p438 := eq_true p438
                          replace q438 := eq_true q438
                          have p439 : 0 ≤ (x13_3 : Int) := of_decide_eq_true (by first | (with_reducible assumption) | assumption)
                          have q439 : x13_3 < (t433.length : Int) := of_decide_eq_true (by first | (with_reducible assumption) | assumption)
                          obtain ⟨ad439, e439, hx439_0⟩ := Kd.at_int (Kd.R_reads' HO_10.out).2.2 x13_3 p439 q439
                          obtain rfl : ad438 = ad439 := (by injection e439)
                          replace p439 := eq_true p439
                          replace q439 := eq_true q439
                          go_wp2
                          go_ret
                          exact ⟨by first | rfl | (simp [errW_none, errW_some] <;> rfl) | (simp [*, errW_none, errW_some] <;> rfl), by repeat (first | (with_reducible first | exact HB.out | apply below_alloc | apply pw_below_drewN | apply below_drew1) | exact HB.out)⟩
                        · rw [if_neg c29] at H
                          have c29b0 : decide ((l1.length : Int) ≤ (rd t433 x13_3)) = false := decide_eq_false c29
                          clear c29
                          by_cases c31 : 0 ≤ (rd t433 x13_3)
                          · rw [if_pos c31] at H
                            have c31b0 : decide (0 ≤ (rd t433 x13_3)) = true := decide_eq_true c31
                            clear c31
                            by_cases c32 : (rd t433 x13_3) < (l1.length : Int)
                            · rw [if_pos c32] at H
                              have c32b0 : decide ((rd t433 x13_3) < (l1.length : Int)) = true := decide_eq_true c32
                              clear c32
                              by_cases c33 : x12_3.length < 5864062014805
                              · rw [if_pos c33] at H
                                have LMc33 := Aside0.mk c33
                                clear c33
                                obtain ⟨y442, hy442⟩ : ∃ y_ : List (List Int), y_ = (x12_3 ++ [rd_L1 l1 (rd t433 x13_3)]) := ⟨_, rfl⟩
                                replace H : (antiquarylaw09_PivotsCoverWell.l0 k3 a0 l1 l3 (wrap64 (1 + (Int.tmod (wrap64 (a2)) 8))) t433 y442 (wrap64 (x13_3 + 1))) = some r := by first | (rw [hy442]; with_reducible exact H) | (have H2_ := (Option.bind_some _ _).symm.trans H; rw [hy442]; with_reducible exact H2_) | (have H2_ := (Option.bind_some _ _).symm.trans H; with_reducible exact H2_) | with_reducible exact H | (rw [hy442]; exact H) | exact H
                                have Ny442 := Aside0.mk hy442
                                clear hy442
                                have H' := Aside0.mk H
                                clear H
                                obtain ⟨Ao34, co34, eo34⟩ := Kd.R_slice HO_10.out
                                subst eo34
                                have p438 : 0 ≤ (x13_3 : Int) := of_decide_eq_true (by first | (with_reducible assumption) | assumption)
                                have q438 : x13_3 < (t433.length : Int) := of_decide_eq_true (by first | (with_reducible assumption) | assumption)
                                obtain ⟨ad438, e438, hx438_0⟩ := Kd.at_int (Kd.R_reads' HO_10.out).2.2 x13_3 p438 q438
                                cases e438
                                replace p438 := eq_true p438
                                replace q438 := eq_true q438
                                have p439 : 0 ≤ (x13_3 : Int) := of_decide_eq_true (by first | (with_reducible assumption) | assumption)
                                have q439 : x13_3 < (t433.length : Int) := of_decide_eq_true (by first | (with_reducible assumption) | assumption)
                                obtain ⟨ad439, e439, hx439_0⟩ := Kd.at_int (Kd.R_reads' HO_10.out).2.2 x13_3 p439 q439
                                obtain rfl : ad438 = ad439 := (by injection e439)
                                replace p439 := eq_true p439
                                replace q439 := eq_true q439
                                have p440 : 0 ≤ (x13_3 : Int) := of_decide_eq_true (by first | (with_reducible assumption) | assumption)
                                have q440 : x13_3 < (t433.length : Int) := of_decide_eq_true (by first | (with_reducible assumption) | assumption)
                                obtain ⟨ad440, e440, hx440_0⟩ := Kd.at_int (Kd.R_reads' HO_10.out).2.2 x13_3 p440 q440
                                obtain rfl : ad438 = ad440 := (by injection e440)
                                replace p440 := eq_true p440
                                replace q440 := eq_true q440
                                have p441 : 0 ≤ ((rd t433 x13_3) : Int) := of_decide_eq_true (by first | (with_reducible assumption) | assumption)
                                have q441 : (rd t433 x13_3) < (l1.length : Int) := of_decide_eq_true (by first | (with_reducible assumption) | assumption)
                                obtain ⟨ad441, A441_0, c441_0, e441, hx441_0, hl441_0, hi441_0⟩ := at_L1 (Kd.V_reads' HO_1.out).2.2 (rd t433 x13_3) p441 q441
                                cases e441
                                obtain ⟨ce441, hce441, hMe441, hcc441⟩ := Kd.V_get HO_1.out [] (rd t433 x13_3) p441 (by first | exact q441 | exact of_decide_eq_true (by first | (with_reducible assumption) | assumption) | (have e_ := (Kd.V_reads' HO_1.out).1; omega))
                                obtain ⟨ua441_0, uc441_0, rfl, ul441_0, ge441_0⟩ := Kd.FK_slice_open hMe441
                                have hv441_0 := hcc441 0 _ rfl
                                rw [Nat.add_zero, show ((Kd.slice 3 (Kd.int .i64))).sz = 1 from rfl, Nat.mul_one] at hv441_0
                                replace hv441_0 := Option.some.inj (hv441_0.symm.trans hx441_0)
                                injection hv441_0 with hva_ hvn_ hvc_
                                rw [hva_] at ge441_0
                                rw [hvc_] at ul441_0
                                have HL441_0 := Aside0.mk (show Kd.V (Kd.int .i64) 3 _ w.heap.size _ _ (rd_L1 l1 (rd t433 x13_3)) from Kd.V_mk ul441_0 ge441_0)
                                clear hva_ hvn_ hvc_ ge441_0 ul441_0
                                clear hcc441 hce441
                                have HR441_0 := Aside0.mk hi441_0
                                have HC441_0 := Aside0.mk hl441_0
                                clear hi441_0 hl441_0
                                replace p441 := eq_true p441
                                replace q441 := eq_true q441
                                go_wp2_with (first | ((with_reducible refine gate_builtin (b := .append) (xs := #[.tmp 85, .tmp 93]) rfl ?_); (try (refine gate_guard (by rfl) ?_; dsimp only)); at_builtin; refine Kd.N_append (Kd.slice 3 (Kd.int .i64)) (w0 := w) w.heap.size rfl (.tmp 85) (.tmp 93) 22 23 (.slice none 0 0) 24 rfl Try.underlying22 info23 rfl (by decide) (by omega) u12 x12_3 (rd_L1 l1 (rd t433 x13_3)) [.slice A441_0 (rd_L1 l1 (rd t433 x13_3)).length c441_0] (fun k_ => (P1_ k_ ∨ w.heap.size ≤ k_) ∧ some k_ ≠ (.slice (some ad438) t433.length co34 : Value).ownBlock) (fun k_ => ((fun k_ => (P1_ k_ ∨ w.heap.size ≤ k_) ∧ some k_ ≠ (.slice (some ad438) t433.length co34 : Value).ownBlock)) k_ ∧ some k_ ≠ (u12 : Value).ownBlock) rfl rfl ?aP (fun _ hk => hk) ?aF ?aO ?aB ?aS ?aL ?_; (case aP => exact (Kd.FK_slice_mk (Kd.V_reads' (Kd.V_mono (ok' := (fun k_ => ((fun k_ => (P1_ k_ ∨ w.heap.size ≤ k_) ∧ some k_ ≠ (.slice (some ad438) t433.length co34 : Value).ownBlock)) k_ ∧ some k_ ≠ (u12 : Value).ownBlock)) (HL441_0.out) (fun k_ hk => ⟨⟨hk.1, hk.2.1⟩, hk.2.2⟩))).2.1 (Kd.V_F (Kd.V_mono (ok' := (fun k_ => ((fun k_ => (P1_ k_ ∨ w.heap.size ≤ k_) ∧ some k_ ≠ (.slice (some ad438) t433.length co34 : Value).ownBlock)) k_ ∧ some k_ ≠ (u12 : Value).ownBlock)) (HL441_0.out) (fun k_ hk => ⟨⟨hk.1, hk.2.1⟩, hk.2.2⟩))))); (case aB => exact (by repeat (first | (with_reducible first | exact HB.out | apply below_alloc | apply pw_below_drewN | apply below_drew1) | exact HB.out))); (case aF => exact (fun k_ hk => ⟨(.inr (Nat.le_trans (below_size (by repeat (first | (with_reducible first | exact HB.out | apply below_alloc | apply pw_below_drewN | apply below_drew1) | exact HB.out))) hk)), Kd.fresh' (Kd.R_lt (by (with_reducible repeat (first | apply Kd.R_alloc | apply Kd.R_drewN | apply Kd.R_drew)); exact HO_10.out)) k_ hk⟩)); (case aO => exact (by (with_reducible repeat (first | apply Kd.N_alloc | apply Kd.N_drewN | apply Kd.N_drew)); exact HO_12.out)); (case aS => exact (below_size (by repeat (first | (with_reducible first | exact HB.out | apply below_alloc | apply pw_below_drewN | apply below_drew1) | exact HB.out)))); (case aL => have := LMc33.out; omega); intro v443 w35 ho hb hg hat; rw [← Ny442.out] at ho; have n0_ := Aside0.mk (Kd.V_afterv (ok := (fun k_ => (P1_ k_ ∨ w.heap.size ≤ k_) ∧ some k_ ≠ (.slice (some ad438) t433.length co34 : Value).ownBlock)) (by (with_reducible repeat (first | apply Kd.V_alloc | apply Kd.V_drewN | apply Kd.V_drew)); exact Kd.V_mono HO_1.out (fun _ hk => ⟨⟨hk.1, hk.2.1⟩, hk.2.2⟩)) hg hat); have n1_ := Aside0.mk (Kd.R_over' (by (with_reducible repeat (first | apply Kd.R_alloc | apply Kd.R_drewN | apply Kd.R_drew)); exact HO_10.out) (Kd.N_typed (by (with_reducible repeat (first | apply Kd.N_alloc | apply Kd.N_drewN | apply Kd.N_drew)); exact HO_12.out)) (by decide) hg); have n2_ := Aside0.mk (Kd.V_afterv (ok := (fun k_ => (P1_ k_ ∨ w.heap.size ≤ k_) ∧ some k_ ≠ (.slice (some ad438) t433.length co34 : Value).ownBlock)) (by (with_reducible repeat (first | apply Kd.V_alloc | apply Kd.V_drewN | apply Kd.V_drew)); exact Kd.V_mono HL441_0.out (fun _ hk => ⟨⟨hk.1, hk.2.1⟩, hk.2.2⟩)) hg hat); have n3_ := Aside0.mk (hb); have n4_ := Aside0.mk (ho); clear HO_1; clear HO_10; clear HL441_0; clear HB; clear HO_12; have HO_1 := n0_; have HO_10 := n1_; have HL441_0 := n2_; have HB := n3_; have HO444 := n4_; clear n0_ n1_ n2_ n3_ n4_; clear ho hb hg hat))
                                go_roundg k3
                                case measure => have := HJ4.out; have := HJ14.out; have := HK3.out; omega
                                case rel => exact ⟨(y442), (wrap64 (x13_3 + 1)), (by first | rfl | (simp; done) | (simp [*]; done)), H', ⟨by have := HJ4.out; have := HJ14.out; have := HK3.out; omega⟩, ⟨by (with_reducible repeat (first | apply Kd.V_alloc | apply Kd.V_drewN | apply Kd.V_drew)); exact Kd.V_mono HO_1.out (fun _ hk => ⟨hk.1.1, ⟨hk.1.2, hk.2⟩⟩)⟩, ⟨by (with_reducible repeat (first | apply Kd.R_alloc | apply Kd.R_drewN | apply Kd.R_drew)); exact HO_10.out⟩, ⟨by (with_reducible repeat (first | apply Kd.N_alloc | apply Kd.N_drewN | apply Kd.N_drew)); exact HO444.out⟩, ⟨by repeat (first | (with_reducible first | exact HB.out | apply below_alloc | apply pw_below_drewN | apply below_drew1) | exact HB.out)⟩⟩
                              · rw [if_neg c33] at H
                                exact absurd H (by simp)
                            · rw [if_neg c32] at H
                              exact absurd H (by simp)
                          · rw [if_neg c31] at H
                            exact absurd H (by simp)
                    · rw [if_neg c26] at H
                      exact absurd H (by simp)
                  · rw [if_neg c25] at H
                    have c25b0 : decide (x13_3 < (t433.length : Int)) = false := decide_eq_false c25
                    clear c25
                    replace H := Option.bind_eq_some_iff.mp H
                    obtain ⟨⟨t445, t446⟩, A360, H⟩ := H
                    replace H : (if t446 = 0 then (if (t433.length : Int) < (wrap64 (1 + (Int.tmod (wrap64 (a2)) 8))) then (antiquarylaw09_PivotsCoverWell.j3 k3 a0 l1 l3 (wrap64 (1 + (Int.tmod (wrap64 (a2)) 8))) x12_3 t445 (t445 != 0)) else (antiquarylaw09_PivotsCoverWell.j3 k3 a0 l1 l3 (wrap64 (1 + (Int.tmod (wrap64 (a2)) 8))) x12_3 t445 false)) else (antiquarylaw09_PivotsCoverWell.j3 k3 a0 l1 l3 (wrap64 (1 + (Int.tmod (wrap64 (a2)) 8))) x12_3 t445 true)) = some r := H
                    have A36 := Aside0.mk A360
                    clear A360
                    have HC37 := Aside0.mk H
                    clear H
                    obtain ⟨Ao38, co38, eo38⟩ := Kd.R_slice HO_10.out
                    subst eo38
                    obtain ⟨Ao39, co39, eo39⟩ := Kd.N_slice HO_12.out
                    subst eo39
                    go_upto_region 15 with (first | ((with_reducible refine gate_callee (f := 13) rfl ?_); refine goesL_ (some 99) rfl rfl Try.func13 (by kernel_rfl) rfl #[.int .i64 a0, .slice Ao39 x12_3.length co39, .slice A1 l1.length c1] rfl (by (try simp only [List.map_toArray, List.map_cons, List.map_nil]); first | done | rfl | (simp only [List.length_drop, List.length_take]; rfl)) ?_; (with_reducible refine (pivot_Cover.calls k3 a0 _ _ x12_3 _ _ l1 t445 t446 _ ?side1 ?side2 ?side3 ?side4 A36.out).mono ?_); (case side1 => repeat (first | exact (Kd.N_reads' HO_12.out).2.2 | (with_reducible refine Kd.C_alloc ?_ _) | (with_reducible refine Kd.C_drewN ?_ _) | (with_reducible refine Kd.C_drew ?_))); (case side2 => exact (Kd.N_reads' HO_12.out).2.1); (case side3 => repeat (first | exact (Kd.V_reads' HO_1.out).2.2 | (with_reducible refine Kd.C_alloc ?_ _) | (with_reducible refine Kd.C_drewN ?_ _) | (with_reducible refine Kd.C_drew ?_))); (case side4 => exact (Kd.V_reads' HO_1.out).2.1); rintro e w40 ⟨rfl, hb⟩; refine ⟨_, rfl, ?_⟩; have n0_ := Aside0.mk (Kd.V_below (by (with_reducible repeat (first | apply Kd.V_alloc | apply Kd.V_drewN | apply Kd.V_drew)); exact HO_1.out) hb); have n1_ := Aside0.mk (Kd.R_below (by (with_reducible repeat (first | apply Kd.R_alloc | apply Kd.R_drewN | apply Kd.R_drew)); exact HO_10.out) hb); have n2_ := Aside0.mk (Kd.N_below (by (with_reducible repeat (first | apply Kd.N_alloc | apply Kd.N_drewN | apply Kd.N_drew)); exact HO_12.out) hb); have n3_ := Aside0.mk (below_step (by repeat (first | (with_reducible first | exact HB.out | apply below_alloc | apply pw_below_drewN | apply below_drew1) | exact HB.out)) hb); clear HO_1; clear HO_10; clear HO_12; clear HB; have HO_1 := n0_; have HO_10 := n1_; have HO_12 := n2_; have HB := n3_; clear n0_ n1_ n2_ n3_; (try clear hb); (try clear hb2); (try clear hk); (try clear hi)))
                    (try simp only [Act.put, List.setIfInBounds_toArray, List.set_cons_zero, List.set_cons_succ])
                    go_cut [113] (fun v113 wc => ∃ (kq : Nat) (x113_36 : Bool), v113 = .bool x113_36 ∧ Aside0 (antiquarylaw09_PivotsCoverWell.j3 kq a0 l1 l3 (wrap64 (1 + (Int.tmod (wrap64 (a2)) 8))) x12_3 t445 x113_36 = some r) ∧ Aside0 (kq ≤ k3) ∧ Aside0 (Kd.V (Kd.slice 3 (Kd.int .i64)) 23 wc w.heap.size (fun k_ => (P1_ k_ ∨ w.heap.size ≤ k_) ∧ some k_ ≠ ((.slice Ao39 x12_3.length co39) : Value).ownBlock) (.slice A1 l1.length c1) l1) ∧ Aside0 (Kd.N (Kd.slice 3 (Kd.int .i64)) 23 wc w.heap.size (fun k_ => (P1_ k_ ∨ w.heap.size ≤ k_)) (.slice Ao39 x12_3.length co39) x12_3) ∧ Aside0 (Below w.heap.size w wc))
                    case first =>
                      have H := HC37.out
                      clear HC37
                      by_cases c41 : t446 = 0
                      · rw [if_pos c41] at H
                        have c41b0 : (t446 == 0) = true := beq_iff_eq.mpr c41
                        have c41b1 : (t446 != 0) = false := bne_eq_false_iff_eq.mpr c41
                        clear c41
                        (first | rw [c41b0] | (simp only [i64_w, i32_w]; rw [c41b0]) | skip)
                        by_cases c42 : (t433.length : Int) < (wrap64 (1 + (Int.tmod (wrap64 (a2)) 8)))
                        · rw [if_pos c42] at H
                          have c42b0 : decide ((t433.length : Int) < (wrap64 (1 + (Int.tmod (wrap64 (a2)) 8)))) = true := decide_eq_true c42
                          clear c42
                          have H' := Aside0.mk H
                          clear H
                          go_wp2
                          go_meet
                          case rel => exact ⟨_, ((t445 != 0)), (by first | rfl | (simp; done) | (simp [*]; done)), H', ⟨by have := HJ4.out; have := HJ14.out; have := HK3.out; first | omega | exact Nat.le_refl _⟩, ⟨by (with_reducible repeat (first | apply Kd.V_alloc | apply Kd.V_drewN | apply Kd.V_drew)); exact Kd.V_mono HO_1.out (fun _ hk => ⟨hk.1, hk.2.2⟩)⟩, ⟨by (with_reducible repeat (first | apply Kd.N_alloc | apply Kd.N_drewN | apply Kd.N_drew)); exact Kd.N_mono HO_12.out (fun _ hk => hk.1)⟩, ⟨by repeat (first | (with_reducible first | exact HB.out | apply below_alloc | apply pw_below_drewN | apply below_drew1) | exact HB.out)⟩⟩
                        · rw [if_neg c42] at H
                          have c42b0 : decide ((t433.length : Int) < (wrap64 (1 + (Int.tmod (wrap64 (a2)) 8)))) = false := decide_eq_false c42
                          clear c42
                          have H' := Aside0.mk H
                          clear H
                          go_wp2
                          go_meet
                          case rel => exact ⟨_, (false), (by first | rfl | (simp; done) | (simp [*]; done)), H', ⟨by have := HJ4.out; have := HJ14.out; have := HK3.out; first | omega | exact Nat.le_refl _⟩, ⟨by (with_reducible repeat (first | apply Kd.V_alloc | apply Kd.V_drewN | apply Kd.V_drew)); exact Kd.V_mono HO_1.out (fun _ hk => ⟨hk.1, hk.2.2⟩)⟩, ⟨by (with_reducible repeat (first | apply Kd.N_alloc | apply Kd.N_drewN | apply Kd.N_drew)); exact Kd.N_mono HO_12.out (fun _ hk => hk.1)⟩, ⟨by repeat (first | (with_reducible first | exact HB.out | apply below_alloc | apply pw_below_drewN | apply below_drew1) | exact HB.out)⟩⟩
                      · rw [if_neg c41] at H
                        have c41b0 : (t446 == 0) = false := beq_eq_false_iff_ne.mpr c41
                        have c41b1 : (t446 != 0) = true := bne_iff_ne.mpr c41
                        (first | rw [c41b0] | (simp only [i64_w, i32_w]; rw [c41b0]) | skip)
                        have H' := Aside0.mk H
                        clear H
                        go_wp2
                        go_meet
                        case rel => exact ⟨_, (true), (by first | rfl | (simp; done) | (simp [*]; done)), H', ⟨by have := HJ4.out; have := HJ14.out; have := HK3.out; first | omega | exact Nat.le_refl _⟩, ⟨by (with_reducible repeat (first | apply Kd.V_alloc | apply Kd.V_drewN | apply Kd.V_drew)); exact Kd.V_mono HO_1.out (fun _ hk => ⟨hk.1, hk.2.2⟩)⟩, ⟨by (with_reducible repeat (first | apply Kd.N_alloc | apply Kd.N_drewN | apply Kd.N_drew)); exact Kd.N_mono HO_12.out (fun _ hk => hk.1)⟩, ⟨by repeat (first | (with_reducible first | exact HB.out | apply below_alloc | apply pw_below_drewN | apply below_drew1) | exact HB.out)⟩⟩
                    case rest =>
                      clear HC37
                      try clear c1
                      try clear c2
                      try clear p2
                      try clear c3
                      try clear c4
                      try clear p4
                      try clear q4
                      try clear hx4
                      try clear qi4
                      try clear c5
                      try clear p6
                      try clear c7
                      try clear c9
                      try clear c10
                      try clear c11
                      try clear c13
                      try clear c17
                      try clear c17b0
                      try clear c17b1
                      try clear c18
                      try clear c18b0
                      try clear c18b1
                      try clear c20
                      try clear c20b0
                      try clear c22
                      try clear c22b0
                      try clear c22b1
                      try clear c24
                      try clear c25
                      try clear c25b0
                      try clear c26
                      try clear c26b0
                      try clear c27
                      try clear c27b0
                      try clear c29
                      try clear c29b0
                      try clear c31
                      try clear c31b0
                      try clear c32
                      try clear c32b0
                      try clear c33
                      try clear c41
                      try clear c41b0
                      try clear c41b1
                      try clear c42
                      try clear c42b0
                      try clear hx437_0
                      try clear hx438_0
                      try clear hx439_0
                      try clear hx440_0
                      try clear hx441_0
                      try clear p2
                      try clear p4
                      try clear p437
                      try clear p438
                      try clear p439
                      try clear p440
                      try clear p441
                      try clear p6
                      try clear q4
                      try clear q437
                      try clear q438
                      try clear q439
                      try clear q440
                      try clear q441
                      obtain ⟨kq, x113_36, rfl, HA, HJ36, HO_1, HO_12, HB⟩ := hcut
                      cases kq with
                      | zero => exact absurd HA.out (by simp [antiquarylaw09_PivotsCoverWell.j3])
                      | succ kj36 =>
                        have H := HA.out
                        clear HA
                        simp only [antiquarylaw09_PivotsCoverWell.j3] at H
                        by_cases c43 : x113_36 = true
                        · subst c43
                          have H1 : (some false) = some r := by rw [if_pos rfl] at H; exact H
                          clear H
                          have H := H1
                          clear H1
                          exact absurd (Option.some.inj H) (by rw [HT.out]; decide)
                        · replace c43 := Bool.eq_false_iff.mpr c43
                          subst c43
                          have H1 : (antiquarylaw09_PivotsCoverWell.l1 kj36 a0 l1 l3 (wrap64 (1 + (Int.tmod (wrap64 (a2)) 8))) x12_3 t445 0) = some r := by rw [if_neg (show ¬ (false = true) by decide)] at H; exact H
                          clear H
                          have H := H1
                          clear H1
                          have H' := Aside0.mk H
                          clear H
                          go_wp2
                          go_loopg [16] kj36 (fun kq v16 w' => ∃ (x16_5 : Int), v16 = .int .i64 x16_5 ∧ Aside0 (antiquarylaw09_PivotsCoverWell.l1 kq a0 l1 l3 (wrap64 (1 + (Int.tmod (wrap64 (a2)) 8))) x12_3 t445 x16_5 = some r) ∧ Aside0 (kq ≤ kj36) ∧ Aside0 (Kd.V (Kd.slice 3 (Kd.int .i64)) 23 w' w.heap.size (fun k_ => (P1_ k_ ∨ w.heap.size ≤ k_) ∧ some k_ ≠ ((.slice Ao39 x12_3.length co39) : Value).ownBlock) (.slice A1 l1.length c1) l1) ∧ Aside0 (Kd.N (Kd.slice 3 (Kd.int .i64)) 23 w' w.heap.size (fun k_ => (P1_ k_ ∨ w.heap.size ≤ k_)) (.slice Ao39 x12_3.length co39) x12_3) ∧ Aside0 (Below w.heap.size w w'))
                          case atStart => exact ⟨(0), (by first | rfl | (simp; done) | (simp [*]; done)), H', ⟨Nat.le_refl _⟩, ⟨by (with_reducible repeat (first | apply Kd.V_alloc | apply Kd.V_drewN | apply Kd.V_drew)); exact HO_1.out⟩, ⟨by (with_reducible repeat (first | apply Kd.N_alloc | apply Kd.N_drewN | apply Kd.N_drew)); exact HO_12.out⟩, ⟨by repeat (first | (with_reducible first | exact HB.out | apply below_alloc | apply pw_below_drewN | apply below_drew1) | exact HB.out)⟩⟩
                          case round =>
                            clear H'
                            try clear c1
                            try clear c2
                            try clear p2
                            try clear c3
                            try clear c4
                            try clear p4
                            try clear q4
                            try clear hx4
                            try clear qi4
                            try clear c5
                            try clear p6
                            try clear c7
                            try clear c9
                            try clear c10
                            try clear c11
                            try clear c13
                            try clear c17
                            try clear c17b0
                            try clear c17b1
                            try clear c18
                            try clear c18b0
                            try clear c18b1
                            try clear c20
                            try clear c20b0
                            try clear c22
                            try clear c22b0
                            try clear c22b1
                            try clear c24
                            try clear c25
                            try clear c25b0
                            try clear c26
                            try clear c26b0
                            try clear c27
                            try clear c27b0
                            try clear c29
                            try clear c29b0
                            try clear c31
                            try clear c31b0
                            try clear c32
                            try clear c32b0
                            try clear c33
                            try clear c41
                            try clear c41b0
                            try clear c41b1
                            try clear c42
                            try clear c42b0
                            try clear c43
                            try clear p43
                            try clear q43
                            try clear hx43
                            try clear qi43
                            try clear hx437_0
                            try clear hx438_0
                            try clear hx439_0
                            try clear hx440_0
                            try clear hx441_0
                            try clear p2
                            try clear p4
                            try clear p437
                            try clear p438
                            try clear p439
                            try clear p440
                            try clear p441
                            try clear p6
                            try clear q4
                            try clear q437
                            try clear q438
                            try clear q439
                            try clear q440
                            try clear q441
                            obtain ⟨x16_5, rfl, HA, HK5, HO_1, HO_12, HB⟩ := hrel
                            cases gk with
                            | zero => exact absurd HA.out (by simp [antiquarylaw09_PivotsCoverWell.l1])
                            | succ k5 =>
                              have H := HA.out
                              clear HA
                              simp only [antiquarylaw09_PivotsCoverWell.l1] at H
                              by_cases c44 : x16_5 < (x12_3.length : Int)
                              · rw [if_pos c44] at H
                                have c44b0 : decide (x16_5 < (x12_3.length : Int)) = true := decide_eq_true c44
                                clear c44
                                have H' := Aside0.mk H
                                clear H
                                go_wp2
                                go_loopg [17] k5 (fun kq v17 w' => ∃ (x17_6 : Int), v17 = .int .i64 x17_6 ∧ Aside0 (antiquarylaw09_PivotsCoverWell.l2 kq a0 l1 l3 (wrap64 (1 + (Int.tmod (wrap64 (a2)) 8))) x12_3 t445 x16_5 x17_6 = some r) ∧ Aside0 (kq ≤ k5) ∧ Aside0 (Kd.V (Kd.slice 3 (Kd.int .i64)) 23 w' w.heap.size (fun k_ => (P1_ k_ ∨ w.heap.size ≤ k_) ∧ some k_ ≠ ((.slice Ao39 x12_3.length co39) : Value).ownBlock) (.slice A1 l1.length c1) l1) ∧ Aside0 (Kd.N (Kd.slice 3 (Kd.int .i64)) 23 w' w.heap.size (fun k_ => (P1_ k_ ∨ w.heap.size ≤ k_)) (.slice Ao39 x12_3.length co39) x12_3) ∧ Aside0 (Below w.heap.size w w'))
                                case atStart => exact ⟨(0), (by first | rfl | (simp; done) | (simp [*]; done)), H', ⟨Nat.le_refl _⟩, ⟨by (with_reducible repeat (first | apply Kd.V_alloc | apply Kd.V_drewN | apply Kd.V_drew)); exact HO_1.out⟩, ⟨by (with_reducible repeat (first | apply Kd.N_alloc | apply Kd.N_drewN | apply Kd.N_drew)); exact HO_12.out⟩, ⟨by repeat (first | (with_reducible first | exact HB.out | apply below_alloc | apply pw_below_drewN | apply below_drew1) | exact HB.out)⟩⟩
                                case round =>
                                  clear H'
                                  try clear c1
                                  try clear c2
                                  try clear p2
                                  try clear c3
                                  try clear c4
                                  try clear p4
                                  try clear q4
                                  try clear hx4
                                  try clear qi4
                                  try clear c5
                                  try clear p6
                                  try clear c7
                                  try clear c9
                                  try clear c10
                                  try clear c11
                                  try clear c13
                                  try clear c17
                                  try clear c17b0
                                  try clear c17b1
                                  try clear c18
                                  try clear c18b0
                                  try clear c18b1
                                  try clear c20
                                  try clear c20b0
                                  try clear c22
                                  try clear c22b0
                                  try clear c22b1
                                  try clear c24
                                  try clear c25
                                  try clear c25b0
                                  try clear c26
                                  try clear c26b0
                                  try clear c27
                                  try clear c27b0
                                  try clear c29
                                  try clear c29b0
                                  try clear c31
                                  try clear c31b0
                                  try clear c32
                                  try clear c32b0
                                  try clear c33
                                  try clear c41
                                  try clear c41b0
                                  try clear c41b1
                                  try clear c42
                                  try clear c42b0
                                  try clear c43
                                  try clear p43
                                  try clear q43
                                  try clear hx43
                                  try clear qi43
                                  try clear c44
                                  try clear c44b0
                                  try clear p44
                                  try clear q44
                                  try clear hx44
                                  try clear hx437_0
                                  try clear hx438_0
                                  try clear hx439_0
                                  try clear hx440_0
                                  try clear hx441_0
                                  try clear p2
                                  try clear p4
                                  try clear p43
                                  try clear p437
                                  try clear p438
                                  try clear p439
                                  try clear p440
                                  try clear p441
                                  try clear p6
                                  try clear q4
                                  try clear q43
                                  try clear q437
                                  try clear q438
                                  try clear q439
                                  try clear q440
                                  try clear q441
                                  obtain ⟨x17_6, rfl, HA, HK6, HO_1, HO_12, HB⟩ := hrel
                                  cases gk with
                                  | zero => exact absurd HA.out (by simp [antiquarylaw09_PivotsCoverWell.l2])
                                  | succ k6 =>
                                    have H := HA.out
                                    clear HA
                                    simp only [antiquarylaw09_PivotsCoverWell.l2] at H
                                    by_cases c45 : x17_6 < x16_5
                                    · rw [if_pos c45] at H
                                      have c45b0 : decide (x17_6 < x16_5) = true := decide_eq_true c45
                                      clear c45
                                      by_cases c46 : 0 ≤ x16_5
                                      · rw [if_pos c46] at H
                                        have c46b0 : decide (0 ≤ x16_5) = true := decide_eq_true c46
                                        clear c46
                                        by_cases c47 : x16_5 < (x12_3.length : Int)
                                        · rw [if_pos c47] at H
                                          have c47b0 : decide (x16_5 < (x12_3.length : Int)) = true := decide_eq_true c47
                                          clear c47
                                          by_cases c48 : 0 ≤ x17_6
                                          · rw [if_pos c48] at H
                                            have c48b0 : decide (0 ≤ x17_6) = true := decide_eq_true c48
                                            clear c48
                                            by_cases c49 : x17_6 < (x12_3.length : Int)
                                            · rw [if_pos c49] at H
                                              have c49b0 : decide (x17_6 < (x12_3.length : Int)) = true := decide_eq_true c49
                                              clear c49
                                              replace H := Option.bind_eq_some_iff.mp H
                                              obtain ⟨t449, A500, H⟩ := H
                                              replace H : (if t449 = 0 then (some false) else (if t449 < t445 then (some false) else (antiquarylaw09_PivotsCoverWell.l2 k6 a0 l1 l3 (wrap64 (1 + (Int.tmod (wrap64 (a2)) 8))) x12_3 t445 x16_5 (wrap64 (x17_6 + 1))))) = some r := H
                                              have A50 := Aside0.mk A500
                                              clear A500
                                              by_cases c51 : t449 = 0
                                              · rw [if_pos c51] at H
                                                have c51b0 : (t449 == 0) = true := beq_iff_eq.mpr c51
                                                have c51b1 : (t449 != 0) = false := bne_eq_false_iff_eq.mpr c51
                                                clear c51
                                                exact absurd (Option.some.inj H) (by rw [HT.out]; decide)
                                              · rw [if_neg c51] at H
                                                have c51b0 : (t449 == 0) = false := beq_eq_false_iff_ne.mpr c51
                                                have c51b1 : (t449 != 0) = true := bne_iff_ne.mpr c51
                                                by_cases c54 : t449 < t445
                                                · rw [if_pos c54] at H
                                                  have c54b0 : decide (t449 < t445) = true := decide_eq_true c54
                                                  clear c54
                                                  exact absurd (Option.some.inj H) (by rw [HT.out]; decide)
                                                · rw [if_neg c54] at H
                                                  have c54b0 : decide (t449 < t445) = false := decide_eq_false c54
                                                  clear c54
                                                  have H' := Aside0.mk H
                                                  clear H
                                                  try go_wp2
                                                  have n0_ := Aside0.mk (Kd.V_drew HO_1.out)
                                                  have n1_ := Aside0.mk (Kd.N_drew HO_12.out)
                                                  have n2_ := Aside0.mk (below_drew1 HB.out)
                                                  clear HO_1
                                                  clear HO_12
                                                  clear HB
                                                  have HO_1 := n0_
                                                  have HO_12 := n1_
                                                  have HB := n2_
                                                  clear n0_ n1_ n2_
                                                  have p447 : 0 ≤ (x16_5 : Int) := of_decide_eq_true (by first | (with_reducible assumption) | assumption)
                                                  have q447 : x16_5 < (x12_3.length : Int) := of_decide_eq_true (by first | (with_reducible assumption) | assumption)
                                                  obtain ⟨ad447, A447_0, c447_0, e447, hx447_0, hl447_0, hi447_0⟩ := at_L1 (Kd.N_reads' HO_12.out).2.2 x16_5 p447 q447
                                                  cases e447
                                                  obtain ⟨ce447, hce447, hMe447, hcc447⟩ := Kd.N_get HO_12.out [] x16_5 p447 (by first | exact q447 | exact of_decide_eq_true (by first | (with_reducible assumption) | assumption) | (have e_ := (Kd.N_reads' HO_12.out).1; omega))
                                                  obtain ⟨ua447_0, uc447_0, rfl, ul447_0, ge447_0⟩ := Kd.FK_slice_open hMe447
                                                  have hv447_0 := hcc447 0 _ rfl
                                                  rw [Nat.add_zero, show ((Kd.slice 3 (Kd.int .i64))).sz = 1 from rfl, Nat.mul_one] at hv447_0
                                                  replace hv447_0 := Option.some.inj (hv447_0.symm.trans hx447_0)
                                                  injection hv447_0 with hva_ hvn_ hvc_
                                                  rw [hva_] at ge447_0
                                                  rw [hvc_] at ul447_0
                                                  have HL447_0 := Aside0.mk (show Kd.V (Kd.int .i64) 3 _ w.heap.size _ _ (rd_L1 x12_3 x16_5) from Kd.V_mk ul447_0 ge447_0)
                                                  clear hva_ hvn_ hvc_ ge447_0 ul447_0
                                                  clear hcc447 hce447
                                                  have HR447_0 := Aside0.mk hi447_0
                                                  have HC447_0 := Aside0.mk hl447_0
                                                  clear hi447_0 hl447_0
                                                  replace p447 := eq_true p447
                                                  replace q447 := eq_true q447
                                                  have p448 : 0 ≤ (x17_6 : Int) := of_decide_eq_true (by first | (with_reducible assumption) | assumption)
                                                  have q448 : x17_6 < (x12_3.length : Int) := of_decide_eq_true (by first | (with_reducible assumption) | assumption)
                                                  obtain ⟨ad448, A448_0, c448_0, e448, hx448_0, hl448_0, hi448_0⟩ := at_L1 (Kd.N_reads' HO_12.out).2.2 x17_6 p448 q448
                                                  obtain rfl : ad447 = ad448 := (by injection e448)
                                                  obtain ⟨ce448, hce448, hMe448, hcc448⟩ := Kd.N_get HO_12.out [] x17_6 p448 (by first | exact q448 | exact of_decide_eq_true (by first | (with_reducible assumption) | assumption) | (have e_ := (Kd.N_reads' HO_12.out).1; omega))
                                                  obtain ⟨ua448_0, uc448_0, rfl, ul448_0, ge448_0⟩ := Kd.FK_slice_open hMe448
                                                  have hv448_0 := hcc448 0 _ rfl
                                                  rw [Nat.add_zero, show ((Kd.slice 3 (Kd.int .i64))).sz = 1 from rfl, Nat.mul_one] at hv448_0
                                                  replace hv448_0 := Option.some.inj (hv448_0.symm.trans hx448_0)
                                                  injection hv448_0 with hva_ hvn_ hvc_
                                                  rw [hva_] at ge448_0
                                                  rw [hvc_] at ul448_0
                                                  have HL448_0 := Aside0.mk (show Kd.V (Kd.int .i64) 3 _ w.heap.size _ _ (rd_L1 x12_3 x17_6) from Kd.V_mk ul448_0 ge448_0)
                                                  clear hva_ hvn_ hvc_ ge448_0 ul448_0
                                                  clear hcc448 hce448
                                                  have HR448_0 := Aside0.mk hi448_0
                                                  have HC448_0 := Aside0.mk hl448_0
                                                  clear hi448_0 hl448_0
                                                  replace p448 := eq_true p448
                                                  replace q448 := eq_true q448
                                                  refine start_ (n := 11) (S := fun w' => w'.cell? (ad447.add (x16_5).toNat) = some (.slice A447_0 (rd_L1 x12_3 x16_5).length c447_0) ∧ w'.cell? (ad447.add (x17_6).toNat) = some (.slice A448_0 (rd_L1 x12_3 x17_6).length c448_0)) (ds := []) #[false, false, false, false, false, false, false, false, false, false, false] (by kernel_rfl) rfl rfl ⟨hx447_0, hx448_0⟩ (fun hHeld => ?_); refine with_tabW antiquarylaw09_PivotsCoverWell.tab23 antiquarylaw09_PivotsCoverWell.bits23 (fun HT_ HW_ => ?_)
                                                  generalize wr.drew = w57 at HO_1 HO_12 HB HL447_0 HL448_0 HR447_0 HR448_0 hx447_0 hx448_0 hHeld ⊢
                                                  refine pure_ (i := 0) (N := some 125) (v := ?_) (a' := ?_) #[true, false, false, false, false, false, false, false, false, false, false] rfl rfl (any_of HT_.out (by kernel_rfl)) (fun _ _ _ h => h) (Or.inl ⟨by rfl, ?_⟩) ?_ ?_
                                                  rotate_left
                                                  · intro w'
                                                    go_simp
                                                    with_reducible rfl
                                                  rotate_left
                                                  · simp only [Act.put, List.setIfInBounds_toArray, List.set_cons_zero, List.set_cons_succ, i64_w, i32_w]
                                                    rfl
                                                  refine pure_ (i := 1) (N := some 126) (v := ?_) (a' := ?_) #[true, true, false, false, false, false, false, false, false, false, false] rfl rfl (any_of HT_.out (by kernel_rfl)) (fun _ _ _ h => h) (Or.inl ⟨by rfl, ?_⟩) ?_ ?_
                                                  rotate_left
                                                  · intro w'
                                                    go_simp
                                                    with_reducible rfl
                                                  rotate_left
                                                  · simp only [Act.put, List.setIfInBounds_toArray, List.set_cons_zero, List.set_cons_succ, i64_w, i32_w]
                                                    rfl
                                                  refine pure_ (i := 2) (N := some 127) (v := ?_) (a' := ?_) #[true, true, true, false, false, false, false, false, false, false, false] rfl rfl (any_of HT_.out (by kernel_rfl)) (fun _ _ _ h => h) (Or.inl ⟨by rfl, ?_⟩) ?_ ?_
                                                  rotate_left
                                                  · intro w'
                                                    go_simp
                                                    with_reducible rfl
                                                  rotate_left
                                                  · simp only [Act.put, List.setIfInBounds_toArray, List.set_cons_zero, List.set_cons_succ, i64_w, i32_w]
                                                    rfl
                                                  refine pure_ (i := 3) (N := some 128) (v := ?_) (a' := ?_) #[true, true, true, true, false, false, false, false, false, false, false] rfl rfl (any_of HT_.out (by kernel_rfl)) (fun _ _ _ h => h) (Or.inl ⟨by rfl, ?_⟩) ?_ ?_
                                                  rotate_left
                                                  · intro w'
                                                    go_simp
                                                    with_reducible rfl
                                                  rotate_left
                                                  · simp only [Act.put, List.setIfInBounds_toArray, List.set_cons_zero, List.set_cons_succ, i64_w, i32_w]
                                                    rfl
                                                  refine pure_ (i := 5) (N := some 130) (v := ?_) (a' := ?_) #[true, true, true, true, false, true, false, false, false, false, false] rfl rfl (any_of HT_.out (by kernel_rfl)) (fun _ _ _ h => h) (Or.inl ⟨by rfl, ?_⟩) ?_ ?_
                                                  rotate_left
                                                  · intro w'
                                                    go_simp
                                                    with_reducible rfl
                                                  rotate_left
                                                  · simp only [Act.put, List.setIfInBounds_toArray, List.set_cons_zero, List.set_cons_succ, i64_w, i32_w]
                                                    rfl
                                                  refine pure_ (i := 6) (N := some 131) (v := ?_) (a' := ?_) #[true, true, true, true, false, true, true, false, false, false, false] rfl rfl (any_of HT_.out (by kernel_rfl)) (fun _ _ _ h => h) (Or.inl ⟨by rfl, ?_⟩) ?_ ?_
                                                  rotate_left
                                                  · intro w'
                                                    go_simp
                                                    with_reducible rfl
                                                  rotate_left
                                                  · simp only [Act.put, List.setIfInBounds_toArray, List.set_cons_zero, List.set_cons_succ, i64_w, i32_w]
                                                    rfl
                                                  refine pure_ (i := 7) (N := some 132) (v := ?_) (a' := ?_) #[true, true, true, true, false, true, true, true, false, false, false] rfl rfl (any_of HT_.out (by kernel_rfl)) (fun _ _ _ h => h) (Or.inl ⟨by rfl, ?_⟩) ?_ ?_
                                                  rotate_left
                                                  · intro w'
                                                    go_simp
                                                    with_reducible rfl
                                                  rotate_left
                                                  · simp only [Act.put, List.setIfInBounds_toArray, List.set_cons_zero, List.set_cons_succ, i64_w, i32_w]
                                                    rfl
                                                  refine take_ (i := 4) (N := some 129) (v := ?_) (a' := ?_) #[true, true, true, true, true, true, true, true, false, false, false] rfl rfl (take_ofW HT_.out HW_.out (by kernel_rfl)) (fun _ _ _ h => h) (Or.inl ⟨by rfl, ?_⟩) hHeld ?_ ?_
                                                  rotate_left
                                                  · rintro w' ⟨s0, s1⟩
                                                    go_simp
                                                    with_reducible rfl
                                                  rotate_left
                                                  · simp only [Act.put, List.setIfInBounds_toArray, List.set_cons_zero, List.set_cons_succ, i64_w, i32_w]
                                                    rfl
                                                  refine take_ (i := 8) (N := some 133) (v := ?_) (a' := ?_) #[true, true, true, true, true, true, true, true, true, false, false] rfl rfl (take_ofW HT_.out HW_.out (by kernel_rfl)) (fun _ _ _ h => h) (Or.inl ⟨by rfl, ?_⟩) hHeld ?_ ?_
                                                  rotate_left
                                                  · rintro w' ⟨s0, s1⟩
                                                    go_simp
                                                    with_reducible rfl
                                                  rotate_left
                                                  · simp only [Act.put, List.setIfInBounds_toArray, List.set_cons_zero, List.set_cons_succ, i64_w, i32_w]
                                                    rfl
                                                  refine one_ (i := 9) (N := some 134) #[true, true, true, true, true, true, true, true, true, true, false] rfl rfl (one_of HT_.out (by kernel_rfl)) (by decide) (fun K hK => ?_)
                                                  refine goes_ Try.func27 (by kernel_rfl) rfl #[.int .i64 a0, .slice A447_0 (rd_L1 x12_3 x16_5).length c447_0, .slice A448_0 (rd_L1 x12_3 x17_6).length c448_0] (by rfl) rfl rfl (by (try simp only [List.map_toArray, List.map_cons, List.map_nil]); first | done | rfl | (simp only [List.length_drop, List.length_take]; rfl)) ?_
                                                  with_reducible refine (vector_Key.calls k6 a0 _ _ (rd_L1 x12_3 x16_5) _ _ (rd_L1 x12_3 x17_6) t449 _ ?side1 ?side2 ?side3 ?side4 A50.out).mono ?_
                                                  (case side1 => repeat (first | exact (by repeat (first | (with_reducible exact HR447_0.out) | (with_reducible refine Kd.C_alloc ?_ _) | (with_reducible refine Kd.C_drewN ?_ _) | (with_reducible refine Kd.C_drew ?_) | exact HR447_0.out)) | (with_reducible refine Kd.C_alloc ?_ _) | (with_reducible refine Kd.C_drewN ?_ _) | (with_reducible refine Kd.C_drew ?_)))
                                                  (case side2 => exact HC447_0.out)
                                                  (case side3 => repeat (first | exact (by repeat (first | (with_reducible exact HR448_0.out) | (with_reducible refine Kd.C_alloc ?_ _) | (with_reducible refine Kd.C_drewN ?_ _) | (with_reducible refine Kd.C_drew ?_) | exact HR448_0.out)) | (with_reducible refine Kd.C_alloc ?_ _) | (with_reducible refine Kd.C_drewN ?_ _) | (with_reducible refine Kd.C_drew ?_)))
                                                  (case side4 => exact HC448_0.out)
                                                  rintro e w58 ⟨rfl, hb⟩
                                                  have HS0_ := (hb.cell (World.block_lt_of_cell? _ _ (hHeld.1))).trans (hHeld.1)
                                                  have HS1_ := (hb.cell (World.block_lt_of_cell? _ _ (hHeld.2))).trans (hHeld.2)
                                                  refine ⟨_, rfl, ?_⟩
                                                  have n0_ := Aside0.mk (Kd.V_below (by (with_reducible repeat (first | apply Kd.V_alloc | apply Kd.V_drewN | apply Kd.V_drew)); exact HO_1.out) hb)
                                                  have n1_ := Aside0.mk (Kd.N_below (by (with_reducible repeat (first | apply Kd.N_alloc | apply Kd.N_drewN | apply Kd.N_drew)); exact HO_12.out) hb)
                                                  have n2_ := Aside0.mk (Kd.V_below (by (with_reducible repeat (first | apply Kd.V_alloc | apply Kd.V_drewN | apply Kd.V_drew)); exact HL447_0.out) hb)
                                                  have n3_ := Aside0.mk (Kd.V_below (by (with_reducible repeat (first | apply Kd.V_alloc | apply Kd.V_drewN | apply Kd.V_drew)); exact HL448_0.out) hb)
                                                  have n4_ := Aside0.mk (Kd.C_below (by repeat (first | (with_reducible exact HR447_0.out) | (with_reducible refine Kd.C_alloc ?_ _) | (with_reducible refine Kd.C_drewN ?_ _) | (with_reducible refine Kd.C_drew ?_) | exact HR447_0.out)) hb)
                                                  have n5_ := Aside0.mk (Kd.C_below (by repeat (first | (with_reducible exact HR448_0.out) | (with_reducible refine Kd.C_alloc ?_ _) | (with_reducible refine Kd.C_drewN ?_ _) | (with_reducible refine Kd.C_drew ?_) | exact HR448_0.out)) hb)
                                                  have n6_ := Aside0.mk (below_step (by repeat (first | (with_reducible first | exact HB.out | apply below_alloc | apply pw_below_drewN | apply below_drew1) | exact HB.out)) hb)
                                                  clear HO_1
                                                  clear HO_12
                                                  clear HL447_0
                                                  clear HL448_0
                                                  clear HR447_0
                                                  clear HR448_0
                                                  clear HB
                                                  have HO_1 := n0_
                                                  have HO_12 := n1_
                                                  have HL447_0 := n2_
                                                  have HL448_0 := n3_
                                                  have HR447_0 := n4_
                                                  have HR448_0 := n5_
                                                  have HB := n6_
                                                  clear n0_ n1_ n2_ n3_ n4_ n5_ n6_
                                                  (try clear hb)
                                                  (try clear hb2)
                                                  (try clear hk)
                                                  (try clear hi)
                                                  refine hK.out _ _ ⟨HS0_, HS1_⟩ (fun hHeld => ?_)
                                                  clear hK K
                                                  refine norm_ (a' := ?_) ?_ ?_
                                                  rotate_left
                                                  · show Act.put _ (some 134) _ = _
                                                    simp only [Act.put, List.setIfInBounds_toArray, List.set_cons_zero, List.set_cons_succ, i64_w, i32_w]
                                                    rfl
                                                  refine pure_ (i := 10) (N := some 18) (v := ?_) (a' := ?_) #[true, true, true, true, true, true, true, true, true, true, true] rfl rfl (any_of HT_.out (by kernel_rfl)) (fun _ _ _ h => h) (Or.inl ⟨by rfl, ?_⟩) ?_ ?_
                                                  rotate_left
                                                  · intro w'
                                                    go_simp
                                                    with_reducible rfl
                                                  rotate_left
                                                  · simp only [Act.put, List.setIfInBounds_toArray, List.set_cons_zero, List.set_cons_succ, i64_w, i32_w]
                                                    rfl
                                                  refine done_ (done_of HT_.out (by kernel_rfl)) ?_
                                                  try go_wp2
                                                  go_roundg k6
                                                  case measure => have := HJ4.out; have := HJ14.out; have := HK3.out; have := HJ36.out; have := HK5.out; have := HK6.out; omega
                                                  case rel => exact ⟨(wrap64 (x17_6 + 1)), (by first | rfl | (simp; done) | (simp [*]; done)), H', ⟨by have := HJ4.out; have := HJ14.out; have := HK3.out; have := HJ36.out; have := HK5.out; have := HK6.out; omega⟩, ⟨by (with_reducible repeat (first | apply Kd.V_alloc | apply Kd.V_drewN | apply Kd.V_drew)); exact HO_1.out⟩, ⟨by (with_reducible repeat (first | apply Kd.N_alloc | apply Kd.N_drewN | apply Kd.N_drew)); exact HO_12.out⟩, ⟨by repeat (first | (with_reducible first | exact HB.out | apply below_alloc | apply pw_below_drewN | apply below_drew1) | exact HB.out)⟩⟩
                                            · rw [if_neg c49] at H
                                              exact absurd H (by simp)
                                          · rw [if_neg c48] at H
                                            exact absurd H (by simp)
                                        · rw [if_neg c47] at H
                                          exact absurd H (by simp)
                                      · rw [if_neg c46] at H
                                        exact absurd H (by simp)
                                    · rw [if_neg c45] at H
                                      have c45b0 : decide (x17_6 < x16_5) = false := decide_eq_false c45
                                      clear c45
                                      have H' := Aside0.mk H
                                      clear H
                                      go_wp2
                                      go_roundg k6
                                      case measure => have := HJ4.out; have := HJ14.out; have := HK3.out; have := HJ36.out; have := HK5.out; have := HK6.out; omega
                                      case rel => exact ⟨(wrap64 (x16_5 + 1)), (by first | rfl | (simp; done) | (simp [*]; done)), H', ⟨by have := HJ4.out; have := HJ14.out; have := HK3.out; have := HJ36.out; have := HK5.out; have := HK6.out; omega⟩, ⟨by (with_reducible repeat (first | apply Kd.V_alloc | apply Kd.V_drewN | apply Kd.V_drew)); exact HO_1.out⟩, ⟨by (with_reducible repeat (first | apply Kd.N_alloc | apply Kd.N_drewN | apply Kd.N_drew)); exact HO_12.out⟩, ⟨by repeat (first | (with_reducible first | exact HB.out | apply below_alloc | apply pw_below_drewN | apply below_drew1) | exact HB.out)⟩⟩
                              · rw [if_neg c44] at H
                                have c44b0 : decide (x16_5 < (x12_3.length : Int)) = false := decide_eq_false c44
                                clear c44
                                replace H := Option.bind_eq_some_iff.mp H
                                obtain ⟨t450, A590, H⟩ := H
                                replace H : ((pivot_Cover.f k5 a0 t450 l1).bind fun bt453 => ((antiquarylaw09_sanity.f k5).bind fun t455 => (if t455 = true then (if bt453.2 = 0 then ((metric_High.f a0 bt453.1 bt453.1).bind fun t456 => (some (decide (t445 ≤ t456)))) else (some false)) else (some false)))) = some r := H
                                have A59 := Aside0.mk A590
                                clear A590
                                replace H := Option.bind_eq_some_iff.mp H
                                obtain ⟨⟨t453, t454⟩, A600, H⟩ := H
                                replace H : ((antiquarylaw09_sanity.f k5).bind fun t455 => (if t455 = true then (if t454 = 0 then ((metric_High.f a0 t453 t453).bind fun t456 => (some (decide (t445 ≤ t456)))) else (some false)) else (some false))) = some r := H
                                have A60 := Aside0.mk A600
                                clear A600
                                replace H := Option.bind_eq_some_iff.mp H
                                obtain ⟨t455, A610, H⟩ := H
                                replace H : (if t455 = true then (if t454 = 0 then ((metric_High.f a0 t453 t453).bind fun t456 => (some (decide (t445 ≤ t456)))) else (some false)) else (some false)) = some r := H
                                have A61 := Aside0.mk A610
                                clear A610
                                by_cases c62 : t455 = true
                                · subst c62
                                  have H1 : (if t454 = 0 then ((metric_High.f a0 t453 t453).bind fun t456 => (some (decide (t445 ≤ t456)))) else (some false)) = some r := by rw [if_pos rfl] at H; exact H
                                  clear H
                                  have H := H1
                                  clear H1
                                  by_cases c63 : t454 = 0
                                  · rw [if_pos c63] at H
                                    have c63b0 : (t454 == 0) = true := beq_iff_eq.mpr c63
                                    have c63b1 : (t454 != 0) = false := bne_eq_false_iff_eq.mpr c63
                                    clear c63
                                    replace H := Option.bind_eq_some_iff.mp H
                                    obtain ⟨t456, A640, H⟩ := H
                                    replace H : (some (decide (t445 ≤ t456))) = some r := H
                                    have A64 := Aside0.mk A640
                                    clear A640
                                    obtain rfl := Option.some.inj H
                                    go_wp2_with (first | ((with_reducible refine gate_callee (f := 31) rfl ?_); refine goesL_ (some 147) rfl rfl Try.func31 (by kernel_rfl) rfl #[.slice A1 l1.length c1, .slice A3 l3.length c3, .int .i64 (wrap64 (1 + (Int.tmod (wrap64 (a2)) 8)))] rfl (by (try simp only [List.map_toArray, List.map_cons, List.map_nil]); first | done | rfl | (simp only [List.length_drop, List.length_take]; rfl)) ?_; (with_reducible refine (antiquarylaw09_some.calls k5 (fun k_ => ((P1_ k_ ∨ w.heap.size ≤ k_) ∧ some k_ ≠ (.slice Ao39 x12_3.length co39 : Value).ownBlock)) _ _ l1 _ _ l3 (wrap64 (1 + (Int.tmod (wrap64 (a2)) 8))) t450 _ ?side1 ?side2 ?side3 A59.out).mono ?_); (case side1 => exact HO_1.out); (case side2 => repeat (first | exact (Kd.C_below HR3.out HB.out) | (with_reducible refine Kd.C_alloc ?_ _) | (with_reducible refine Kd.C_drewN ?_ _) | (with_reducible refine Kd.C_drew ?_))); (case side3 => exact HC3.out); rintro e w65 ⟨v451, rfl, ho0, hb⟩; refine ⟨_, rfl, ?_⟩; have n0_ := Aside0.mk (Kd.V_elder' (by (with_reducible repeat (first | apply Kd.V_alloc | apply Kd.V_drewN | apply Kd.V_drew)); exact HO_1.out) (Kd.N_base ho0) hb); have n1_ := Aside0.mk (Kd.N_elder' (by (with_reducible repeat (first | apply Kd.N_alloc | apply Kd.N_drewN | apply Kd.N_drew)); exact HO_12.out) (Kd.N_base ho0) hb); have n2_ := Aside0.mk (Kd.N_lower (Kd.N_mono (ok' := fun k_ => (P1_ k_ ∨ w.heap.size ≤ k_) ∧ some k_ ≠ (.slice Ao39 x12_3.length co39 : Value).ownBlock) ho0 (fun k_ hk_ => ⟨Or.elim hk_ (fun hs_ => hs_.1) (fun hn_ => (.inr (Nat.le_trans (below_size (by repeat (first | (with_reducible first | exact HB.out | apply below_alloc | apply pw_below_drewN | apply below_drew1) | exact HB.out))) hn_))), Or.elim hk_ (fun hs_ => hs_.2) (fun hn_ => (Kd.fresh' (Kd.N_lt (by (with_reducible repeat (first | apply Kd.N_alloc | apply Kd.N_drewN | apply Kd.N_drew)); exact HO_12.out)) k_ hn_))⟩)) (below_size (by repeat (first | (with_reducible first | exact HB.out | apply below_alloc | apply pw_below_drewN | apply below_drew1) | exact HB.out)))); have n3_ := Aside0.mk (below_step (by repeat (first | (with_reducible first | exact HB.out | apply below_alloc | apply pw_below_drewN | apply below_drew1) | exact HB.out)) hb); clear HO_1; clear HO_12; clear HB; have HO_1 := n0_; have HO_12 := n1_; have HO452 := n2_; have HB := n3_; clear n0_ n1_ n2_ n3_; (try clear hb); (try clear hb2); (try clear hk); (try clear hi); (try clear ho0); obtain ⟨Ao66, co66, eo66⟩ := Kd.N_slice HO452.out; subst eo66) | ((with_reducible refine gate_callee (f := 13) rfl ?_); refine goesL_ (some 149) rfl rfl Try.func13 (by kernel_rfl) rfl #[.int .i64 a0, .slice Ao66 t450.length co66, .slice A1 l1.length c1] rfl (by (try simp only [List.map_toArray, List.map_cons, List.map_nil]); first | done | rfl | (simp only [List.length_drop, List.length_take]; rfl)) ?_; (with_reducible refine (pivot_Cover.calls k5 a0 _ _ t450 _ _ l1 t453 t454 _ ?side1 ?side2 ?side3 ?side4 A60.out).mono ?_); (case side1 => repeat (first | exact (Kd.N_reads' HO452.out).2.2 | (with_reducible refine Kd.C_alloc ?_ _) | (with_reducible refine Kd.C_drewN ?_ _) | (with_reducible refine Kd.C_drew ?_))); (case side2 => exact (Kd.N_reads' HO452.out).2.1); (case side3 => repeat (first | exact (Kd.V_reads' HO_1.out).2.2 | (with_reducible refine Kd.C_alloc ?_ _) | (with_reducible refine Kd.C_drewN ?_ _) | (with_reducible refine Kd.C_drew ?_))); (case side4 => exact (Kd.V_reads' HO_1.out).2.1); rintro e w67 ⟨rfl, hb⟩; refine ⟨_, rfl, ?_⟩; have n0_ := Aside0.mk (Kd.V_below (by (with_reducible repeat (first | apply Kd.V_alloc | apply Kd.V_drewN | apply Kd.V_drew)); exact HO_1.out) hb); have n1_ := Aside0.mk (Kd.N_below (by (with_reducible repeat (first | apply Kd.N_alloc | apply Kd.N_drewN | apply Kd.N_drew)); exact HO_12.out) hb); have n2_ := Aside0.mk (Kd.N_below (by (with_reducible repeat (first | apply Kd.N_alloc | apply Kd.N_drewN | apply Kd.N_drew)); exact HO452.out) hb); have n3_ := Aside0.mk (below_step (by repeat (first | (with_reducible first | exact HB.out | apply below_alloc | apply pw_below_drewN | apply below_drew1) | exact HB.out)) hb); clear HO_1; clear HO_12; clear HO452; clear HB; have HO_1 := n0_; have HO_12 := n1_; have HO452 := n2_; have HB := n3_; clear n0_ n1_ n2_ n3_; (try clear hb); (try clear hb2); (try clear hk); (try clear hi)) | ((with_reducible refine gate_callee (f := 10) rfl ?_); refine goesL_ (some 152) rfl rfl Try.func10 (by kernel_rfl) rfl #[] rfl (by (try simp only [List.map_toArray, List.map_cons, List.map_nil]); first | done | rfl | (simp only [List.length_drop, List.length_take]; rfl)) ?_; (with_reducible refine (antiquarylaw09_sanity.calls k5  true _ A61.out (by first | rfl | exact HT.out)).mono ?_); rintro e w68 ⟨rfl, hb⟩; refine ⟨_, rfl, ?_⟩; have n0_ := Aside0.mk (Kd.V_below (by (with_reducible repeat (first | apply Kd.V_alloc | apply Kd.V_drewN | apply Kd.V_drew)); exact HO_1.out) hb); have n1_ := Aside0.mk (Kd.N_below (by (with_reducible repeat (first | apply Kd.N_alloc | apply Kd.N_drewN | apply Kd.N_drew)); exact HO_12.out) hb); have n2_ := Aside0.mk (Kd.N_below (by (with_reducible repeat (first | apply Kd.N_alloc | apply Kd.N_drewN | apply Kd.N_drew)); exact HO452.out) hb); have n3_ := Aside0.mk (below_step (by repeat (first | (with_reducible first | exact HB.out | apply below_alloc | apply pw_below_drewN | apply below_drew1) | exact HB.out)) hb); clear HO_1; clear HO_12; clear HO452; clear HB; have HO_1 := n0_; have HO_12 := n1_; have HO452 := n2_; have HB := n3_; clear n0_ n1_ n2_ n3_; (try clear hb); (try clear hb2); (try clear hk); (try clear hi)) | (go_at_call 32; (with_reducible refine (metric_High.calls a0 t453 t453 t456 _ A64.out).mono ?_); rintro e w69 ⟨rfl, hb⟩; have n0_ := Aside0.mk (Kd.V_below (by (with_reducible repeat (first | apply Kd.V_alloc | apply Kd.V_drewN | apply Kd.V_drew)); exact HO_1.out) hb); have n1_ := Aside0.mk (Kd.N_below (by (with_reducible repeat (first | apply Kd.N_alloc | apply Kd.N_drewN | apply Kd.N_drew)); exact HO_12.out) hb); have n2_ := Aside0.mk (Kd.N_below (by (with_reducible repeat (first | apply Kd.N_alloc | apply Kd.N_drewN | apply Kd.N_drew)); exact HO452.out) hb); have n3_ := Aside0.mk (below_step (by repeat (first | (with_reducible first | exact HB.out | apply below_alloc | apply pw_below_drewN | apply below_drew1) | exact HB.out)) hb); clear HO_1; clear HO_12; clear HO452; clear HB; have HO_1 := n0_; have HO_12 := n1_; have HO452 := n2_; have HB := n3_; clear n0_ n1_ n2_ n3_; (try clear hb); (try clear hb2); (try clear hk); (try clear hi)))
                                    go_ret
                                    exact ⟨by first | rfl | (simp [errW_none, errW_some] <;> rfl) | (simp [*, errW_none, errW_some] <;> rfl), by repeat (first | (with_reducible first | exact HB.out | apply below_alloc | apply pw_below_drewN | apply below_drew1) | exact HB.out)⟩
                                  · rw [if_neg c63] at H
                                    have c63b0 : (t454 == 0) = false := beq_eq_false_iff_ne.mpr c63
                                    have c63b1 : (t454 != 0) = true := bne_iff_ne.mpr c63
                                    exact absurd (Option.some.inj H) (by rw [HT.out]; decide)
                                · replace c62 := Bool.eq_false_iff.mpr c62
                                  subst c62
                                  have H1 : (some false) = some r := by rw [if_neg (show ¬ (false = true) by decide)] at H; exact H
                                  clear H
                                  have H := H1
                                  clear H1
                                  exact absurd (Option.some.inj H) (by rw [HT.out]; decide)
end Go.Proofs.Ytoidpkpgeeeggaa.Q
end
section
namespace Go.Proofs.Ytoidpkpgeeeggaa.Q
open Go.RowKit Go.Proofs.YtoidpkpgeeeggaaW.PrintWords Go.Proofs.YtoidpkpgeeeggaaW.PrintLast Go.Proofs.YtoidpkpgeeeggaaW.PrintMore
attribute [local go_sem] max2_int min2_int max_two min_two max_three min_three max_four min_four   -- for this text's walks alone
set_option linter.unusedVariables false
set_option linter.unusedSimpArgs false
namespace R4
open Plain
theorem rd_mid (pre : List Int) (x : Int) (v : List Int) : rd (pre ++ x :: v) (pre.length : Int) = x := by
  unfold rd
  simp
theorem len_cast (pre : List Int) (x : Int) (v : List Int) : ((pre ++ x :: v).length : Int) = pre.length + 1 + v.length := by
  simp; omega
theorem snoc_len (pre : List Int) (x : Int) : ((pre ++ [x]).length : Int) = pre.length + 1 := by simp
theorem snoc_eq (pre : List Int) (x : Int) (v : List Int) : pre ++ x :: v = (pre ++ [x]) ++ v := by simp
theorem wsucc (n : Nat) (h : (n : Int) ≤ 4611686018427387904) : wrap64 ((n : Int) + 1) = (n : Int) + 1 := by unfold wrap64; omega
theorem valid_l (v : List Int) : ∀ pre : List Int, ((pre ++ v).length : Int) ≤ 4611686018427387904 →
    Ev (fun k => antiquaryref04_Valid.l0 k (pre ++ v) pre.length) (decide ((∀ x ∈ v, -1000 ≤ x ∧ x ≤ 1000) ∧ 1 ≤ (pre ++ v).length ∧ (pre ++ v).length ≤ 32)) := by
  induction v with
  | nil =>
    intro pre hl
    refine ev_succ ?_
    simp only [antiquaryref04_Valid.l0, List.append_nil]
    refine ev_neg (by omega) ?_
    by_cases h1 : (pre.length : Int) ≥ 1
    · exact ev_pos h1 (ev_some (by rw [Bool.eq_iff_iff]; simp; omega))
    · exact ev_neg h1 (ev_some (by rw [Bool.eq_iff_iff]; simp; omega))
  | cons x v ih =>
    intro pre hl
    have hlen := len_cast pre x v
    refine ev_succ ?_
    simp only [antiquaryref04_Valid.l0]
    refine ev_pos (by omega) (ev_pos (by omega) ?_)
    rw [rd_mid]
    by_cases h1 : x < -1000
    · refine ev_pos h1 (ev_some ?_)
      symm
      rw [decide_eq_false_iff_not]
      rintro ⟨h, _⟩
      have := h x List.mem_cons_self
      omega
    · refine ev_neg h1 ?_
      by_cases h2 : x > 1000
      · refine ev_pos h2 (ev_some ?_)
        symm
        rw [decide_eq_false_iff_not]
        rintro ⟨h, _⟩
        have := h x List.mem_cons_self
        omega
      · refine ev_neg h2 ?_
        have := ih (pre ++ [x]) (by rw [← snoc_eq]; exact hl)
        rw [snoc_len, ← snoc_eq] at this
        rw [wsucc _ (by omega)]
        refine ev_cast this ?_
        rw [Bool.eq_iff_iff, decide_eq_true_eq, decide_eq_true_eq]
        refine and_congr_left (fun _ => ⟨fun h y hy => ?_, fun h y hy => h y (List.mem_cons_of_mem _ hy)⟩)
        rcases List.mem_cons.mp hy with rfl | hy
        · omega
        · exact h y hy
theorem valid_ev (v : List Int) (hl : v.length * 8 ≤ 140737488351232) : Ev (fun k => antiquaryref04_Valid.f k v) (decide (isVec v)) := by
  have h : Ev (fun k => antiquaryref04_Valid.f k v) _ := valid_l v [] (by simp; omega)
  exact ev_cast h (by rw [Bool.eq_iff_iff, decide_eq_true_eq, decide_eq_true_eq]; exact Iff.rfl)
end R4
def pivot_few (l : List (List Int)) : Prop := l.length ≤ 4096 ∧ ∀ v ∈ l, v.length ≤ 4096
instance (l : List (List Int)) : Decidable (pivot_few l) := by unfold pivot_few; infer_instance
theorem ref09_Metric_is (m : Int) : antiquaryref09_Metric.f m = some (decide (1 ≤ m ∧ m ≤ 3)) := by
  unfold antiquaryref09_Metric.f
  by_cases h1 : m ≥ 1
  · rw [if_pos h1]; congr 1; rw [Bool.eq_iff_iff, decide_eq_true_eq, decide_eq_true_eq]; omega
  · rw [if_neg h1]; congr 1; symm; rw [decide_eq_false_iff_not]; omega
theorem ref09_Fit_l (l : List (List Int)) (hl : pivot_few l) (q : List (List Int)) : ∀ pre : List (List Int), l = pre ++ q → (∀ v ∈ pre, Plain.isVec v ∧ v.length = (rowOf l 0).length) →
    Ev (fun k => antiquaryref09_Fit.l0 k l (pre.length : Int)) (decide (pivot_isFit l)) := by
  induction q with
  | nil =>
    intro pre hx hp
    have h2 : l.length = pre.length := by rw [hx]; simp
    have hlp : l = pre := by rw [hx, List.append_nil]
    refine Plain.ev_succ ?_
    simp only [antiquaryref09_Fit.l0]
    refine Plain.ev_neg (by omega) ?_
    by_cases h1 : (l.length : Int) ≥ 1
    · refine Plain.ev_pos h1 (Plain.ev_some ?_)
      have h0 : rowOf l 0 ∈ l := rowOf_mem (by omega)
      rw [Bool.eq_iff_iff, decide_eq_true_eq, decide_eq_true_eq]
      exact ⟨fun h => ⟨by omega, by omega, fun v hv => ⟨(hp _ (hlp ▸ h0)).1, (hp _ (hlp ▸ hv)).1, (hp _ (hlp ▸ hv)).2.symm⟩⟩, fun h => by have := h.2.1; omega⟩
    · refine Plain.ev_neg h1 (Plain.ev_some ?_)
      symm; rw [decide_eq_false_iff_not]; exact fun h => h1 (by have := h.1; omega)
  | cons x q ih =>
    intro pre hx hp
    have h2 : (l.length : Int) = pre.length + 1 + q.length := by rw [hx]; simp; omega
    have hxl : x ∈ l := by rw [hx]; simp
    refine Plain.ev_succ ?_
    simp only [antiquaryref09_Fit.l0]
    refine Plain.ev_pos (by omega) (Plain.ev_pos (by omega) ?_)
    rw [show rd_L1 l (pre.length : Int) = x by rw [hx]; exact rdL_mid _ _ _]
    refine Plain.ev_bind (R4.valid_ev x (by have := hl.2 x hxl; omega)) ?_
    by_cases h3 : Plain.isVec x
    · refine Plain.ev_pos (decide_eq_true h3) (Plain.ev_pos (by omega) ?_)
      rw [show rd_L1 l 0 = rowOf l 0 from rdL_row l 0]
      by_cases h4 : (x.length : Int) = ((rowOf l 0).length : Int)
      · refine Plain.ev_pos h4 ?_
        have hn := ih (pre ++ [x]) (by rw [hx]; simp) (fun v hv => by
          rcases List.mem_append.1 hv with h | h
          · exact hp v h
          · obtain rfl := List.mem_singleton.1 h
            exact ⟨h3, by omega⟩)
        rw [show ((pre ++ [x]).length : Int) = (pre.length : Int) + 1 by simp] at hn
        rw [Plain.w64 (by omega) (by have := hl.1; omega)]
        exact hn
      · refine Plain.ev_neg h4 (Plain.ev_some ?_)
        symm; rw [decide_eq_false_iff_not]; exact fun h => h4 (by have := (h.2.2 x hxl).2.2; omega)
    · refine Plain.ev_neg (by simpa using h3) (Plain.ev_some ?_)
      symm; rw [decide_eq_false_iff_not]; exact fun h => h3 (h.2.2 x hxl).2.1
theorem ref09_Fit_ev {l : List (List Int)} (hl : pivot_few l) : Ev (fun k => antiquaryref09_Fit.f k l) (decide (pivot_isFit l)) := ref09_Fit_l l hl l [] rfl (fun v hv => by cases hv)
/-- the first vector with the least key -/
def nearAt (m : Int) (v : List Int) : List (List Int) → Nat → Int × Int → Int × Int
  | [], _, b => b
  | q :: c, i, b => nearAt m v c (i + 1) (if Plain.key m q v < b.2 then ((i : Int), Plain.key m q v) else b)
def nearOf (m : Int) (c : List (List Int)) (v : List Int) : Int × Int := nearAt m v c 0 (0, Plain.key m (rowOf c 0) v)
/-- the farthest vector -/
def farN (m : Int) (l ch : List (List Int)) : Nat → Nat × Int
  | 0 => (0, 0)
  | i + 1 => if (nearOf m ch (rowOf l i)).2 > (farN m l ch i).2 then (i, (nearOf m ch (rowOf l i)).2) else farN m l ch i
def rchooseL (m : Int) (l : List (List Int)) (most : Int) : Nat → List Int → List (List Int) → List Int
  | 0, out, _ => out
  | n + 1, out, ch => if (out.length : Int) < most then (if (farN m l ch l.length).2 = 0 then out else rchooseL m l most n (out ++ [((farN m l ch l.length).1 : Int)]) (ch ++ [rowOf l (farN m l ch l.length).1])) else out
def rchooseOf (m : Int) (l : List (List Int)) (most : Int) : List Int := rchooseL m l most 8 [0] [rowOf l 0]
end Go.Proofs.Ytoidpkpgeeeggaa.Q
end
section
set_option linter.unusedVariables false
namespace Go.Proofs.Ytoidpkpgeeeggaa.Near
open Go.RowKit Go.Proofs.Ytoidpkpgeeeggaa.Q Go.Proofs.YtoidpkpgeeeggaaW.PrintWords Plain Go
theorem min_snoc {l : List Int} (h : l ≠ []) (x : Int) : Lib.minOf (l ++ [x]) = if x < Lib.minOf l then x else Lib.minOf l := by
  unfold Lib.minOf
  have e : (l ++ [x]).headD 0 = l.headD 0 := by cases l with
    | nil => exact absurd rfl h
    | cons y l => rfl
  rw [e, List.foldl_append, List.foldl_cons, List.foldl_nil]
  rw [Int.min_def]
  split <;> split <;> omega
theorem max_snoc {l : List Int} (h : l ≠ []) (x : Int) : Lib.maxOf (l ++ [x]) = if Lib.maxOf l < x then x else Lib.maxOf l := by
  unfold Lib.maxOf
  have e : (l ++ [x]).headD 0 = l.headD 0 := by cases l with
    | nil => exact absurd rfl h
    | cons y l => rfl
  rw [e, List.foldl_append, List.foldl_cons, List.foldl_nil]
  rw [Int.max_def]
  split <;> split <;> omega
theorem snoc_ind {α : Type} {P : List α → Prop} (l : List α) (h0 : P []) (hs : ∀ l x, P l → P (l ++ [x])) : P l := by
  have : ∀ n (l : List α), l.length = n → P l := by
    intro n
    induction n with
    | zero => intro l h; rw [List.eq_nil_of_length_eq_zero h]; exact h0
    | succ n ih =>
      intro l h
      have hne : l ≠ [] := by intro e; rw [e] at h; simp at h
      rw [← List.dropLast_concat_getLast hne]
      exact hs _ _ (ih _ (by rw [List.length_dropLast, h]; omega))
  exact this l.length l rfl
theorem min_one (x : Int) : Lib.minOf [x] = x := by simp [Lib.minOf]
theorem max_one (x : Int) : Lib.maxOf [x] = x := by simp [Lib.maxOf]
theorem min_le (l : List Int) : ∀ x ∈ l, Lib.minOf l ≤ x := by
  refine snoc_ind (P := fun l => ∀ x ∈ l, Lib.minOf l ≤ x) l (fun x hx => by cases hx) (fun l y ih x hx => ?_)
  by_cases h : l = []
  · subst h
    simp only [List.nil_append, List.mem_singleton] at hx ⊢
    rw [hx, min_one]; omega
  · rw [min_snoc h]
    rcases List.mem_append.1 hx with hx | hx
    · have := ih x hx; split <;> omega
    · rw [List.mem_singleton] at hx; split <;> omega
theorem le_max (l : List Int) : ∀ x ∈ l, x ≤ Lib.maxOf l := by
  refine snoc_ind (P := fun l => ∀ x ∈ l, x ≤ Lib.maxOf l) l (fun x hx => by cases hx) (fun l y ih x hx => ?_)
  by_cases h : l = []
  · subst h
    simp only [List.nil_append, List.mem_singleton] at hx ⊢
    rw [hx, max_one]; omega
  · rw [max_snoc h]
    rcases List.mem_append.1 hx with hx | hx
    · have := ih x hx; split <;> omega
    · rw [List.mem_singleton] at hx; split <;> omega
theorem min_mem (l : List Int) (h : l ≠ []) : Lib.minOf l ∈ l := by
  refine snoc_ind (P := fun l => l ≠ [] → Lib.minOf l ∈ l) l (fun h => absurd rfl h) (fun l y ih _ => ?_) h
  by_cases h : l = []
  · subst h; simp [min_one]
  · rw [min_snoc h]
    split
    · simp
    · exact List.mem_append_left _ (ih h)
theorem max_mem (l : List Int) (h : l ≠ []) : Lib.maxOf l ∈ l := maxOf_mem (by cases l with
  | nil => exact absurd rfl h
  | cons x l => simp)
theorem max_eq {l : List Int} {x : Int} (h : x ∈ l) (hle : ∀ y ∈ l, y ≤ x) : Lib.maxOf l = x := by
  have h1 := le_max l x h
  have h2 := hle _ (max_mem l (List.ne_nil_of_mem h))
  omega
theorem find_snoc_in {l : List Int} {x : Int} (h : x ∈ l) (y : Int) : (l ++ [y]).findIdx (· == x) = l.findIdx (· == x) := by
  rw [List.findIdx_append, if_pos (List.findIdx_lt_length_of_exists ⟨x, h, by simp⟩)]
theorem find_snoc_new {l : List Int} {x : Int} (h : ∀ y ∈ l, y ≠ x) : (l ++ [x]).findIdx (· == x) = l.length := by
  have e : l.findIdx (· == x) = l.length := List.findIdx_eq_length_of_false (fun y hy => by simpa using h y hy)
  rw [List.findIdx_append, e, if_neg (by omega)]
  simp [List.findIdx_cons]
def minAt : List Int → Nat → Int × Int → Int × Int
  | [], _, b => b
  | k :: ks, i, b => minAt ks (i + 1) (if k < b.2 then ((i : Int), k) else b)
theorem minAt_is (ks : List Int) : ∀ pre : List Int, pre ≠ [] → minAt ks pre.length (((pre.findIdx (· == Lib.minOf pre) : Nat) : Int), Lib.minOf pre) = ((((pre ++ ks).findIdx (· == Lib.minOf (pre ++ ks)) : Nat) : Int), Lib.minOf (pre ++ ks)) := by
  induction ks with
  | nil => intro pre h; simp [minAt]
  | cons k ks ih =>
    intro pre h
    have e : pre ++ k :: ks = (pre ++ [k]) ++ ks := by simp
    have hn := ih (pre ++ [k]) (by simp)
    rw [e, ← hn]
    simp only [minAt, List.length_append, List.length_singleton]
    congr 1
    have hm := min_snoc h k
    by_cases c : k < Lib.minOf pre
    · rw [if_pos c] at hm
      simp only [if_pos c]
      rw [hm, find_snoc_new (fun y hy => by have := min_le pre y hy; omega)]
    · rw [if_neg c] at hm
      simp only [if_neg c]
      rw [hm, find_snoc_in (min_mem pre h)]
theorem nearAt_is (m : Int) (v : List Int) : ∀ (c : List (List Int)) (i : Nat) (b : Int × Int), nearAt m v c i b = minAt (c.map (fun q => key m q v)) i b
  | [], _, _ => rfl
  | q :: c, i, b => by
    simp only [nearAt, List.map_cons, minAt]
    exact nearAt_is m v c (i + 1) _
theorem nearOf_is (m : Int) {c : List (List Int)} (h : c ≠ []) (v : List Int) : nearOf m c v = ((((keysOf m c v).findIdx (· == Lib.minOf (keysOf m c v)) : Nat) : Int), Lib.minOf (keysOf m c v)) := by
  obtain ⟨q, c, rfl⟩ : ∃ q t, c = q :: t := by
    cases c with
    | nil => exact absurd rfl h
    | cons q t => exact ⟨q, t, rfl⟩
  unfold nearOf
  rw [nearAt_is]
  unfold keysOf
  have hr : rowOf (q :: c) 0 = q := rfl
  rw [hr]
  simp only [List.map_cons, minAt]
  rw [if_neg (by simp)]
  have := minAt_is (c.map fun q => key m q v) [key m q v] (by simp)
  rw [min_one] at this
  simpa using this
theorem keysOf_ne {m : Int} {c : List (List Int)} (h : c ≠ []) (v : List Int) : keysOf m c v ≠ [] := by
  unfold keysOf; simpa using h
def leasts (m : Int) (l ch : List (List Int)) : List Int := l.map (fun v => Lib.minOf (keysOf m ch v))
theorem takeN_get (xs : List Int) (key : Nat → Int) : ∀ i, i ≤ xs.length → ∀ j, (takeN xs key i).getD j 0 = if j < i then mn (xs.getD j 0) (key j) else xs.getD j 0
  | 0, _, j => by simp [takeN]
  | i + 1, h, j => by
    have ih := takeN_get xs key i (by omega)
    have hl := takeN_length xs key i
    have e : rd (takeN xs key i) (i : Int) = xs.getD i 0 := by
      unfold rd; rw [Int.toNat_natCast, ih i, if_neg (by omega)]
    simp only [takeN, e]
    by_cases c : j = i
    · subst c
      rw [if_pos (by omega)]
      simp [List.getD_eq_getElem?_getD, hl, show j < xs.length by omega]
    · have h2 := ih j
      rw [List.getD_eq_getElem?_getD, List.getElem?_set, if_neg (by omega), ← List.getD_eq_getElem?_getD, h2]
      by_cases c2 : j < i
      · rw [if_pos c2, if_pos (by omega)]
      · rw [if_neg c2, if_neg (by omega)]
theorem takeN_is {xs : List Int} {key : Nat → Int} {n : Nat} (h : xs.length = n) : takeN xs key n = (List.range n).map (fun i => mn (xs.getD i 0) (key i)) := by
  apply List.ext_getElem
  · simp [takeN_length, h]
  · intro i h1 h2
    have := takeN_get xs key n (by omega) i
    rw [takeN_length] at h1
    rw [if_pos (by omega), List.getD_eq_getElem?_getD, List.getElem?_eq_getElem (by rw [takeN_length]; omega)] at this
    simpa using this
theorem map_range_row (l : List (List Int)) (f : List Int → Int) : (List.range l.length).map (fun i => f (rowOf l i)) = l.map f := by
  apply List.ext_getElem
  · simp
  · intro i h1 h2
    simp at h1 h2
    simp [rowOf, List.getD_eq_getElem?_getD, h2]
theorem keysOf_snoc (m : Int) (ch : List (List Int)) (q v : List Int) : keysOf m (ch ++ [q]) v = keysOf m ch v ++ [key m q v] := by simp [keysOf]
theorem leasts_first {m : Int} {l : List (List Int)} (ha : ∀ v ∈ l, alike (rowOf l 0) v) : takeN (List.replicate l.length 134217728) (keysTo m l 0) l.length = leasts m l [rowOf l 0] := by
  rw [takeN_is (by simp)]
  unfold leasts
  rw [← map_range_row]
  refine List.map_congr_left (fun i hi => ?_)
  have hi := List.mem_range.1 hi
  have h1 := key_isKey m (ha _ (rowOf_mem hi))
  have := h1.2
  have e : (List.replicate l.length (134217728 : Int)).getD i 0 = 134217728 := by simp [List.getD_eq_getElem?_getD, hi]
  rw [e]
  unfold keysTo keysOf mn
  rw [List.map_singleton, min_one]
  split <;> omega
theorem leasts_more {m : Int} {l ch : List (List Int)} (hc : ch ≠ []) (at_ : Nat) : takeN (leasts m l ch) (keysTo m l at_) l.length = leasts m l (ch ++ [rowOf l at_]) := by
  rw [takeN_is (by simp [leasts])]
  show _ = leasts m l (ch ++ [rowOf l at_])
  unfold leasts
  rw [← map_range_row l (fun v => Lib.minOf (keysOf m (ch ++ [rowOf l at_]) v))]
  refine List.map_congr_left (fun i hi => ?_)
  have hi := List.mem_range.1 hi
  have e : (l.map (fun v => Lib.minOf (keysOf m ch v))).getD i 0 = Lib.minOf (keysOf m ch (rowOf l i)) := by simp [List.getD_eq_getElem?_getD, hi, rowOf]
  rw [e, keysOf_snoc, min_snoc (keysOf_ne hc _)]
  unfold keysTo mn
  split <;> (try split) <;> omega
theorem farN_is {m : Int} {l ch : List (List Int)} (hc : ch ≠ []) (hp : ∀ v ∈ l, 0 ≤ Lib.minOf (keysOf m ch v)) : ∀ i, 0 < i → i ≤ l.length → farN m l ch i = (((leasts m l ch).take i).findIdx (· == Lib.maxOf ((leasts m l ch).take i)), Lib.maxOf ((leasts m l ch).take i)) := by
  intro i h0 hi
  induction i with
  | zero => omega
  | succ i ih =>
    have hll : (leasts m l ch).length = l.length := by simp [leasts]
    have hx : (leasts m l ch)[i]'(by omega) = (nearOf m ch (rowOf l i)).2 := by
      rw [nearOf_is m hc]
      simp [leasts, rowOf, List.getD_eq_getElem?_getD, show i < l.length by omega]
    have hpos : 0 ≤ (nearOf m ch (rowOf l i)).2 := by
      rw [nearOf_is m hc]; exact hp _ (rowOf_mem (by omega))
    rw [List.take_succ_eq_append_getElem (by omega), hx]
    simp only [farN]
    generalize (nearOf m ch (rowOf l i)).2 = x at *
    by_cases h1 : i = 0
    · subst h1
      simp only [farN, List.take_zero, List.nil_append, max_one]
      by_cases c : x > 0
      · have c' : x > (0 : Int) := c
        simp [c', List.findIdx_cons]
      · obtain rfl : x = 0 := by omega
        simp [List.findIdx_cons]
    · rw [ih (by omega) (by omega)]
      have hne : (leasts m l ch).take i ≠ [] := by
        intro e
        have h2 : ((leasts m l ch).take i).length = i := by rw [List.length_take]; omega
        rw [e] at h2; simp at h2; omega
      have hm := max_snoc hne x
      have htl : ((leasts m l ch).take i).length = i := by rw [List.length_take]; omega
      generalize (leasts m l ch).take i = t at *
      by_cases c : Lib.maxOf t < x
      · rw [if_pos c] at hm
        rw [if_pos c, hm, find_snoc_new (fun y hy => by have := le_max t y hy; omega)]
        rw [htl]
      · rw [if_neg c] at hm
        rw [if_neg c, hm, find_snoc_in (max_mem t hne)]
theorem mins_nonneg (m : Int) {ch : List (List Int)} (hc : ch ≠ []) (v : List Int) : 0 ≤ Lib.minOf (keysOf m ch v) := by
  have := min_mem _ (keysOf_ne (m := m) hc v)
  unfold keysOf at this
  obtain ⟨q, _, e⟩ := List.mem_map.1 this
  unfold keysOf
  rw [← e]
  exact key_nonneg m q v
theorem farN_all {m : Int} {l ch : List (List Int)} (hc : ch ≠ []) (hl : 0 < l.length) : farN m l ch l.length = (farAt (leasts m l ch), Lib.maxOf (leasts m l ch)) := by
  have h := farN_is (m := m) (l := l) hc (fun v _ => mins_nonneg m hc v) l.length hl (Nat.le_refl _)
  rw [List.take_of_length_le (by simp [leasts])] at h
  exact h
theorem chooseL_is (m : Int) (l : List (List Int)) (most : Int) (hl : 0 < l.length) : ∀ (n : Nat) (out : List Int) (ch : List (List Int)), ch ≠ [] → chooseL m l most n (leasts m l ch) out = rchooseL m l most n out ch
  | 0, _, _, _ => rfl
  | n + 1, out, ch, hc => by
    have hf := farN_all (m := m) (l := l) hc hl
    simp only [chooseL, rchooseL, hf]
    split
    · split
      · rfl
      · rw [leasts_more hc]
        exact chooseL_is m l most hl n _ _ (by simp)
    · rfl
theorem choose_is {m : Int} {l : List (List Int)} (most : Int) (hf : pivot_isFit l) : chooseOf m l most = rchooseOf m l most := by
  unfold chooseOf rchooseOf
  rw [leasts_first hf.2.2]
  exact chooseL_is m l most hf.1 8 _ _ (by simp)
end Go.Proofs.Ytoidpkpgeeeggaa.Near
end
section
set_option linter.unusedVariables false
namespace Go.Proofs.Ytoidpkpgeeeggaa.EvTab
open Go.RowKit Go.Proofs.Ytoidpkpgeeeggaa.Q Go.Proofs.YtoidpkpgeeeggaaW.PrintWords Plain Go.Proofs.Ytoidpkpgeeeggaa.Near Go
theorem few_ev (l : List (List Int)) (most : Int) (hm : most ≤ 1000) : Ev (fun k => antiquaryref09_Few.f k l most) (decide ((l.length : Int) ≤ most ∧ ∀ v ∈ l, v.length ≤ 40)) := by
  unfold antiquaryref09_Few.f
  by_cases h : (l.length : Int) > most
  · exact ev_pos h (ev_some (decide_eq_false (fun h2 => by have := h2.1; omega)).symm)
  refine ev_neg h ?_
  have hall := all_lt l [] (fun v => v.length ≤ 40)
  refine ev_count (G := fun i k => antiquaryref09_Few.l0 k l (i : Int)) (n := l.length) (fun i => ∀ j, j < i → (l.getD j []).length ≤ 40) (fun j hj => by omega) (fun i hi hI h2 => ?_) (fun hI => ?_)
  · refine ev_succ ?_
    simp only [antiquaryref09_Few.l0]
    refine ev_pos (by omega) (ev_pos (by omega) ?_)
    rw [show rd_L1 l (i : Int) = l.getD i [] by unfold rd_L1; rw [Int.toNat_natCast]]
    by_cases c : ((l.getD i []).length : Int) > 40
    · exact ev_pos c (ev_some (decide_eq_false (fun h => by have := hall.1 h.2 i hi; omega)).symm)
    · refine ev_neg c ?_
      rw [wsuc i (by omega)]
      refine h2 (fun j hj => ?_)
      rcases Nat.lt_succ_iff_lt_or_eq.1 hj with h1 | rfl
      · exact hI j h1
      · omega
  · refine ev_succ ?_
    simp only [antiquaryref09_Few.l0]
    refine ev_neg (by omega) (ev_some ?_)
    symm
    rw [decide_eq_true_eq]
    exact ⟨by omega, hall.2 hI⟩
theorem few_of {l : List (List Int)} {most : Int} (hm : most ≤ 1000) (h : (l.length : Int) ≤ most ∧ ∀ v ∈ l, v.length ≤ 40) : pivot_few l := ⟨by omega, fun v hv => by have := h.2 v hv; omega⟩
theorem small_of {l : List (List Int)} (h : pivot_few l) : pivot_smallRows l := ⟨by have := h.1; omega, fun v hv => by have := h.2 v hv; omega⟩
def isPivots (m : Int) (p : List (List Int)) : Prop := (1 ≤ m ∧ m ≤ 3) ∧ pivot_isFit p ∧ p.length ≤ 8
instance (m : Int) (p : List (List Int)) : Decidable (isPivots m p) := by unfold isPivots; infer_instance
theorem tableOf_length (m : Int) (p l : List (List Int)) : (tableOf m p l).length = l.length := by simp [tableOf]
theorem keysOf_length (m : Int) (p : List (List Int)) (v : List Int) : (keysOf m p v).length = p.length := by simp [keysOf]
theorem row_table {m : Int} {p l : List (List Int)} {i : Nat} (h : i < l.length) : rowOf (tableOf m p l) i = keysOf m p (rowOf l i) := by
  unfold rowOf tableOf; simp [List.getD_eq_getElem?_getD, h]
end Go.Proofs.Ytoidpkpgeeeggaa.EvTab
end
section
set_option linter.unusedVariables false
namespace Go.Proofs.Ytoidpkpgeeeggaa.EvCover
open Go.RowKit Go.Proofs.Ytoidpkpgeeeggaa.Q Go.Proofs.YtoidpkpgeeeggaaW.PrintWords Plain Go.Proofs.Ytoidpkpgeeeggaa.Near Go.Proofs.Ytoidpkpgeeeggaa.EvTab Go
def isNear (m : Int) (p : List (List Int)) (v : List Int) : Prop := isPivots m p ∧ alike (rowOf p 0) v
instance (m : Int) (p : List (List Int)) (v : List Int) : Decidable (isNear m p v) := by unfold isNear; infer_instance
def nearKey (m : Int) (p : List (List Int)) (v : List Int) : Int := Lib.minOf (keysOf m p v)
/-- the greatest key of a vector and its nearest pivot, of the first n -/
def coverN (m : Int) (p l : List (List Int)) : Nat → Int
  | 0 => 0
  | n + 1 => mx (coverN m p l n) (nearKey m p (rowOf l n))
def coverOf (m : Int) (p l : List (List Int)) : Int := coverN m p l l.length
theorem cover_ev (m : Int) {p l : List (List Int)} (hp : pivot_smallRows p) (hl : pivot_smallRows l) : Ev (fun k => pivot_Cover.f k m p l) (if tabOk m p l then (coverOf m p l, 0) else (0, 1)) := by
  unfold pivot_Cover.f
  refine ev_bind (pivot_Table.ev hp hl) ?_
  by_cases h : tabOk m p l
  · rw [if_pos h, if_pos h]
    have tl := tableOf_length m p l
    have l4 := h.2.1.2.1
    have p8 := h.1.2.2
    have p1 := h.1.2.1.1
    refine ev_pos rfl ?_
    dsimp only
    refine ev_cast (ev_count0 (G := fun i k => pivot_Cover.l0 k (coverN m p l i) (tableOf m p l) ((tableOf m p l).length : Int) (i : Int)) (n := l.length) (r := (coverOf m p l, 0)) (fun i hi h2 => ?_) ?_) rfl
    · refine ev_succ ?_
      simp only [pivot_Cover.l0]
      refine ev_pos (by omega) (ev_pos (by omega) (ev_pos (by omega) ?_))
      have hk := keysOf_length m p (rowOf l i)
      rw [rdL_row, row_table hi]
      refine ev_ob (show slices_Min_int_int.f (keysOf m p (rowOf l i)) = some (nearKey m p (rowOf l i)) from if_pos ⟨by omega, by omega⟩) ?_
      rw [wsuc i (by omega)]
      exact h2
    · refine ev_succ ?_
      simp only [pivot_Cover.l0]
      exact ev_neg (by omega) (ev_some rfl)
  · rw [if_neg h, if_neg h]
    exact ev_neg (by simp) (ev_some rfl)
end Go.Proofs.Ytoidpkpgeeeggaa.EvCover
end
section
set_option linter.unusedVariables false
namespace Go.Proofs.Ytoidpkpgeeeggaa.Cover
open Go.RowKit Go.Proofs.Ytoidpkpgeeeggaa.Q Go.Proofs.YtoidpkpgeeeggaaW.PrintWords Plain Go.Proofs.Ytoidpkpgeeeggaa.Near Go.Proofs.Ytoidpkpgeeeggaa.EvTab Go.Proofs.Ytoidpkpgeeeggaa.EvCover Go
/-- more points than places: two of them share one -/
theorem pigeon : ∀ (n : Nat) (f : Nat → Nat), (∀ i, i ≤ n → f i < n) → ∃ i j, i < j ∧ j ≤ n ∧ f i = f j
  | 0, f, h => absurd (h 0 (Nat.le_refl _)) (by omega)
  | n + 1, f, h => by
    by_cases c : ∃ i, i ≤ n ∧ f i = f (n + 1)
    · obtain ⟨i, hi, e⟩ := c
      exact ⟨i, n + 1, by omega, Nat.le_refl _, e⟩
    · have hne : ∀ i, i ≤ n → f i ≠ f (n + 1) := fun i hi e => c ⟨i, hi, e⟩
      obtain ⟨i, j, hij, hj, e⟩ := pigeon n (fun i => if f i > f (n + 1) then f i - 1 else f i) (fun i hi => by
        have h1 := h i (by omega)
        have h2 := h (n + 1) (Nat.le_refl _)
        have h3 := hne i hi
        split <;> omega)
      have h1 := hne i (by omega)
      have h2 := hne j hj
      refine ⟨i, j, hij, by omega, ?_⟩
      split at e <;> split at e <;> omega
theorem coverN_is (m : Int) (p l : List (List Int)) (hp : p ≠ []) : ∀ n, (∀ i, i < n → nearKey m p (rowOf l i) ≤ coverN m p l n) ∧ (coverN m p l n = 0 ∨ ∃ i, i < n ∧ nearKey m p (rowOf l i) = coverN m p l n) ∧ 0 ≤ coverN m p l n
  | 0 => ⟨fun i hi => absurd hi (by omega), .inl rfl, Int.le_refl _⟩
  | n + 1 => by
    obtain ⟨h1, h2, h3⟩ := coverN_is m p l hp n
    have e : coverN m p l (n + 1) = mx (coverN m p l n) (nearKey m p (rowOf l n)) := rfl
    have a : coverN m p l n ≤ coverN m p l (n + 1) ∧ nearKey m p (rowOf l n) ≤ coverN m p l (n + 1) ∧ (coverN m p l (n + 1) = coverN m p l n ∨ coverN m p l (n + 1) = nearKey m p (rowOf l n)) := by
      rw [e]; unfold mx; split <;> omega
    refine ⟨fun i hi => ?_, ?_, by omega⟩
    · rcases Nat.lt_succ_iff_lt_or_eq.1 hi with h | rfl
      · have := h1 i h; omega
      · exact a.2.1
    · rcases a.2.2 with h | h
      · rcases h2 with h2 | ⟨i, hi, h2⟩
        · exact .inl (by omega)
        · exact .inr ⟨i, by omega, by omega⟩
      · exact .inr ⟨n, by omega, h.symm⟩
theorem near_nonneg (m : Int) {p : List (List Int)} (hp : p ≠ []) (v : List Int) : 0 ≤ nearKey m p v := mins_nonneg m hp v
theorem near_le (m : Int) {p : List (List Int)} (v : List Int) {x : List Int} (hx : x ∈ p) : nearKey m p v ≤ key m x v := min_le _ _ (List.mem_map.2 ⟨x, hx, rfl⟩)
theorem near_at (m : Int) {p : List (List Int)} (hp : p ≠ []) (v : List Int) : ∃ x ∈ p, nearKey m p v = key m x v := by
  obtain ⟨x, hx, e⟩ := List.mem_map.1 (min_mem _ (keysOf_ne (m := m) hp v))
  exact ⟨x, hx, e.symm⟩
theorem near_less (m : Int) {p : List (List Int)} (hp : p ≠ []) (q v : List Int) : nearKey m (p ++ [q]) v ≤ nearKey m p v := by
  obtain ⟨x, hx, e⟩ := near_at m hp v
  rw [e]
  exact near_le m v (List.mem_append_left _ hx)
/-- the cover is the greatest of the least keys -/
theorem cover_max {m : Int} {p l : List (List Int)} (hp : p ≠ []) (hl : 0 < l.length) : coverOf m p l = Lib.maxOf (leasts m l p) := by
  obtain ⟨h1, h2, h3⟩ := coverN_is m p l hp l.length
  have mem : ∀ i, i < l.length → nearKey m p (rowOf l i) ∈ leasts m l p := fun i hi => List.mem_map.2 ⟨_, rowOf_mem hi, rfl⟩
  have all : ∀ y ∈ leasts m l p, ∃ i, i < l.length ∧ y = nearKey m p (rowOf l i) := fun y hy => by
    obtain ⟨v, hv, rfl⟩ := List.mem_map.1 hy
    obtain ⟨i, hi, rfl⟩ := List.mem_iff_getElem.1 hv
    exact ⟨i, hi, by unfold rowOf nearKey; simp [List.getD_eq_getElem?_getD, hi]⟩
  symm
  unfold coverOf
  refine max_eq ?_ (fun y hy => ?_)
  · rcases h2 with h2 | ⟨i, hi, h2⟩
    · have a := h1 0 hl
      have b := near_nonneg m hp (rowOf l 0)
      rw [h2, show (0 : Int) = nearKey m p (rowOf l 0) by omega]
      exact mem 0 hl
    · rw [← h2]; exact mem i hi
  · obtain ⟨i, hi, rfl⟩ := all y hy
    exact h1 i hi
/-- chosen vectors lie apart: each two of them at least so far as the cover -/
def apart (m : Int) (l p : List (List Int)) : Prop := ∀ i k, k < i → i < p.length → 0 < key m (rowOf p i) (rowOf p k) ∧ Lib.maxOf (leasts m l p) ≤ key m (rowOf p i) (rowOf p k)
def rowsAt (l : List (List Int)) (out : List Int) : List (List Int) := out.map (fun i => rowOf l i.toNat)
def inRange (l : List (List Int)) (out : List Int) : Prop := ∀ x ∈ out, 0 ≤ x ∧ x < l.length
theorem row_app_l {p q : List (List Int)} {i : Nat} (h : i < p.length) : rowOf (p ++ q) i = rowOf p i := by
  unfold rowOf; rw [List.getD_eq_getElem?_getD, List.getD_eq_getElem?_getD, List.getElem?_append_left h]
theorem row_app_last (p : List (List Int)) (q : List Int) : rowOf (p ++ [q]) p.length = q := by unfold rowOf; simp [List.getD_eq_getElem?_getD]
theorem max_less {m : Int} {l p : List (List Int)} (hl : 0 < l.length) (hp : p ≠ []) (q : List Int) : Lib.maxOf (leasts m l (p ++ [q])) ≤ Lib.maxOf (leasts m l p) := by
  have ne : leasts m l (p ++ [q]) ≠ [] := by unfold leasts; intro e; rw [List.map_eq_nil_iff] at e; rw [e] at hl; simp at hl
  obtain ⟨v, hv, e⟩ := List.mem_map.1 (max_mem _ ne)
  change nearKey m (p ++ [q]) v = Lib.maxOf (leasts m l (p ++ [q])) at e
  have h1 := near_less m hp q v
  have h2 : nearKey m p v ≤ Lib.maxOf (leasts m l p) := le_max (leasts m l p) _ (List.mem_map.2 ⟨v, hv, rfl⟩)
  omega
theorem leasts_get {m : Int} {l p : List (List Int)} {i : Nat} (h : i < l.length) (h2 : i < (leasts m l p).length) : (leasts m l p)[i] = nearKey m p (rowOf l i) := by
  unfold nearKey rowOf
  simp [leasts, List.getD_eq_getElem?_getD, h]
theorem apart_snoc {m : Int} {l p : List (List Int)} (hl : 0 < l.length) (hp : p ≠ []) (h : apart m l p) (hf : Lib.maxOf (leasts m l p) ≠ 0) : apart m l (p ++ [rowOf l (farAt (leasts m l p))]) := by
  have lt : farAt (leasts m l p) < l.length := by
    have := farAt_lt (xs := leasts m l p) (by simpa [leasts] using hl)
    simpa [leasts] using this
  have far : nearKey m p (rowOf l (farAt (leasts m l p))) = Lib.maxOf (leasts m l p) := by
    have hlen : farAt (leasts m l p) < (leasts m l p).length := by simpa [leasts] using lt
    have e := List.findIdx_getElem (w := hlen)
    rw [beq_iff_eq] at e
    exact (leasts_get lt hlen).symm.trans e
  have ne : leasts m l p ≠ [] := by unfold leasts; intro e; rw [List.map_eq_nil_iff] at e; rw [e] at hl; simp at hl
  have pos : 0 < Lib.maxOf (leasts m l p) := by
    have h0 := near_nonneg m hp (rowOf l (farAt (leasts m l p)))
    rw [far] at h0
    omega
  have less := max_less (m := m) hl hp (rowOf l (farAt (leasts m l p)))
  intro i k hk hi
  simp only [List.length_append, List.length_singleton] at hi
  by_cases c : i < p.length
  · rw [row_app_l c, row_app_l (by omega)]
    have := h i k hk c
    omega
  · obtain rfl : i = p.length := by omega
    rw [row_app_last, row_app_l hk, key_comm]
    have := near_le m (rowOf l (farAt (leasts m l p))) (rowOf_mem hk)
    omega
/-- what is chosen -/
theorem choose_spec (m : Int) (l : List (List Int)) (most : Int) (hl : 0 < l.length) : ∀ (n : Nat) (out : List Int), out ≠ [] → inRange l out → apart m l (rowsAt l out) → most ≤ (out.length : Int) + n → (out.length : Int) ≤ most →
    ∃ R, rchooseL m l most n out (rowsAt l out) = R ∧ (∃ t, R = out ++ t) ∧ inRange l R ∧ apart m l (rowsAt l R) ∧ (R.length : Int) ≤ most ∧ ((R.length : Int) < most → Lib.maxOf (leasts m l (rowsAt l R)) = 0)
  | 0, out, hne, hr, ha, h1, h2 => ⟨out, rfl, ⟨[], by simp⟩, hr, ha, h2, fun h => by omega⟩
  | n + 1, out, hne, hr, ha, h1, h2 => by
    have hc : rowsAt l out ≠ [] := by unfold rowsAt; simpa using hne
    have hf := farN_all (m := m) (l := l) hc hl
    simp only [rchooseL, hf]
    by_cases c : (out.length : Int) < most
    · rw [if_pos c]
      by_cases c2 : Lib.maxOf (leasts m l (rowsAt l out)) = 0
      · rw [if_pos c2]
        exact ⟨out, rfl, ⟨[], by simp⟩, hr, ha, h2, fun _ => c2⟩
      · rw [if_neg c2]
        have lt : farAt (leasts m l (rowsAt l out)) < l.length := by
          have := farAt_lt (xs := leasts m l (rowsAt l out)) (by simpa [leasts] using hl)
          simpa [leasts] using this
        have e : rowsAt l out ++ [rowOf l (farAt (leasts m l (rowsAt l out)))] = rowsAt l (out ++ [((farAt (leasts m l (rowsAt l out)) : Nat) : Int)]) := by
          unfold rowsAt; simp
        have ha2 := apart_snoc hl hc ha c2
        rw [e] at ha2 ⊢
        obtain ⟨R, e1, ⟨t, e2⟩, e3⟩ := choose_spec m l most hl n (out ++ [((farAt (leasts m l (rowsAt l out)) : Nat) : Int)]) (by simp) (fun x hx => by
          rcases List.mem_append.1 hx with hx | hx
          · exact hr x hx
          · rw [List.mem_singleton] at hx; subst hx; exact ⟨by omega, by omega⟩) ha2 (by simp; omega) (by simp; omega)
        exact ⟨R, e1, ⟨[((farAt (leasts m l (rowsAt l out)) : Nat) : Int)] ++ t, by rw [e2]; simp⟩, e3⟩
    · rw [if_neg c]
      exact ⟨out, rfl, ⟨[], by simp⟩, hr, ha, h2, fun h => absurd h c⟩
/-- as many others as chosen ones cover no better than to the half -/
theorem cover_well {m : Int} {l p o : List (List Int)} (hl : 0 < l.length) (ha : ∀ x ∈ l, ∀ y ∈ l, alike x y) (hp : ∀ x ∈ p, x ∈ l) (ho : ∀ x ∈ o, x ∈ l) (hpo : p.length = o.length) (hne : p ≠ []) (hap : apart m l p) :
    coverOf m p l ≤ high m (coverOf m o l) (coverOf m o l) := by
  have one : o ≠ [] := by intro e; rw [e] at hpo; exact hne (List.eq_nil_of_length_eq_zero (by simpa using hpo))
  have cm := cover_max (m := m) hne hl
  obtain ⟨p1, p2, p3⟩ := coverN_is m p l hne l.length
  obtain ⟨o1, o2, o3⟩ := coverN_is m o l one l.length
  have isK : ∀ {q : List (List Int)}, q ≠ [] → (∀ x ∈ q, x ∈ l) → isKey (coverOf m q l) := fun {q} hq hql => by
    obtain ⟨_, h2, _⟩ := coverN_is m q l hq l.length
    rcases h2 with h2 | ⟨i, hi, h2⟩
    · unfold coverOf; rw [h2]; exact ⟨by omega, by omega⟩
    · obtain ⟨x, hx, e⟩ := near_at m hq (rowOf l i)
      unfold coverOf; rw [← h2, e]; exact key_isKey m (ha _ (hql x hx) _ (rowOf_mem hi))
  have ko := isK one ho
  have hg := high_ge m ko ko
  rcases p2 with p2 | ⟨i0, hi0, p2⟩
  · unfold coverOf at *; rw [p2]; have := ko.1; omega
  -- the chosen ones and the farthest one
  let pt : Nat → List Int := fun i => if i < p.length then rowOf p i else rowOf l i0
  have ptl : ∀ i, pt i ∈ l := fun i => by
    show (if i < p.length then rowOf p i else rowOf l i0) ∈ l
    split
    · exact hp _ (rowOf_mem (by assumption))
    · exact rowOf_mem hi0
  have far : ∀ i k, k < i → i ≤ p.length → coverOf m p l ≤ key m (pt i) (pt k) := fun i k hk hi => by
    show _ ≤ key m (if i < p.length then rowOf p i else rowOf l i0) (if k < p.length then rowOf p k else rowOf l i0)
    rw [if_pos (show k < p.length by omega)]
    split
    · rename_i h
      rw [cm]; exact (hap i k hk h).2
    · rw [key_comm]
      unfold coverOf
      rw [← p2]
      exact near_le m _ (rowOf_mem (by omega))
  have near : ∀ i, ∃ j, j < o.length ∧ key m (rowOf o j) (pt i) ≤ coverOf m o l := fun i => by
    obtain ⟨x, hx, e⟩ := near_at m one (pt i)
    obtain ⟨j, hj, rfl⟩ := List.mem_iff_getElem.1 hx
    obtain ⟨k, hk, e2⟩ := List.mem_iff_getElem.1 (ptl i)
    have := o1 k hk
    have e3 : rowOf l k = pt i := by rw [← e2]; unfold rowOf; simp [List.getD_eq_getElem?_getD, hk]
    have e4 : rowOf o j = o[j] := by unfold rowOf; simp [List.getD_eq_getElem?_getD, hj]
    rw [e3] at this
    exact ⟨j, hj, by rw [e4, ← e]; exact this⟩
  obtain ⟨f, hf⟩ : ∃ f : Nat → Nat, ∀ i, f i < o.length ∧ key m (rowOf o (f i)) (pt i) ≤ coverOf m o l := ⟨fun i => Classical.choose (near i), fun i => Classical.choose_spec (near i)⟩
  obtain ⟨i, j, hij, hj, e⟩ := pigeon p.length f (fun i _ => by rw [hpo]; exact (hf i).1)
  have h1 := (hf i).2
  have h2 := (hf j).2
  rw [e] at h1
  have oj := ho _ (rowOf_mem (hf j).1)
  have al1 := ha _ (ptl j) _ oj
  have al2 := ha _ oj _ (ptl i)
  have b := (key_between m al1 al2).2
  have f1 := far j i hij (by omega)
  have c1 : key m (pt j) (rowOf o (f j)) ≤ coverOf m o l := by rw [key_comm]; exact h2
  have g := high_mono2 m (key_isKey m al1) (key_isKey m al2) ko c1 h1
  omega
end Go.Proofs.Ytoidpkpgeeeggaa.Cover
end
section
set_option linter.unusedVariables false
namespace Go.Proofs.Ytoidpkpgeeeggaa.EvFit
open Go.RowKit Go.Proofs.Ytoidpkpgeeeggaa.Q Go.Proofs.YtoidpkpgeeeggaaW.PrintWords Plain Go.Proofs.Ytoidpkpgeeeggaa.Near Go.Proofs.Ytoidpkpgeeeggaa.EvTab Go
/-- lists that fit are small -/
theorem fit_small {l : List (List Int)} (h : pivot_isFit l) : pivot_smallRows l := ⟨by have := h.2.1; omega, fun v hv => by have := (h.2.2 v hv).2.1.2.2; omega⟩
end Go.Proofs.Ytoidpkpgeeeggaa.EvFit
end
section
set_option linter.unusedVariables false
namespace Go.Proofs.Ytoidpkpgeeeggaa.Sane
open Go.RowKit Go.Proofs.Ytoidpkpgeeeggaa.Q Go.Proofs.YtoidpkpgeeeggaaW.PrintWords Plain
theorem sanity_is : antiquarylaw09_sanity.f 60 = some true := by decide +kernel
theorem sanity_ev : Ev (fun k => antiquarylaw09_sanity.f k) true := ev_ofx (fun k => antiquarylaw09_sanity.mono k) ⟨60, sanity_is⟩
end Go.Proofs.Ytoidpkpgeeeggaa.Sane
end
section
set_option linter.unusedVariables false
namespace Go.Proofs.Ytoidpkpgeeeggaa.Pure
open Go.RowKit Go.Proofs.Ytoidpkpgeeeggaa.Q Go.Proofs.YtoidpkpgeeeggaaW.PrintWords Plain Go.Proofs.Ytoidpkpgeeeggaa.EvTab Go.Proofs.Ytoidpkpgeeeggaa.EvFit Go.Proofs.Ytoidpkpgeeeggaa.EvCover Go.Proofs.Ytoidpkpgeeeggaa.Near Go.Proofs.Ytoidpkpgeeeggaa.Cover
theorem u8_range {x : Int} (h : (Go.Lit.int .u8 x).wf = true) : 0 ≤ x ∧ x ≤ 255 := by
  simp [Go.Lit.wf, Go.IntKind.min, Go.IntKind.max, Go.IntKind.bits, Go.IntKind.signed] at h
  omega
/-- other pivots among the vectors -/
def otherAt (l : List (List Int)) (places : List Int) (i : Nat) : List Int := if i < places.length then rowOf l (rd places (i : Int) % (l.length : Int)).toNat else rowOf l 0
theorem other_mem {l : List (List Int)} (hl : 0 < l.length) (places : List Int) (i : Nat) : otherAt l places i ∈ l := by
  unfold otherAt
  split
  · have h1 := Int.emod_nonneg (rd places (i : Int)) (show (l.length : Int) ≠ 0 by omega)
    have h2 := Int.emod_lt_of_pos (rd places (i : Int)) (show (0 : Int) < (l.length : Int) by omega)
    exact rowOf_mem (by omega)
  · exact rowOf_mem hl
theorem some_ev {l : List (List Int)} (hl : 0 < l.length) (hl2 : l.length ≤ 4096) {places : List Int} (hp : ∀ x ∈ places, 0 ≤ x ∧ x ≤ 255) {n : Nat} (hn : n ≤ 8) : Ev (fun k => antiquarylaw09_some.f k l places (n : Int)) ((List.range n).map (otherAt l places)) := by
  have hp2 := (all_lt places 0 _).1 hp
  refine ev_cast (ev_count0 (G := fun i k => antiquarylaw09_some.l0 k l places (n : Int) ((List.range i).map (otherAt l places)) (i : Int)) (n := n) (r := (List.range n).map (otherAt l places)) (fun i hi h => ?_) ?_) rfl
  · refine ev_succ ?_
    simp only [antiquarylaw09_some.l0]
    rw [List.range_succ, List.map_append, List.map_singleton] at h
    refine ev_pos (by omega) ?_
    by_cases c : (i : Int) < (places.length : Int)
    · have hr : 0 ≤ rd places (i : Int) ∧ rd places (i : Int) ≤ 255 := by have := hp2 i (by omega); unfold rd; rw [Int.toNat_natCast]; exact this
      have e1 : wrap64 (rd places (i : Int)) = rd places (i : Int) := w64 (by omega) (by omega)
      have e2 : Int.tmod (rd places (i : Int)) (l.length : Int) = rd places (i : Int) % (l.length : Int) := Int.tmod_eq_emod_of_nonneg hr.1
      have h1 := Int.emod_nonneg (rd places (i : Int)) (show (l.length : Int) ≠ 0 by omega)
      have h2 := Int.emod_lt_of_pos (rd places (i : Int)) (show (0 : Int) < (l.length : Int) by omega)
      rw [e1, e2]
      refine ev_pos c (ev_pos (by omega) (ev_neg (by omega) (ev_pos h1 (ev_pos h2 (ev_pos (by simp; omega) ?_)))))
      rw [wsuc i (by omega)]
      have e3 : rd_L1 l (rd places (i : Int) % (l.length : Int)) = otherAt l places i := by
        unfold otherAt rd_L1 rowOf
        rw [if_pos (by omega)]
      rw [e3]
      exact h
    · refine ev_neg c (ev_pos (by omega) (ev_pos (by simp; omega) ?_))
      rw [wsuc i (by omega)]
      have e3 : rd_L1 l 0 = otherAt l places i := by
        unfold otherAt
        rw [if_neg (by omega)]; exact rdL_row l 0
      rw [e3]
      exact h
  · refine ev_succ ?_
    simp only [antiquarylaw09_some.l0]
    exact ev_neg (by omega) (ev_some rfl)
theorem rowsAt_range (l : List (List Int)) (R : List Int) : (List.range R.length).map (fun (j : Nat) => rowOf l (rd R (j : Int)).toNat) = rowsAt l R := by
  unfold rowsAt
  apply List.ext_getElem
  · simp
  · intro i h1 h2
    simp at h1 h2
    simp [rd, List.getD_eq_getElem?_getD, h2]
theorem sub_fit {l p : List (List Int)} (hl : pivot_isFit l) (h : ∀ x ∈ p, x ∈ l) (h1 : 1 ≤ p.length) (h8 : p.length ≤ 8) : pivot_isFit p :=
  ⟨h1, by omega, fun v hv => alike_trans (alike_symm (hl.2.2 _ (h _ (rowOf_mem (by omega))))) (hl.2.2 _ (h v hv))⟩
theorem sub_tab {m : Int} {l p : List (List Int)} (hm : 1 ≤ m ∧ m ≤ 3) (hl : pivot_isFit l) (h : ∀ x ∈ p, x ∈ l) (h1 : 1 ≤ p.length) (h8 : p.length ≤ 8) : tabOk m p l :=
  ⟨⟨hm, sub_fit hl h h1 h8, h8⟩, hl, alike_symm (hl.2.2 _ (h _ (rowOf_mem (by omega))))⟩
theorem PivotsCoverWell (m : Int) (l : List (List Int)) (most : Int) (others : List Int) (_ : (Go.Lit.int .i64 m).wf = true) (hl : l.length ≤ Go.maxLen) (_ : ∀ v ∈ l, v.length ≤ Go.maxLen ∧ ∀ x ∈ v, (Go.Lit.int .i64 x).wf = true)
    (wm : (Go.Lit.int .u8 most).wf = true) (_ : others.length ≤ Go.maxLen) (wo : ∀ x ∈ others, (Go.Lit.int .u8 x).wf = true) : ∃ k, antiquarylaw09_PivotsCoverWell.f k m l most others = some true := by
  refine ev_ex ?_
  have other : Ev (fun k => antiquarylaw09_PivotsCoverWell.j0 k m l most others true) true := by
    refine ev_succ ?_
    simp only [antiquarylaw09_PivotsCoverWell.j0]
    exact ev_pos (by first | rfl | trivial) (ev_bind Sane.sanity_ev (ev_some rfl))
  refine ev_bind (few_ev l 30 (by omega)) ?_
  by_cases h1 : (l.length : Int) ≤ 30 ∧ ∀ v ∈ l, v.length ≤ 40
  rotate_left
  · exact ev_neg (by simpa using h1) other
  have fl := few_of (by omega) h1
  have sl := small_of fl
  refine ev_pos (decide_eq_true h1) (ev_ob (ref09_Metric_is m) ?_)
  by_cases h2 : 1 ≤ m ∧ m ≤ 3
  rotate_left
  · exact ev_neg (by simpa using h2) other
  refine ev_pos (by simpa using h2) (ev_bind (ref09_Fit_ev fl) ?_)
  by_cases h3 : pivot_isFit l
  rotate_left
  · rw [decide_eq_false h3]; exact other
  rw [decide_eq_true h3]
  have l0 : 0 < l.length := h3.1
  have l30 : l.length ≤ 30 := by omega
  have um := u8_range wm
  have en : wrap64 (1 + Int.tmod (wrap64 most) 8) = ((1 + most % 8).toNat : Int) := by
    rw [w64 (x := most) (by omega) (by omega), Int.tmod_eq_emod_of_nonneg um.1, w64 (by omega) (by omega)]; omega
  obtain ⟨n, hn⟩ : ∃ n, (1 + most % 8).toNat = n := ⟨_, rfl⟩
  rw [hn] at en
  have n1 : 1 ≤ n ∧ n ≤ 8 := by omega
  have al : ∀ x ∈ l, ∀ y ∈ l, alike x y := fun x hx y hy => alike_trans (alike_symm (h3.2.2 x hx)) (h3.2.2 y hy)
  obtain ⟨R, e1, ⟨t, e2⟩, e3, e4, e5, e6⟩ := choose_spec m l (n : Int) l0 8 [0] (by simp) (fun x hx => by rw [List.mem_singleton] at hx; subst hx; exact ⟨by omega, by omega⟩)
    (fun i k hk hi => by simp only [rowsAt, List.length_map, List.length_singleton] at hi; omega) (by simp; omega) (by simp; omega)
  have ec : pivot_Choose.f m l (n : Int) = some (R, 0) := by
    have hok : chooseOk m l (n : Int) := ⟨h2, h3, by omega, by omega⟩
    have e7 : chooseOf m l (n : Int) = R := (choose_is _ h3).trans e1
    exact (if_pos sl : pivot_Choose.f m l (n : Int) = _).trans (by rw [if_pos hok, e7])
  have r1 : 1 ≤ R.length := by rw [e2]; simp
  have r0 : rd R 0 = 0 := by rw [e2]; rfl
  have rlt : ∀ i, i < R.length → 0 ≤ rd R (i : Int) ∧ rd R (i : Int) < l.length := fun i hi => by
    have := (all_lt R 0 _).1 e3 i hi
    unfold rd; rw [Int.toNat_natCast]; exact this
  clear e2
  refine ev_succ ?_
  simp only [antiquarylaw09_PivotsCoverWell.j0]
  rw [en]
  refine ev_neg (by simp) (ev_ob ec (ev_pos rfl (ev_neg (by dsimp only; omega) (ev_neg (by dsimp only; omega) (ev_pos (by dsimp only; omega) ?_)))))
  rw [show (rd (R, (0 : Int)).1 0 != 0) = false by simp [r0]]
  refine ev_succ ?_
  simp only [antiquarylaw09_PivotsCoverWell.j1]
  refine ev_neg (by simp) ?_
  obtain ⟨p, hp⟩ : ∃ p, rowsAt l R = p := ⟨_, rfl⟩
  have plen : p.length = R.length := by rw [← hp]; simp [rowsAt]
  have psub : ∀ x ∈ p, x ∈ l := fun x hx => by
    rw [← hp] at hx
    obtain ⟨i, hi, rfl⟩ := List.mem_map.1 hx
    have := e3 i hi
    exact rowOf_mem (by omega)
  have pne : p ≠ [] := by intro h; rw [h] at plen; simp at plen; omega
  have ptab := sub_tab h2 h3 psub (by omega) (by omega)
  have ps := fit_small ptab.1.2.1
  rw [hp] at e4 e6
  have cm := cover_max (m := m) pne l0
  have last : Ev (fun k => antiquarylaw09_PivotsCoverWell.j3 k m l others (n : Int) p (coverOf m p l) false) true := by
    refine ev_succ ?_
    simp only [antiquarylaw09_PivotsCoverWell.j3]
    refine ev_neg (by simp) ?_
    refine ev_cast (ev_count0 (G := fun i k => antiquarylaw09_PivotsCoverWell.l1 k m l others (n : Int) p (coverOf m p l) (i : Int)) (n := p.length) (r := true) (fun i hi h => ?_) ?_) rfl
    · refine ev_succ ?_
      simp only [antiquarylaw09_PivotsCoverWell.l1]
      refine ev_pos (by omega) ?_
      refine ev_cast (ev_count0 (G := fun k' k => antiquarylaw09_PivotsCoverWell.l2 k m l others (n : Int) p (coverOf m p l) (i : Int) (k' : Int)) (n := i) (r := true) (fun j hj h5 => ?_) ?_) rfl
      · refine ev_succ ?_
        simp only [antiquarylaw09_PivotsCoverWell.l2]
        have a := e4 i j hj hi
        rw [rdL_row, rdL_row]
        refine ev_pos (by omega) (ev_pos (by omega) (ev_pos (by omega) (ev_pos (by omega) (ev_pos (by omega) (ev_bind (vector_Key.ev h2 (al _ (psub _ (rowOf_mem hi)) _ (psub _ (rowOf_mem (by omega))))) (ev_neg (by omega) (ev_neg (by omega) ?_)))))))
        rw [wsuc j (by omega)]
        exact h5
      · refine ev_succ ?_
        simp only [antiquarylaw09_PivotsCoverWell.l2]
        refine ev_neg (by omega) ?_
        rw [wsuc i (by omega)]
        exact h
    · refine ev_succ ?_
      simp only [antiquarylaw09_PivotsCoverWell.l1]
      obtain ⟨o, ho⟩ : ∃ o, (List.range n).map (otherAt l others) = o := ⟨_, rfl⟩
      have olen : o.length = n := by rw [← ho]; simp
      have osub : ∀ x ∈ o, x ∈ l := fun x hx => by
        rw [← ho] at hx
        obtain ⟨i, hi, rfl⟩ := List.mem_map.1 hx
        exact other_mem l0 others i
      have otab := sub_tab h2 h3 osub (by omega) (by omega)
      have ev := some_ev l0 (by omega) (fun x hx => u8_range (wo x hx)) n1.2
      rw [ho] at ev
      have ec2 := cover_ev m (fit_small otab.1.2.1) sl
      rw [if_pos otab] at ec2
      have one : o ≠ [] := by intro h; rw [h] at olen; simp at olen; omega
      have ko : isKey (coverOf m o l) := by
        obtain ⟨_, z2, _⟩ := coverN_is m o l one l.length
        rcases z2 with z2 | ⟨i, hi, z2⟩
        · unfold coverOf; rw [z2]; exact ⟨by omega, by omega⟩
        · obtain ⟨x, hx, e⟩ := near_at m one (rowOf l i)
          unfold coverOf; rw [← z2, e]; exact key_isKey m (al _ (osub x hx) _ (rowOf_mem hi))
      refine ev_neg (by omega) (ev_bind ev (ev_bind ec2 (ev_bind Sane.sanity_ev (ev_pos rfl (ev_pos rfl (ev_ob (show metric_High.f m _ _ = some _ from if_pos ⟨ko, ko⟩) (ev_some ?_)))))))
      rw [decide_eq_true_eq]
      show coverOf m p l ≤ high m (coverOf m o l) (coverOf m o l)
      by_cases c : R.length = n
      · exact cover_well l0 al psub osub (by omega) pne e4
      · have z := e6 (by omega)
        rw [cm, z]
        have := (high_ge m ko ko).1
        have := ko.1
        omega
  refine ev_cast (ev_count0 (G := fun i k => antiquarylaw09_PivotsCoverWell.l0 k m l others (n : Int) R ((List.range i).map (fun (j : Nat) => rowOf l (rd R (j : Int)).toNat)) (i : Int)) (n := R.length) (r := true) (fun i hi h => ?_) ?_) rfl
  · refine ev_succ ?_
    simp only [antiquarylaw09_PivotsCoverWell.l0]
    have b := rlt i hi
    rw [List.range_succ, List.map_append, List.map_singleton] at h
    refine ev_pos (by omega) (ev_pos (by omega) (ev_neg (by omega) (ev_neg (by omega) (ev_pos (by omega) (ev_pos (by omega) (ev_pos (by simp; omega) ?_))))))
    rw [wsuc i (by omega)]
    exact h
  · refine ev_succ ?_
    simp only [antiquarylaw09_PivotsCoverWell.l0]
    rw [rowsAt_range, hp]
    have ec3 := cover_ev m ps sl
    rw [if_pos ptab] at ec3
    refine ev_neg (by omega) (ev_bind ec3 (ev_pos rfl ?_))
    by_cases c : (R.length : Int) < (n : Int)
    · refine ev_pos c ?_
      rw [show ((coverOf m p l, (0 : Int)).1 != 0) = false by simp [cm, e6 c]]
      exact last
    · exact ev_neg c last
end Go.Proofs.Ytoidpkpgeeeggaa.Pure
end
section
set_option linter.unusedVariables false
namespace Go.Proofs.Ytoidpkpgeeeggaa.Open
open Go.RowKit Go.Proofs.Ytoidpkpgeeeggaa.Q Go.Proofs.YtoidpkpgeeeggaaW.PrintWords Go.Deep
theorem open_rows {H : Type} {enc : TypeId × Value → H} {P : Program} {w : World} {base : Nat} {held : Bool} {t e q : TypeId} {a : Option Addr} {len cap : Nat} {d : DataW H} {ps : List MemPlace}
    (ht : P.underlying t = some (.slice e)) (he : P.underlying e = some (.slice q)) (hq : P.underlying q = some (.int .i64)) (ce : P.cellsOf e = 1) (cq : P.cellsOf q = 1) (h : DataW.Trod enc P w base (fun _ => true) held t (.slice a len cap) d ps) (ty : Nat) :
    ∃ l : List (List Int), l.length = len ∧ len ≤ cap ∧ cap ≤ maxLen ∧ Kd.C (Kd.slice ty (Kd.int .i64)) w a len l ∧ ∀ v ∈ l, v.length ≤ maxLen ∧ ∀ x ∈ v, (Lit.int .i64 x).wf = true := by
  obtain ⟨fuel, hf⟩ := h
  rcases open_int_rows ht he hq ce cq hf with ⟨hcs, _⟩ | ⟨x, len', cap', A, L, C, Z, hcs, _, hl, hm, _, hx⟩
  · simp [Value.cells] at hcs
    obtain ⟨rfl, rfl, rfl⟩ := hcs
    exact ⟨[], rfl, Nat.le_refl _, Nat.zero_le _, Kd.C_nil _ _, by simp⟩
  · simp [Value.cells] at hcs
    obtain ⟨rfl, rfl, rfl⟩ := hcs
    have hlen : ∀ r, r < cap → ((Z r).take (L r)).length = L r := fun r hr => by
      have := hx r hr
      rw [List.length_take]; omega
    refine ⟨(List.range len).map (fun r => (Z r).take (L r)), by simp, hl, hm, ⟨by simp, by have := hm; unfold maxLen at this; omega, fun _ => ⟨x, rfl, fun j p hp => ?_⟩⟩, ?_⟩
    · have hj : j < len := by
        rcases Nat.lt_or_ge j len with h | h
        · exact h
        · rw [List.getElem?_eq_none (by simp; omega)] at hp; cases hp
      rw [List.getElem?_map, List.getElem?_range hj] at hp
      cases hp
      obtain ⟨hc, hLC, hCm, hZ, hwf, hnone, hsome⟩ := hx j (by omega)
      have hL := hlen j (by omega)
      refine ⟨[.slice (A j) (L j) (C j)], rfl, ⟨A j, C j, by rw [hL], by rw [hL]; exact hLC, ?_⟩, fun i u hu => ?_⟩
      · refine ⟨rfl, by rw [hL]; unfold maxLen at hCm; omega, fun hpos => ?_⟩
        cases hA : A j with
        | none =>
          have hp2 : 0 < L j := by rw [← hL]; exact hpos
          have := hnone hA
          omega
        | some a' =>
          refine ⟨a', rfl, fun c p hp => ⟨[.int .i64 p], rfl, ?_, fun i u hu => ?_⟩⟩
          · exact rfl
          · have hc2 : c < L j := by
              have h6 : c < (List.take (L j) (Z j)).length := (List.getElem?_eq_some_iff.1 hp).1
              omega
            match i, hu with
            | 0, hu =>
              cases hu
              have h3 := (hsome a' hA).2 c (by omega)
              have h4 : (Z j).getD c 0 = p := by
                rw [List.getElem?_take, if_pos hc2] at hp
                rw [List.getD_eq_getElem?_getD, hp]; rfl
              rw [h4] at h3
              show w.cell? (a'.add (c * 1 + 0)) = _
              rw [Nat.mul_one]
              exact h3
            | i + 1, hu => simp at hu
      · match i, hu with
        | 0, hu => cases hu; simpa [Kd.slice] using hc
        | i + 1, hu => simp at hu
    · intro v hv
      obtain ⟨r, hr, rfl⟩ := List.mem_map.1 hv
      have hr := List.mem_range.1 hr
      obtain ⟨_, hLC, hCm, hZ, hwf, _⟩ := hx r (by omega)
      exact ⟨by rw [hlen r (by omega)]; omega, fun y hy => hwf y (List.mem_of_mem_take hy)⟩
end Go.Proofs.Ytoidpkpgeeeggaa.Open
end
