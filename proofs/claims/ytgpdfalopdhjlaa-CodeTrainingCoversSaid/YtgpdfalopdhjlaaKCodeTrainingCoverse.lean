/- A part of the proof of CodeTrainingCovers: what the row's text reaches (packed by a program of this claim out of its texts). -/
import Derived.Test.YtgpdfalopdhjlaaKCodeTrainingCoversd
import Derived.Deep.Matrix
import Derived.Lib.SmallJoins
import Derived.ChangeShapes
section
namespace Go.Proofs.Ytgpdfalopdhjlaa.Q
open Go.RowKit Go.Proofs.YtgpdfalopdhjlaaW.PrintWords Go.Proofs.YtgpdfalopdhjlaaW.PrintLast Go.Proofs.YtgpdfalopdhjlaaW.PrintMore
attribute [local go_sem] max2_int min2_int max_two min_two max_three min_three max_four min_four   -- for this text's walks alone
set_option linter.unusedVariables false
set_option linter.unusedSimpArgs false
mutual
def antiquarylaw08_CodeTrainingCovers.j0 : Nat → List (List Int) → List Int → Int → Int → Int → Bool → Option (Bool)
  | 0, _, _, _, _, _, _ => none
  | k + 1, x0, x1, x2, x3, x4, x33 => if x33 = true then ((antiquarylaw08_sanity.f k).bind fun t560 => (some t560)) else ((code_Train.f x0 x1 (wrap64 (1 + (Int.tmod (wrap64 (mn x2 x3)) 50)))).bind fun bt561 => ((code_Train.f x0 x1 (mx (wrap64 (1 + (Int.tmod (wrap64 (mn x2 x3)) 50))) (wrap64 (1 + (Int.tmod (wrap64 (mx x2 x3)) 50))))).bind fun bt570 => (if bt561.2.2.2 = 0 then (antiquarylaw08_CodeTrainingCovers.j1 k x0 x4 (wrap64 (1 + (Int.tmod (wrap64 (mn x2 x3)) 50))) bt561.2.2.2 bt570.2.2.2 (bt570.2.2.2 != 0) bt561.1 bt561.2.1 bt561.2.2.1 bt570.1 bt570.2.1 bt570.2.2.1) else (antiquarylaw08_CodeTrainingCovers.j1 k x0 x4 (wrap64 (1 + (Int.tmod (wrap64 (mn x2 x3)) 50))) bt561.2.2.2 bt570.2.2.2 true bt561.1 bt561.2.1 bt561.2.2.1 bt570.1 bt570.2.1 bt570.2.2.1))))
def antiquarylaw08_CodeTrainingCovers.j1 : Nat → List (List Int) → Int → Int → Int → Int → Bool → Int → List Int → List (List (List Int)) → Int → List Int → List (List (List Int)) → Option (Bool)
  | 0, _, _, _, _, _, _, _, _, _, _, _, _ => none
  | k + 1, x0, x4, x12, x14, x16, x67, x570000, x570001, x570002, x579000, x579001, x579002 => if x67 = true then ((antiquarylaw08_sanity.f k).bind fun t579 => (if t579 = true then (some (x14 == x16)) else (some false))) else (antiquarylaw08_CodeTrainingCovers.l0 k x0 x4 x12 0 x570000 x570001 x570002 x579000 x579001 x579002)
def antiquarylaw08_CodeTrainingCovers.l0 : Nat → List (List Int) → Int → Int → Int → Int → List Int → List (List (List Int)) → Int → List Int → List (List (List Int)) → Option (Bool)
  | 0, _, _, _, _, _, _, _, _, _, _ => none
  | k + 1, x0, x4, x12, x17, x570000, x570001, x570002, x579000, x579001, x579002 => if x17 < (x570002.length : Int) then (if 0 ≤ x17 then (if x17 < (x579002.length : Int) then (if ((rd_L2 x570002 x17).length : Int) > ((rd_L2 x579002 x17).length : Int) then (some false) else (if ((rd_L2 x570002 x17).length : Int) > x12 then (some false) else (if 0 ≤ ((rd_L2 x570002 x17).length : Int) then (if ((rd_L2 x570002 x17).length : Int) ≤ ((rd_L2 x579002 x17).length : Int) then ((antiquaryref08_SameRows.f k (rd_L2 x570002 x17) ((rd_L2 x579002 x17).take (((rd_L2 x570002 x17).length : Int) : Int).toNat)).bind fun t590 => (if t590 = true then (antiquarylaw08_CodeTrainingCovers.l0 k x0 x4 x12 (wrap64 (x17 + 1)) x570000 x570001 x570002 x579000 x579001 x579002) else (some false))) else (none)) else (none)))) else (none)) else (none)) else ((code_Worst.f k x570000 x570001 x570002 x4 x0).bind fun t591 => ((code_Worst.f k x579000 x579001 x579002 x4 x0).bind fun t592 => ((antiquarylaw08_sanity.f k).bind fun t593 => (if t593 = true then (if t592 ≤ t591 then (if x12 < (x0.length : Int) then (some true) else (some (t591 == 0))) else (some false)) else (some false)))))
end
def antiquarylaw08_CodeTrainingCovers.f (k : Nat) (l0 : List (List Int)) (l1 : List Int) (a2 : Int) (a3 : Int) (a4 : Int) : Option (Bool) := (antiquaryref04_All.f k l0 40).bind fun t558 => (if t558 = true then (if (l1.length : Int) > 9 then (antiquarylaw08_CodeTrainingCovers.j0 k l0 l1 a2 a3 a4 true) else ((antiquaryref04_Metric.f a4).bind fun t559 => (antiquarylaw08_CodeTrainingCovers.j0 k l0 l1 a2 a3 a4 (!t559)))) else (antiquarylaw08_CodeTrainingCovers.j0 k l0 l1 a2 a3 a4 true))
def antiquarylaw08_CodeTrainingCovers.T12 : Bool × List (List Nat × List Nat) := (true, [([], []), ([0], [0]), ([], []), ([1, 2], [1, 2]), ([3], [3]), ([4], [4]), ([], []), ([6], [6]), ([], []), ([7, 8], [7, 8]), ([9], [9]), ([10], [10]), ([5, 11], [5, 11]), ([12], [12]), ([13], [13]), ([14, 13], [13, 14]), ([13], [13]), ([15, 16, 13], [13, 15, 16]), ([17, 13], [13, 17]), ([18, 13], [13, 18]), ([13], [13]), ([19, 20, 13], [13, 19, 20]), ([13, 21], [13, 21]), ([22, 13], [22]), ([23], [23]), ([24, 23], [23, 24]), ([23], [23]), ([25, 26, 23], [23, 25, 26]), ([27, 23], [23, 27]), ([23], [23]), ([29, 23], [23, 29]), ([23], [23]), ([30, 31, 23], [23, 30, 31]), ([32, 23], [23, 32]), ([23], [23]), ([34, 23], [23, 34]), ([23], [23]), ([35, 36, 23], [23, 35, 36]), ([37, 23], [23, 37]), ([38, 23], [23, 38]), ([33, 39, 23], [23, 33, 39]), ([28, 40, 23, 23], [23, 28, 40]), ([41, 23], [23, 41]), ([23, 42], [23, 42])])
def antiquarylaw08_CodeTrainingCovers.B12 : List Nat := [0, 1, 0, 7, 15, 31, 0, 64, 0, 448, 960, 1984, 4095, 8191, 16383, 32767, 16383, 131071, 262143, 524287, 16383, 2097151, 4194303, 8388607, 16777215, 33554431, 16777215, 134217727, 268435455, 16777215, 553648127, 16777215, 3774873599, 8069840895, 16777215, 17196646399, 16777215, 120275861503, 257714814975, 532592721919, 1098991534079, 2199023255551, 4398046511103, 8796093022207]
theorem antiquarylaw08_CodeTrainingCovers.tab12 : rtab .any (opsOf Try.f9 12) = antiquarylaw08_CodeTrainingCovers.T12 := by kernel_rfl
theorem antiquarylaw08_CodeTrainingCovers.bits12 : waitsOk antiquarylaw08_CodeTrainingCovers.T12.2 antiquarylaw08_CodeTrainingCovers.B12 = true := by kernel_rfl
set_option maxHeartbeats 8000000 in
set_option maxRecDepth 100000 in
theorem antiquarylaw08_CodeTrainingCovers.calls (k : Nat) (A0 : Option Addr) (c0 : Nat) (l0 : List (List Int)) (A1 : Option Addr) (c1 : Nat) (l1 : List Int) (a2 : Int) (a3 : Int) (a4 : Int) (r : Bool) (w : World) (hr0 : Kd.C (Kd.slice 3 (Kd.int .i64)) w A0 l0.length l0) (hc0 : l0.length ≤ c0) (hr1 : Kd.C (Kd.int .i64) w A1 l1.length l1) (hc1 : l1.length ≤ c1) (h : antiquarylaw08_CodeTrainingCovers.f k l0 l1 a2 a3 a4 = some r) (hT : r = true) :
    Calls Try.prog 9 #[.slice A0 l0.length c0, .slice A1 l1.length c1, .int .u8 a2, .int .u8 a3, .int .i64 a4] w fun e w' => e = .returned (.bool r) ∧ Below w.heap.size w w' := by
  have HT := Aside0.mk hT
  clear hT
  have hu25 := Try.underlying25
  have HR0 := Aside0.mk hr0
  have HC0 := Aside0.mk hc0
  clear hr0 hc0
  have HR1 := Aside0.mk hr1
  have HC1 := Aside0.mk hc1
  clear hr1 hc1
  have HB := Aside0.mk (Below.refl w.heap.size w)
  have H : ((antiquaryref04_All.f k l0 40).bind fun t558 => (if t558 = true then (if (l1.length : Int) > 9 then (antiquarylaw08_CodeTrainingCovers.j0 k l0 l1 a2 a3 a4 true) else ((antiquaryref04_Metric.f a4).bind fun t559 => (antiquarylaw08_CodeTrainingCovers.j0 k l0 l1 a2 a3 a4 (!t559)))) else (antiquarylaw08_CodeTrainingCovers.j0 k l0 l1 a2 a3 a4 true))) = some r := h
  clear h
  replace H := Option.bind_eq_some_iff.mp H
  obtain ⟨t558, A60, H⟩ := H
  replace H : (if t558 = true then (if (l1.length : Int) > 9 then (antiquarylaw08_CodeTrainingCovers.j0 k l0 l1 a2 a3 a4 true) else ((antiquaryref04_Metric.f a4).bind fun t559 => (antiquarylaw08_CodeTrainingCovers.j0 k l0 l1 a2 a3 a4 (!t559)))) else (antiquarylaw08_CodeTrainingCovers.j0 k l0 l1 a2 a3 a4 true)) = some r := H
  have A6 := Aside0.mk A60
  clear A60
  have HC7 := Aside0.mk H
  clear H
  go_enter Try.func9, Try.ntmps9
  go_upto_region 2 with (first | ((with_reducible refine gate_callee (f := 30) rfl ?_); refine goesL_ (some 21) rfl rfl Try.func30 (by kernel_rfl) rfl #[.slice A0 l0.length c0, .int .i64 40] rfl (by (try simp only [List.map_toArray, List.map_cons, List.map_nil]); first | done | rfl | (simp only [List.length_drop, List.length_take]; rfl)) ?_; (with_reducible refine (antiquaryref04_All.calls k _ _ l0 40 t558 _ ?side1 ?side2 A6.out).mono ?_); (case side1 => repeat (first | exact HR0.out | (with_reducible refine Kd.C_alloc ?_ _) | (with_reducible refine Kd.C_drewN ?_ _) | (with_reducible refine Kd.C_drew ?_))); (case side2 => exact HC0.out); rintro e w' ⟨rfl, ⟨nd, rfl⟩⟩; refine ⟨_, rfl, ?_⟩))
  (try simp only [Act.put, List.setIfInBounds_toArray, List.set_cons_zero, List.set_cons_succ])
  go_cut [33] (fun v33 wc => ∃ (kq : Nat) (x33_6 : Bool), v33 = .bool x33_6 ∧ Aside0 (antiquarylaw08_CodeTrainingCovers.j0 kq l0 l1 a2 a3 a4 x33_6 = some r) ∧ Aside0 (kq ≤ k) ∧ Aside0 (Below w.heap.size w wc))
  case first =>
    have H := HC7.out
    clear HC7
    by_cases c8 : t558 = true
    · subst c8
      have H1 : (if (l1.length : Int) > 9 then (antiquarylaw08_CodeTrainingCovers.j0 k l0 l1 a2 a3 a4 true) else ((antiquaryref04_Metric.f a4).bind fun t559 => (antiquarylaw08_CodeTrainingCovers.j0 k l0 l1 a2 a3 a4 (!t559)))) = some r := by rw [if_pos rfl] at H; exact H
      clear H
      have H := H1
      clear H1
      by_cases c9 : (l1.length : Int) > 9
      · rw [if_pos c9] at H
        have c9b0 : decide (9 < (l1.length : Int)) = true := decide_eq_true c9
        have c9b1 : decide (9 < l1.length) = true := decide_eq_true (by omega)
        clear c9
        (first | rw [c9b0] | (simp only [i64_w, i32_w]; rw [c9b0]) | skip)
        have H' := Aside0.mk H
        clear H
        go_wp2
        go_meet
        case rel => exact ⟨_, (true), (by first | rfl | (simp; done) | (simp [*]; done)), H', ⟨by first | omega | exact Nat.le_refl _⟩, ⟨by repeat (first | (with_reducible first | exact HB.out | apply below_alloc | apply pw_below_drewN | apply below_drew1) | exact HB.out)⟩⟩
      · rw [if_neg c9] at H
        have c9b0 : decide (9 < (l1.length : Int)) = false := decide_eq_false c9
        have c9b1 : decide (9 < l1.length) = false := decide_eq_false (by omega)
        clear c9
        (first | rw [c9b0] | (simp only [i64_w, i32_w]; rw [c9b0]) | skip)
        replace H := Option.bind_eq_some_iff.mp H
        obtain ⟨t559, A100, H⟩ := H
        replace H : (antiquarylaw08_CodeTrainingCovers.j0 k l0 l1 a2 a3 a4 (!t559)) = some r := H
        have A10 := Aside0.mk A100
        clear A100
        have H' := Aside0.mk H
        clear H
        go_wp2_with (first | (go_at_call 34; (with_reducible refine (antiquaryref04_Metric.calls a4 t559 _ A10.out).mono ?_); rintro e w' ⟨rfl, ⟨nd, rfl⟩⟩))
        go_meet
        case rel => exact ⟨_, (!t559), (by first | rfl | (simp; done) | (simp [*]; done)), H', ⟨by first | omega | exact Nat.le_refl _⟩, ⟨by repeat (first | (with_reducible first | exact HB.out | apply below_alloc | apply pw_below_drewN | apply below_drew1) | exact HB.out)⟩⟩
    · replace c8 := Bool.eq_false_iff.mpr c8
      subst c8
      have H1 : (antiquarylaw08_CodeTrainingCovers.j0 k l0 l1 a2 a3 a4 true) = some r := by rw [if_neg (show ¬ (false = true) by decide)] at H; exact H
      clear H
      have H := H1
      clear H1
      have H' := Aside0.mk H
      clear H
      go_wp2
      go_meet
      case rel => exact ⟨_, (true), (by first | rfl | (simp; done) | (simp [*]; done)), H', ⟨by first | omega | exact Nat.le_refl _⟩, ⟨by repeat (first | (with_reducible first | exact HB.out | apply below_alloc | apply pw_below_drewN | apply below_drew1) | exact HB.out)⟩⟩
  case rest =>
    clear HC7
    try clear c1
    try clear p2
    try clear c3
    try clear c8
    try clear c9
    try clear c9b0
    try clear c9b1
    obtain ⟨kq, x33_6, rfl, HA, HJ6, HB⟩ := hcut
    cases kq with
    | zero => exact absurd HA.out (by simp [antiquarylaw08_CodeTrainingCovers.j0])
    | succ kj6 =>
      have H := HA.out
      clear HA
      simp only [antiquarylaw08_CodeTrainingCovers.j0] at H
      by_cases c11 : x33_6 = true
      · subst c11
        have H1 : ((antiquarylaw08_sanity.f kj6).bind fun t560 => (some t560)) = some r := by rw [if_pos rfl] at H; exact H
        clear H
        have H := H1
        clear H1
        replace H := Option.bind_eq_some_iff.mp H
        obtain ⟨t560, A120, H⟩ := H
        replace H : (some t560) = some r := H
        have A12 := Aside0.mk A120
        clear A120
        obtain rfl := Option.some.inj H
        go_wp2_with (first | ((with_reducible refine gate_callee (f := 11) rfl ?_); refine goesL_ (some 34) rfl rfl Try.func11 (by kernel_rfl) rfl #[] rfl (by (try simp only [List.map_toArray, List.map_cons, List.map_nil]); first | done | rfl | (simp only [List.length_drop, List.length_take]; rfl)) ?_; (with_reducible refine (antiquarylaw08_sanity.calls kj6  t560 _ A12.out (by first | rfl | exact HT.out)).mono ?_); rintro e w13 ⟨rfl, hb⟩; refine ⟨_, rfl, ?_⟩; have n0_ := Aside0.mk (below_step (by repeat (first | (with_reducible first | exact HB.out | apply below_alloc | apply pw_below_drewN | apply below_drew1) | exact HB.out)) hb); clear HB; have HB := n0_; clear n0_; (try clear hb); (try clear hb2); (try clear hk); (try clear hi)))
        go_ret
        exact ⟨by first | rfl | (simp [errW_none, errW_some] <;> rfl) | (simp [*, errW_none, errW_some] <;> rfl), by repeat (first | (with_reducible first | exact HB.out | apply below_alloc | apply pw_below_drewN | apply below_drew1) | exact HB.out)⟩
      · replace c11 := Bool.eq_false_iff.mpr c11
        subst c11
        have H1 : ((code_Train.f l0 l1 (wrap64 (1 + (Int.tmod (wrap64 (mn a2 a3)) 50)))).bind fun bt561 => ((code_Train.f l0 l1 (mx (wrap64 (1 + (Int.tmod (wrap64 (mn a2 a3)) 50))) (wrap64 (1 + (Int.tmod (wrap64 (mx a2 a3)) 50))))).bind fun bt570 => (if bt561.2.2.2 = 0 then (antiquarylaw08_CodeTrainingCovers.j1 kj6 l0 a4 (wrap64 (1 + (Int.tmod (wrap64 (mn a2 a3)) 50))) bt561.2.2.2 bt570.2.2.2 (bt570.2.2.2 != 0) bt561.1 bt561.2.1 bt561.2.2.1 bt570.1 bt570.2.1 bt570.2.2.1) else (antiquarylaw08_CodeTrainingCovers.j1 kj6 l0 a4 (wrap64 (1 + (Int.tmod (wrap64 (mn a2 a3)) 50))) bt561.2.2.2 bt570.2.2.2 true bt561.1 bt561.2.1 bt561.2.2.1 bt570.1 bt570.2.1 bt570.2.2.1)))) = some r := by rw [if_neg (show ¬ (false = true) by decide)] at H; exact H
        clear H
        have H := H1
        clear H1
        obtain ⟨ji14, hji14⟩ : ∃ j_ : Int, (mn a2 a3) = j_ := ⟨_, rfl⟩
        replace H : ((code_Train.f l0 l1 (wrap64 (1 + (Int.tmod (wrap64 (ji14)) 50)))).bind fun bt561 => ((code_Train.f l0 l1 (mx (wrap64 (1 + (Int.tmod (wrap64 (ji14)) 50))) (wrap64 (1 + (Int.tmod (wrap64 (mx a2 a3)) 50))))).bind fun bt570 => (if bt561.2.2.2 = 0 then (antiquarylaw08_CodeTrainingCovers.j1 kj6 l0 a4 (wrap64 (1 + (Int.tmod (wrap64 (ji14)) 50))) bt561.2.2.2 bt570.2.2.2 (bt570.2.2.2 != 0) bt561.1 bt561.2.1 bt561.2.2.1 bt570.1 bt570.2.1 bt570.2.2.1) else (antiquarylaw08_CodeTrainingCovers.j1 kj6 l0 a4 (wrap64 (1 + (Int.tmod (wrap64 (ji14)) 50))) bt561.2.2.2 bt570.2.2.2 true bt561.1 bt561.2.1 bt561.2.2.1 bt570.1 bt570.2.1 bt570.2.2.1)))) = some r := by first | (rw [hji14] at H; exact H) | (simp only [hji14] at H ⊢; exact H)
        have hji14_ : (if a3 < a2 then a3 else a2) = ji14 := hji14
        replace H := Option.bind_eq_some_iff.mp H
        obtain ⟨⟨t561, t562, t565, t568⟩, A150, H⟩ := H
        replace H : ((code_Train.f l0 l1 (mx (wrap64 (1 + (Int.tmod (wrap64 (ji14)) 50))) (wrap64 (1 + (Int.tmod (wrap64 (mx a2 a3)) 50))))).bind fun bt570 => (if t568 = 0 then (antiquarylaw08_CodeTrainingCovers.j1 kj6 l0 a4 (wrap64 (1 + (Int.tmod (wrap64 (ji14)) 50))) t568 bt570.2.2.2 (bt570.2.2.2 != 0) t561 t562 t565 bt570.1 bt570.2.1 bt570.2.2.1) else (antiquarylaw08_CodeTrainingCovers.j1 kj6 l0 a4 (wrap64 (1 + (Int.tmod (wrap64 (ji14)) 50))) t568 bt570.2.2.2 true t561 t562 t565 bt570.1 bt570.2.1 bt570.2.2.1))) = some r := H
        have A15 := Aside0.mk A150
        clear A150
        obtain ⟨ji16, hji16⟩ : ∃ j_ : Int, (mx a2 a3) = j_ := ⟨_, rfl⟩
        replace H : ((code_Train.f l0 l1 (mx (wrap64 (1 + (Int.tmod (wrap64 (ji14)) 50))) (wrap64 (1 + (Int.tmod (wrap64 (ji16)) 50))))).bind fun bt570 => (if t568 = 0 then (antiquarylaw08_CodeTrainingCovers.j1 kj6 l0 a4 (wrap64 (1 + (Int.tmod (wrap64 (ji14)) 50))) t568 bt570.2.2.2 (bt570.2.2.2 != 0) t561 t562 t565 bt570.1 bt570.2.1 bt570.2.2.1) else (antiquarylaw08_CodeTrainingCovers.j1 kj6 l0 a4 (wrap64 (1 + (Int.tmod (wrap64 (ji14)) 50))) t568 bt570.2.2.2 true t561 t562 t565 bt570.1 bt570.2.1 bt570.2.2.1))) = some r := by first | (rw [hji16] at H; exact H) | (simp only [hji16] at H ⊢; exact H)
        (try rw [hji16] at A15)
        have hji16_ : (if a2 < a3 then a3 else a2) = ji16 := hji16
        obtain ⟨ji17, hji17⟩ : ∃ j_ : Int, (mx (wrap64 (1 + (Int.tmod (wrap64 (ji14)) 50))) (wrap64 (1 + (Int.tmod (wrap64 (ji16)) 50)))) = j_ := ⟨_, rfl⟩
        replace H : ((code_Train.f l0 l1 (ji17)).bind fun bt570 => (if t568 = 0 then (antiquarylaw08_CodeTrainingCovers.j1 kj6 l0 a4 (wrap64 (1 + (Int.tmod (wrap64 (ji14)) 50))) t568 bt570.2.2.2 (bt570.2.2.2 != 0) t561 t562 t565 bt570.1 bt570.2.1 bt570.2.2.1) else (antiquarylaw08_CodeTrainingCovers.j1 kj6 l0 a4 (wrap64 (1 + (Int.tmod (wrap64 (ji14)) 50))) t568 bt570.2.2.2 true t561 t562 t565 bt570.1 bt570.2.1 bt570.2.2.1))) = some r := by first | (rw [hji17] at H; exact H) | (simp only [hji17] at H ⊢; exact H)
        (try rw [hji17] at A15)
        have hji17_ : (if (wrap64 (1 + (Int.tmod (wrap64 (ji14)) 50))) < (wrap64 (1 + (Int.tmod (wrap64 (ji16)) 50))) then (wrap64 (1 + (Int.tmod (wrap64 (ji16)) 50))) else (wrap64 (1 + (Int.tmod (wrap64 (ji14)) 50)))) = ji17 := hji17
        replace H := Option.bind_eq_some_iff.mp H
        obtain ⟨⟨t570, t571, t574, t577⟩, A180, H⟩ := H
        replace H : (if t568 = 0 then (antiquarylaw08_CodeTrainingCovers.j1 kj6 l0 a4 (wrap64 (1 + (Int.tmod (wrap64 (ji14)) 50))) t568 t577 (t577 != 0) t561 t562 t565 t570 t571 t574) else (antiquarylaw08_CodeTrainingCovers.j1 kj6 l0 a4 (wrap64 (1 + (Int.tmod (wrap64 (ji14)) 50))) t568 t577 true t561 t562 t565 t570 t571 t574)) = some r := H
        have A18 := Aside0.mk A180
        clear A180
        have HC19 := Aside0.mk H
        clear H
        go_upto_region 7 with (first | ((with_reducible refine gate_callee (f := 31) rfl ?_); refine goesL_ (some 45) rfl rfl Try.func31 (by kernel_rfl) rfl #[.slice A0 l0.length c0, .slice A1 l1.length c1, .int .i64 (wrap64 (1 + (Int.tmod (wrap64 (ji14)) 50)))] rfl (by (try simp only [List.map_toArray, List.map_cons, List.map_nil]); first | done | (simp only [hji14]; rfl) | rfl | (simp only [List.length_drop, List.length_take]; rfl)) ?_; (with_reducible refine (code_Train.calls _ _ l0 _ _ l1 (wrap64 (1 + (Int.tmod (wrap64 (ji14)) 50))) t561 t562 t565 t568 _ ?side1 ?side2 ?side3 ?side4 A15.out).mono ?_); (case side1 => repeat (first | exact (Kd.C_below HR0.out HB.out) | (with_reducible refine Kd.C_alloc ?_ _) | (with_reducible refine Kd.C_drewN ?_ _) | (with_reducible refine Kd.C_drew ?_))); (case side2 => exact HC0.out); (case side3 => repeat (first | exact (Kd.C_below HR1.out HB.out) | (with_reducible refine Kd.C_alloc ?_ _) | (with_reducible refine Kd.C_drewN ?_ _) | (with_reducible refine Kd.C_drew ?_))); (case side4 => exact HC1.out); rintro e w20 ⟨v563, v566, rfl, ho0, ho1, hb⟩; refine ⟨_, rfl, ?_⟩; have n0_ := Aside0.mk (Kd.R_lower ho0 (below_size (by repeat (first | (with_reducible first | exact HB.out | apply below_alloc | apply pw_below_drewN | apply below_drew1) | exact HB.out)))); have n1_ := Aside0.mk (Kd.R_lower ho1 (below_size (by repeat (first | (with_reducible first | exact HB.out | apply below_alloc | apply pw_below_drewN | apply below_drew1) | exact HB.out)))); have n2_ := Aside0.mk (below_step (by repeat (first | (with_reducible first | exact HB.out | apply below_alloc | apply pw_below_drewN | apply below_drew1) | exact HB.out)) hb); clear HB; have HO564 := n0_; have HO567 := n1_; have HB := n2_; clear n0_ n1_ n2_; (try clear hb); (try clear hb2); (try clear hk); (try clear hi); (try clear ho0); (try clear ho1)) | ((with_reducible refine gate_dst (N := 13) rfl ?_); (try (refine gate_guard (by rfl) ?_; dsimp only)); refine box_event ?hg (N := 13) ?hd (cs := #[.int .i64 0, .slice none 0 0, .slice none 0 0]) (t := 25) ?hr ?_; (case hd => rfl); (case hg => rfl); (case hr => first | (go_simp; done) | (go_simp; rfl)); intro gb569 hg w21 hbox hb; have n0_ := Aside0.mk (Kd.R_below (by (with_reducible repeat (first | apply Kd.R_alloc | apply Kd.R_drewN | apply Kd.R_drew)); exact HO564.out) hb); have n1_ := Aside0.mk (Kd.R_below (by (with_reducible repeat (first | apply Kd.R_alloc | apply Kd.R_drewN | apply Kd.R_drew)); exact HO567.out) hb); have n2_ := Aside0.mk (below_step (by repeat (first | (with_reducible first | exact HB.out | apply below_alloc | apply pw_below_drewN | apply below_drew1) | exact HB.out)) hb); have n3_ := Aside0.mk (hbox); have n4_ := Aside0.mk ((by rw [hg]; exact (below_size (by repeat (first | (with_reducible first | exact HB.out | apply below_alloc | apply pw_below_drewN | apply below_drew1) | exact HB.out))) : w.heap.size ≤ gb569)); have n5_ := Aside0.mk ((by rw [hg]; exact (below_size (by repeat (first | (with_reducible first | exact HB.out | apply below_alloc | apply pw_below_drewN | apply below_drew1) | exact HB.out))) : w.heap.size ≤ gb569)); clear HO564; clear HO567; clear HB; have HO564 := n0_; have HO567 := n1_; have HB := n2_; have BK569 := n3_; have GW569 := n4_; have GE569 := n5_; clear n0_ n1_ n2_ n3_ n4_ n5_; clear hb hbox hg; have hcz22_0 : w21.cell? ⟨gb569, 0, none⟩ = some (.int .i64 0) := (blk_cell BK569.out 0).trans rfl; have hcz22_1 : w21.cell? ⟨gb569, 1, none⟩ = some (.slice none 0 0) := (blk_cell BK569.out 1).trans rfl; have hcz22_2 : w21.cell? ⟨gb569, 2, none⟩ = some (.slice none 0 0) := (blk_cell BK569.out 2).trans rfl; have hfz22_0 := blk_frozen BK569.out 0; have hfz22_1 := blk_frozen BK569.out 1; have hfz22_2 := blk_frozen BK569.out 2; obtain ⟨Ao23, co23, eo23⟩ := Kd.R_slice HO564.out; subst eo23; obtain ⟨Ao24, co24, eo24⟩ := Kd.R_slice HO567.out; subst eo24) | ((with_reducible refine gate_callee (f := 31) rfl ?_); refine goesL_ (some 59) rfl rfl Try.func31 (by kernel_rfl) rfl #[.slice A0 l0.length c0, .slice A1 l1.length c1, .int .i64 ji17] rfl (by (try simp only [List.map_toArray, List.map_cons, List.map_nil]); first | done | (simp only [hji17]; rfl) | rfl | (simp only [List.length_drop, List.length_take]; rfl)) ?_; (with_reducible refine (code_Train.calls _ _ l0 _ _ l1 ji17 t570 t571 t574 t577 _ ?side1 ?side2 ?side3 ?side4 A18.out).mono ?_); (case side1 => exact Kd.C_below HR0.out (by repeat (first | (with_reducible first | exact HB.out | apply below_alloc | apply pw_below_drewN | apply below_drew1 | refine below_set ?_ GE569.out) | exact HB.out))); (case side2 => exact HC0.out); (case side3 => exact Kd.C_below HR1.out (by repeat (first | (with_reducible first | exact HB.out | apply below_alloc | apply pw_below_drewN | apply below_drew1 | refine below_set ?_ GE569.out) | exact HB.out))); (case side4 => exact HC1.out); rintro e w25 ⟨v572, v575, rfl, ho0, ho1, hb⟩; refine ⟨_, rfl, ?_⟩; have n0_ := Aside0.mk (Kd.R_elder' (by (with_reducible repeat (first | apply Kd.R_alloc | apply Kd.R_drewN | apply Kd.R_drew)); exact (Kd.R_mono (Kd.R_far (p := ⟨gb569, 2, none⟩) (Kd.R_far (p := ⟨gb569, 1, none⟩) (Kd.R_far (p := ⟨gb569, 0, none⟩) (Kd.R_types HO564.out BK569.out (by decide)) (fun _ hk => hk.2) (.int .i64 t561)) (fun _ hk => hk.2) (.slice Ao23 t562.length co23)) (fun _ hk => hk.2) (.slice Ao24 t565.length co24)) (fun _ h_ => h_.1))) (Kd.R_base ho0) hb); have n1_ := Aside0.mk (Kd.R_mono (Kd.R_told (Kd.R_told (Kd.R_old (by (with_reducible repeat (first | apply Kd.R_alloc | apply Kd.R_drewN | apply Kd.R_drew)); exact (Kd.R_mono (Kd.R_far (p := ⟨gb569, 2, none⟩) (Kd.R_far (p := ⟨gb569, 1, none⟩) (Kd.R_far (p := ⟨gb569, 0, none⟩) (Kd.R_types HO567.out BK569.out (by decide)) (fun _ hk => hk.2) (.int .i64 t561)) (fun _ hk => hk.2) (.slice Ao23 t562.length co23)) (fun _ hk => hk.2) (.slice Ao24 t565.length co24)) (fun _ h_ => h_.1))) hb) (Kd.R_base ho0)) (Kd.R_base ho1)) (fun _ h_ => h_.1)); have n2_ := Aside0.mk (Kd.R_lower (Kd.R_new' ho0 (Kd.R_lt (by (with_reducible repeat (first | apply Kd.R_alloc | apply Kd.R_drewN | apply Kd.R_drew)); exact (Kd.R_mono (Kd.R_far (p := ⟨gb569, 2, none⟩) (Kd.R_far (p := ⟨gb569, 1, none⟩) (Kd.R_far (p := ⟨gb569, 0, none⟩) (Kd.R_types HO564.out BK569.out (by decide)) (fun _ hk => hk.2) (.int .i64 t561)) (fun _ hk => hk.2) (.slice Ao23 t562.length co23)) (fun _ hk => hk.2) (.slice Ao24 t565.length co24)) (fun _ h_ => h_.1))))) (below_size (by repeat (first | (with_reducible first | exact HB.out | apply below_alloc | apply pw_below_drewN | apply below_drew1 | refine below_set ?_ GE569.out) | exact HB.out)))); have n3_ := Aside0.mk (Kd.R_lower (Kd.R_new' (Kd.R_new' ho1 (Kd.R_lt (by (with_reducible repeat (first | apply Kd.R_alloc | apply Kd.R_drewN | apply Kd.R_drew)); exact (Kd.R_mono (Kd.R_far (p := ⟨gb569, 2, none⟩) (Kd.R_far (p := ⟨gb569, 1, none⟩) (Kd.R_far (p := ⟨gb569, 0, none⟩) (Kd.R_types HO564.out BK569.out (by decide)) (fun _ hk => hk.2) (.int .i64 t561)) (fun _ hk => hk.2) (.slice Ao23 t562.length co23)) (fun _ hk => hk.2) (.slice Ao24 t565.length co24)) (fun _ h_ => h_.1))))) (Kd.R_lt (by (with_reducible repeat (first | apply Kd.R_alloc | apply Kd.R_drewN | apply Kd.R_drew)); exact (Kd.R_mono (Kd.R_far (p := ⟨gb569, 2, none⟩) (Kd.R_far (p := ⟨gb569, 1, none⟩) (Kd.R_far (p := ⟨gb569, 0, none⟩) (Kd.R_types HO567.out BK569.out (by decide)) (fun _ hk => hk.2) (.int .i64 t561)) (fun _ hk => hk.2) (.slice Ao23 t562.length co23)) (fun _ hk => hk.2) (.slice Ao24 t565.length co24)) (fun _ h_ => h_.1))))) (below_size (by repeat (first | (with_reducible first | exact HB.out | apply below_alloc | apply pw_below_drewN | apply below_drew1 | refine below_set ?_ GE569.out) | exact HB.out)))); have n4_ := Aside0.mk (blk_below (g := gb569) (o := .cells #[.int .i64 t561, .slice Ao23 t562.length co23, .slice Ao24 t565.length co24] 25 (0, 0)) (by (with_reducible repeat (first | refine blk_drewN ?_ _ | refine blk_drew ?_ | refine blk_alloc ?_ _)); refine blk_put (cs := #[.int .i64 t561, .slice Ao23 t562.length co23, .slice none 0 0]) ?_ 2 _ rfl; (with_reducible repeat (first | refine blk_drewN ?_ _ | refine blk_drew ?_ | refine blk_alloc ?_ _)); refine blk_put (cs := #[.int .i64 t561, .slice none 0 0, .slice none 0 0]) ?_ 1 _ rfl; (with_reducible repeat (first | refine blk_drewN ?_ _ | refine blk_drew ?_ | refine blk_alloc ?_ _)); refine blk_put (cs := #[.int .i64 0, .slice none 0 0, .slice none 0 0]) ?_ 0 _ rfl; (with_reducible repeat (first | refine blk_drewN ?_ _ | refine blk_drew ?_ | refine blk_alloc ?_ _)); exact BK569.out) hb); have n5_ := Aside0.mk (below_step (by repeat (first | (with_reducible first | exact HB.out | apply below_alloc | apply pw_below_drewN | apply below_drew1 | refine below_set ?_ GE569.out) | exact HB.out)) hb); clear HO564; clear HO567; clear BK569; clear HB; have HO564 := n0_; have HO567 := n1_; have HO573 := n2_; have HO576 := n3_; have BK569 := n4_; have HB := n5_; clear n0_ n1_ n2_ n3_ n4_ n5_; (try clear hb); (try clear hb2); (try clear hk); (try clear hi); (try clear ho0); (try clear ho1)) | ((with_reducible refine gate_dst (N := 15) rfl ?_); (try (refine gate_guard (by rfl) ?_; dsimp only)); refine box_event ?hg (N := 15) ?hd (cs := #[.int .i64 0, .slice none 0 0, .slice none 0 0]) (t := 25) ?hr ?_; (case hd => rfl); (case hg => rfl); (case hr => first | (go_simp; done) | (go_simp; rfl)); intro gb578 hg w26 hbox hb; have n0_ := Aside0.mk (Kd.R_below (by (with_reducible repeat (first | apply Kd.R_alloc | apply Kd.R_drewN | apply Kd.R_drew)); exact HO564.out) hb); have n1_ := Aside0.mk (Kd.R_below (by (with_reducible repeat (first | apply Kd.R_alloc | apply Kd.R_drewN | apply Kd.R_drew)); exact HO567.out) hb); have n2_ := Aside0.mk (Kd.R_below (by (with_reducible repeat (first | apply Kd.R_alloc | apply Kd.R_drewN | apply Kd.R_drew)); exact HO573.out) hb); have n3_ := Aside0.mk (Kd.R_below (by (with_reducible repeat (first | apply Kd.R_alloc | apply Kd.R_drewN | apply Kd.R_drew)); exact HO576.out) hb); have n4_ := Aside0.mk (blk_below (g := gb569) (o := .cells #[.int .i64 t561, .slice Ao23 t562.length co23, .slice Ao24 t565.length co24] 25 (0, 0)) (by (with_reducible repeat (first | refine blk_drewN ?_ _ | refine blk_drew ?_ | refine blk_alloc ?_ _)); exact BK569.out) hb); have n5_ := Aside0.mk (below_step (by repeat (first | (with_reducible first | exact HB.out | apply below_alloc | apply pw_below_drewN | apply below_drew1 | refine below_set ?_ GE569.out) | exact HB.out)) hb); have n6_ := Aside0.mk (hbox); have n7_ := Aside0.mk ((by rw [hg]; exact (below_size (by repeat (first | (with_reducible first | exact HB.out | apply below_alloc | apply pw_below_drewN | apply below_drew1 | refine below_set ?_ GE569.out) | exact HB.out))) : w.heap.size ≤ gb578)); have n8_ := Aside0.mk ((by rw [hg]; exact (below_size (by repeat (first | (with_reducible first | exact HB.out | apply below_alloc | apply pw_below_drewN | apply below_drew1 | refine below_set ?_ GE569.out) | exact HB.out))) : w.heap.size ≤ gb578)); have n9_ := Aside0.mk ((by rw [hg]; exact Nat.ne_of_lt (blk_lt (g := gb569) (o := .cells #[.int .i64 t561, .slice Ao23 t562.length co23, .slice Ao24 t565.length co24] 25 (0, 0)) (by (with_reducible repeat (first | refine blk_drewN ?_ _ | refine blk_drew ?_ | refine blk_alloc ?_ _)); exact BK569.out)) : gb569 ≠ gb578)); have n10_ := Aside0.mk ((by rw [hg]; exact Nat.ne_of_gt (blk_lt (g := gb569) (o := .cells #[.int .i64 t561, .slice Ao23 t562.length co23, .slice Ao24 t565.length co24] 25 (0, 0)) (by (with_reducible repeat (first | refine blk_drewN ?_ _ | refine blk_drew ?_ | refine blk_alloc ?_ _)); exact BK569.out)) : gb578 ≠ gb569)); clear HO564; clear HO567; clear HO573; clear HO576; clear BK569; clear HB; have HO564 := n0_; have HO567 := n1_; have HO573 := n2_; have HO576 := n3_; have BK569 := n4_; have HB := n5_; have BK578 := n6_; have GW578 := n7_; have GE578 := n8_; have NB569_578 := n9_; have NB578_569 := n10_; clear n0_ n1_ n2_ n3_ n4_ n5_ n6_ n7_ n8_ n9_ n10_; clear hb hbox hg; have hnb27 := NB578_569.out; have hnc27 := NB569_578.out; have hcz28_0 : w26.cell? ⟨gb578, 0, none⟩ = some (.int .i64 0) := (blk_cell BK578.out 0).trans rfl; have hcz28_1 : w26.cell? ⟨gb578, 1, none⟩ = some (.slice none 0 0) := (blk_cell BK578.out 1).trans rfl; have hcz28_2 : w26.cell? ⟨gb578, 2, none⟩ = some (.slice none 0 0) := (blk_cell BK578.out 2).trans rfl; have hfz28_0 := blk_frozen BK578.out 0; have hfz28_1 := blk_frozen BK578.out 1; have hfz28_2 := blk_frozen BK578.out 2; obtain ⟨Ao29, co29, eo29⟩ := Kd.R_slice HO573.out; subst eo29; obtain ⟨Ao30, co30, eo30⟩ := Kd.R_slice HO576.out; subst eo30))
        (try simp only [Act.put, List.setIfInBounds_toArray, List.set_cons_zero, List.set_cons_succ])
        go_cut [67] (fun v67 wc => ∃ (kq : Nat) (x67_18 : Bool), v67 = .bool x67_18 ∧ Aside0 (antiquarylaw08_CodeTrainingCovers.j1 kq l0 a4 (wrap64 (1 + (Int.tmod (wrap64 (ji14)) 50))) t568 t577 x67_18 t561 t562 t565 t570 t571 t574 = some r) ∧ Aside0 (kq ≤ kj6) ∧ Aside0 (Kd.R (Kd.int .i64) 3 wc w.heap.size (fun k_ => some k_ ≠ ((.slice Ao29 t571.length co29) : Value).ownBlock) (.slice Ao23 t562.length co23) t562) ∧ Aside0 (Kd.R (Kd.slice 22 (Kd.slice 3 (Kd.int .i64))) 39 wc w.heap.size (fun k_ => some k_ ≠ ((.slice Ao23 t562.length co23) : Value).ownBlock ∧ some k_ ≠ ((.slice Ao29 t571.length co29) : Value).ownBlock ∧ some k_ ≠ ((.slice Ao30 t574.length co30) : Value).ownBlock) (.slice Ao24 t565.length co24) t565) ∧ Aside0 (Kd.R (Kd.int .i64) 3 wc w.heap.size (fun k_ => some k_ ≠ ((.slice Ao23 t562.length co23) : Value).ownBlock) (.slice Ao29 t571.length co29) t571) ∧ Aside0 (Kd.R (Kd.slice 22 (Kd.slice 3 (Kd.int .i64))) 39 wc w.heap.size (fun k_ => some k_ ≠ ((.slice Ao23 t562.length co23) : Value).ownBlock ∧ some k_ ≠ ((.slice Ao24 t565.length co24) : Value).ownBlock ∧ some k_ ≠ ((.slice Ao29 t571.length co29) : Value).ownBlock) (.slice Ao30 t574.length co30) t574) ∧ Aside0 (wc.heap[gb569]? = some (.cells #[.int .i64 t561, (.slice Ao23 t562.length co23), (.slice Ao24 t565.length co24)] 25 (0, 0))) ∧ Aside0 (wc.heap[gb578]? = some (.cells #[.int .i64 t570, (.slice Ao29 t571.length co29), (.slice Ao30 t574.length co30)] 25 (0, 0))) ∧ Aside0 (Below w.heap.size w wc))
        case first =>
          have H := HC19.out
          clear HC19
          by_cases c31 : t568 = 0
          · rw [if_pos c31] at H
            have c31b0 : (t568 == 0) = true := beq_iff_eq.mpr c31
            have c31b1 : (t568 != 0) = false := bne_eq_false_iff_eq.mpr c31
            clear c31
            (first | rw [c31b0] | (simp only [i64_w, i32_w]; rw [c31b0]) | skip)
            have H' := Aside0.mk H
            clear H
            go_wp2
            go_meet
            case rel => exact ⟨_, ((t577 != 0)), (by first | rfl | (simp; done) | (simp [*]; done)), H', ⟨by have := HJ6.out; first | omega | exact Nat.le_refl _⟩, ⟨by (with_reducible repeat (first | apply Kd.R_alloc | apply Kd.R_drewN | apply Kd.R_drew)); exact Kd.R_mono (Kd.R_far (p := ⟨gb578, 2, none⟩) (Kd.R_far (p := ⟨gb578, 1, none⟩) (Kd.R_far (p := ⟨gb578, 0, none⟩) (Kd.R_types HO564.out BK578.out (by decide)) (fun _ hk => hk.2) (.int .i64 t570)) (fun _ hk => hk.2) (.slice Ao29 t571.length co29)) (fun _ hk => hk.2) (.slice Ao30 t574.length co30)) (fun _ hk => hk.1.2)⟩, ⟨by (with_reducible repeat (first | apply Kd.R_alloc | apply Kd.R_drewN | apply Kd.R_drew)); exact Kd.R_mono (Kd.R_far (p := ⟨gb578, 2, none⟩) (Kd.R_far (p := ⟨gb578, 1, none⟩) (Kd.R_far (p := ⟨gb578, 0, none⟩) (Kd.R_types HO567.out BK578.out (by decide)) (fun _ hk => hk.2) (.int .i64 t570)) (fun _ hk => hk.2) (.slice Ao29 t571.length co29)) (fun _ hk => hk.2) (.slice Ao30 t574.length co30)) (fun _ hk => ⟨hk.1.1.1, ⟨hk.1.1.2, hk.1.2⟩⟩)⟩, ⟨by (with_reducible repeat (first | apply Kd.R_alloc | apply Kd.R_drewN | apply Kd.R_drew)); exact Kd.R_mono (Kd.R_far (p := ⟨gb578, 2, none⟩) (Kd.R_far (p := ⟨gb578, 1, none⟩) (Kd.R_far (p := ⟨gb578, 0, none⟩) (Kd.R_types HO573.out BK578.out (by decide)) (fun _ hk => hk.2) (.int .i64 t570)) (fun _ hk => hk.2) (.slice Ao29 t571.length co29)) (fun _ hk => hk.2) (.slice Ao30 t574.length co30)) (fun _ hk => hk.1.2)⟩, ⟨by (with_reducible repeat (first | apply Kd.R_alloc | apply Kd.R_drewN | apply Kd.R_drew)); exact Kd.R_mono (Kd.R_far (p := ⟨gb578, 2, none⟩) (Kd.R_far (p := ⟨gb578, 1, none⟩) (Kd.R_far (p := ⟨gb578, 0, none⟩) (Kd.R_types HO576.out BK578.out (by decide)) (fun _ hk => hk.2) (.int .i64 t570)) (fun _ hk => hk.2) (.slice Ao29 t571.length co29)) (fun _ hk => hk.2) (.slice Ao30 t574.length co30)) (fun _ hk => ⟨hk.1.1.2, ⟨hk.1.2, hk.1.1.1⟩⟩)⟩, ⟨by (with_reducible repeat (first | refine blk_drewN ?_ _ | refine blk_drew ?_ | refine blk_alloc ?_ _)); refine blk_far ?_ NB569_578.out _; (with_reducible repeat (first | refine blk_drewN ?_ _ | refine blk_drew ?_ | refine blk_alloc ?_ _)); refine blk_far ?_ NB569_578.out _; (with_reducible repeat (first | refine blk_drewN ?_ _ | refine blk_drew ?_ | refine blk_alloc ?_ _)); refine blk_far ?_ NB569_578.out _; (with_reducible repeat (first | refine blk_drewN ?_ _ | refine blk_drew ?_ | refine blk_alloc ?_ _)); exact BK569.out⟩, ⟨by (with_reducible repeat (first | refine blk_drewN ?_ _ | refine blk_drew ?_ | refine blk_alloc ?_ _)); refine blk_put (cs := #[.int .i64 t570, .slice Ao29 t571.length co29, .slice none 0 0]) ?_ 2 _ rfl; (with_reducible repeat (first | refine blk_drewN ?_ _ | refine blk_drew ?_ | refine blk_alloc ?_ _)); refine blk_put (cs := #[.int .i64 t570, .slice none 0 0, .slice none 0 0]) ?_ 1 _ rfl; (with_reducible repeat (first | refine blk_drewN ?_ _ | refine blk_drew ?_ | refine blk_alloc ?_ _)); refine blk_put (cs := #[.int .i64 0, .slice none 0 0, .slice none 0 0]) ?_ 0 _ rfl; (with_reducible repeat (first | refine blk_drewN ?_ _ | refine blk_drew ?_ | refine blk_alloc ?_ _)); exact BK578.out⟩, ⟨by repeat (first | (with_reducible first | exact HB.out | apply below_alloc | apply pw_below_drewN | apply below_drew1 | refine below_set ?_ GE569.out | refine below_set ?_ GE578.out) | exact HB.out)⟩⟩
          · rw [if_neg c31] at H
            have c31b0 : (t568 == 0) = false := beq_eq_false_iff_ne.mpr c31
            have c31b1 : (t568 != 0) = true := bne_iff_ne.mpr c31
            (first | rw [c31b0] | (simp only [i64_w, i32_w]; rw [c31b0]) | skip)
            have H' := Aside0.mk H
            clear H
            go_wp2
            go_meet
            case rel => exact ⟨_, (true), (by first | rfl | (simp; done) | (simp [*]; done)), H', ⟨by have := HJ6.out; first | omega | exact Nat.le_refl _⟩, ⟨by (with_reducible repeat (first | apply Kd.R_alloc | apply Kd.R_drewN | apply Kd.R_drew)); exact Kd.R_mono (Kd.R_far (p := ⟨gb578, 2, none⟩) (Kd.R_far (p := ⟨gb578, 1, none⟩) (Kd.R_far (p := ⟨gb578, 0, none⟩) (Kd.R_types HO564.out BK578.out (by decide)) (fun _ hk => hk.2) (.int .i64 t570)) (fun _ hk => hk.2) (.slice Ao29 t571.length co29)) (fun _ hk => hk.2) (.slice Ao30 t574.length co30)) (fun _ hk => hk.1.2)⟩, ⟨by (with_reducible repeat (first | apply Kd.R_alloc | apply Kd.R_drewN | apply Kd.R_drew)); exact Kd.R_mono (Kd.R_far (p := ⟨gb578, 2, none⟩) (Kd.R_far (p := ⟨gb578, 1, none⟩) (Kd.R_far (p := ⟨gb578, 0, none⟩) (Kd.R_types HO567.out BK578.out (by decide)) (fun _ hk => hk.2) (.int .i64 t570)) (fun _ hk => hk.2) (.slice Ao29 t571.length co29)) (fun _ hk => hk.2) (.slice Ao30 t574.length co30)) (fun _ hk => ⟨hk.1.1.1, ⟨hk.1.1.2, hk.1.2⟩⟩)⟩, ⟨by (with_reducible repeat (first | apply Kd.R_alloc | apply Kd.R_drewN | apply Kd.R_drew)); exact Kd.R_mono (Kd.R_far (p := ⟨gb578, 2, none⟩) (Kd.R_far (p := ⟨gb578, 1, none⟩) (Kd.R_far (p := ⟨gb578, 0, none⟩) (Kd.R_types HO573.out BK578.out (by decide)) (fun _ hk => hk.2) (.int .i64 t570)) (fun _ hk => hk.2) (.slice Ao29 t571.length co29)) (fun _ hk => hk.2) (.slice Ao30 t574.length co30)) (fun _ hk => hk.1.2)⟩, ⟨by (with_reducible repeat (first | apply Kd.R_alloc | apply Kd.R_drewN | apply Kd.R_drew)); exact Kd.R_mono (Kd.R_far (p := ⟨gb578, 2, none⟩) (Kd.R_far (p := ⟨gb578, 1, none⟩) (Kd.R_far (p := ⟨gb578, 0, none⟩) (Kd.R_types HO576.out BK578.out (by decide)) (fun _ hk => hk.2) (.int .i64 t570)) (fun _ hk => hk.2) (.slice Ao29 t571.length co29)) (fun _ hk => hk.2) (.slice Ao30 t574.length co30)) (fun _ hk => ⟨hk.1.1.2, ⟨hk.1.2, hk.1.1.1⟩⟩)⟩, ⟨by (with_reducible repeat (first | refine blk_drewN ?_ _ | refine blk_drew ?_ | refine blk_alloc ?_ _)); refine blk_far ?_ NB569_578.out _; (with_reducible repeat (first | refine blk_drewN ?_ _ | refine blk_drew ?_ | refine blk_alloc ?_ _)); refine blk_far ?_ NB569_578.out _; (with_reducible repeat (first | refine blk_drewN ?_ _ | refine blk_drew ?_ | refine blk_alloc ?_ _)); refine blk_far ?_ NB569_578.out _; (with_reducible repeat (first | refine blk_drewN ?_ _ | refine blk_drew ?_ | refine blk_alloc ?_ _)); exact BK569.out⟩, ⟨by (with_reducible repeat (first | refine blk_drewN ?_ _ | refine blk_drew ?_ | refine blk_alloc ?_ _)); refine blk_put (cs := #[.int .i64 t570, .slice Ao29 t571.length co29, .slice none 0 0]) ?_ 2 _ rfl; (with_reducible repeat (first | refine blk_drewN ?_ _ | refine blk_drew ?_ | refine blk_alloc ?_ _)); refine blk_put (cs := #[.int .i64 t570, .slice none 0 0, .slice none 0 0]) ?_ 1 _ rfl; (with_reducible repeat (first | refine blk_drewN ?_ _ | refine blk_drew ?_ | refine blk_alloc ?_ _)); refine blk_put (cs := #[.int .i64 0, .slice none 0 0, .slice none 0 0]) ?_ 0 _ rfl; (with_reducible repeat (first | refine blk_drewN ?_ _ | refine blk_drew ?_ | refine blk_alloc ?_ _)); exact BK578.out⟩, ⟨by repeat (first | (with_reducible first | exact HB.out | apply below_alloc | apply pw_below_drewN | apply below_drew1 | refine below_set ?_ GE569.out | refine below_set ?_ GE578.out) | exact HB.out)⟩⟩
        case rest =>
          clear HC19
          try clear c1
          try clear c2
          try clear p2
          try clear c3
          try clear p6
          try clear c8
          try clear c9
          try clear c9b0
          try clear c9b1
          try clear c11
          try clear c27
          try clear c30
          try clear c31
          try clear c31b0
          try clear c31b1
          try clear hcz22_0
          try clear hcz22_1
          try clear hcz22_2
          try clear hcz28_0
          try clear hcz28_1
          try clear hcz28_2
          try clear hfz22_0
          try clear hfz22_1
          try clear hfz22_2
          try clear hfz28_0
          try clear hfz28_1
          try clear hfz28_2
          try clear p2
          obtain ⟨kq, x67_18, rfl, HA, HJ18, HO_570001, HO_570002, HO_579001, HO_579002, BK569, BK578, HB⟩ := hcut
          cases kq with
          | zero => exact absurd HA.out (by simp [antiquarylaw08_CodeTrainingCovers.j1])
          | succ kj18 =>
            have H := HA.out
            clear HA
            simp only [antiquarylaw08_CodeTrainingCovers.j1] at H
            by_cases c32 : x67_18 = true
            · subst c32
              have H1 : ((antiquarylaw08_sanity.f kj18).bind fun t579 => (if t579 = true then (some (t568 == t577)) else (some false))) = some r := by rw [if_pos rfl] at H; exact H
              clear H
              have H := H1
              clear H1
              replace H := Option.bind_eq_some_iff.mp H
              obtain ⟨t579, A330, H⟩ := H
              replace H : (if t579 = true then (some (t568 == t577)) else (some false)) = some r := H
              have A33 := Aside0.mk A330
              clear A330
              by_cases c34 : t579 = true
              · subst c34
                have H1 : (some (t568 == t577)) = some r := by rw [if_pos rfl] at H; exact H
                clear H
                have H := H1
                clear H1
                obtain rfl := Option.some.inj H
                go_wp2_with (first | ((with_reducible refine gate_callee (f := 11) rfl ?_); refine goesL_ (some 68) rfl rfl Try.func11 (by kernel_rfl) rfl #[] rfl (by (try simp only [List.map_toArray, List.map_cons, List.map_nil]); first | done | rfl | (simp only [List.length_drop, List.length_take]; rfl)) ?_; (with_reducible refine (antiquarylaw08_sanity.calls kj18  true _ A33.out (by first | rfl | exact HT.out)).mono ?_); rintro e w35 ⟨rfl, hb⟩; refine ⟨_, rfl, ?_⟩; have n0_ := Aside0.mk (Kd.R_below (by (with_reducible repeat (first | apply Kd.R_alloc | apply Kd.R_drewN | apply Kd.R_drew)); exact HO_570001.out) hb); have n1_ := Aside0.mk (Kd.R_below (by (with_reducible repeat (first | apply Kd.R_alloc | apply Kd.R_drewN | apply Kd.R_drew)); exact HO_570002.out) hb); have n2_ := Aside0.mk (Kd.R_below (by (with_reducible repeat (first | apply Kd.R_alloc | apply Kd.R_drewN | apply Kd.R_drew)); exact HO_579001.out) hb); have n3_ := Aside0.mk (Kd.R_below (by (with_reducible repeat (first | apply Kd.R_alloc | apply Kd.R_drewN | apply Kd.R_drew)); exact HO_579002.out) hb); have n4_ := Aside0.mk (blk_below (g := gb569) (o := .cells #[.int .i64 t561, .slice Ao23 t562.length co23, .slice Ao24 t565.length co24] 25 (0, 0)) (by (with_reducible repeat (first | refine blk_drewN ?_ _ | refine blk_drew ?_ | refine blk_alloc ?_ _)); exact BK569.out) hb); have n5_ := Aside0.mk (blk_below (g := gb578) (o := .cells #[.int .i64 t570, .slice Ao29 t571.length co29, .slice Ao30 t574.length co30] 25 (0, 0)) (by (with_reducible repeat (first | refine blk_drewN ?_ _ | refine blk_drew ?_ | refine blk_alloc ?_ _)); exact BK578.out) hb); have n6_ := Aside0.mk (below_step (by repeat (first | (with_reducible first | exact HB.out | apply below_alloc | apply pw_below_drewN | apply below_drew1 | refine below_set ?_ GE569.out | refine below_set ?_ GE578.out) | exact HB.out)) hb); clear HO_570001; clear HO_570002; clear HO_579001; clear HO_579002; clear BK569; clear BK578; clear HB; have HO_570001 := n0_; have HO_570002 := n1_; have HO_579001 := n2_; have HO_579002 := n3_; have BK569 := n4_; have BK578 := n5_; have HB := n6_; clear n0_ n1_ n2_ n3_ n4_ n5_ n6_; (try clear hb); (try clear hb2); (try clear hk); (try clear hi)))
                go_ret
                exact ⟨by first | rfl | (simp [errW_none, errW_some] <;> rfl) | (simp only [← hji14, ← hji16, ← hji17]; first | rfl | (simp [errW_none, errW_some] <;> rfl)) | (simp [*, errW_none, errW_some] <;> rfl), by repeat (first | (with_reducible first | exact HB.out | apply below_alloc | apply pw_below_drewN | apply below_drew1 | refine below_set ?_ GE569.out | refine below_set ?_ GE578.out) | exact HB.out)⟩
              · replace c34 := Bool.eq_false_iff.mpr c34
                subst c34
                have H1 : (some false) = some r := by rw [if_neg (show ¬ (false = true) by decide)] at H; exact H
                clear H
                have H := H1
                clear H1
                exact absurd (Option.some.inj H) (by rw [HT.out]; decide)
            · replace c32 := Bool.eq_false_iff.mpr c32
              subst c32
              have H1 : (antiquarylaw08_CodeTrainingCovers.l0 kj18 l0 a4 (wrap64 (1 + (Int.tmod (wrap64 (ji14)) 50))) 0 t561 t562 t565 t570 t571 t574) = some r := by rw [if_neg (show ¬ (false = true) by decide)] at H; exact H
              clear H
              have H := H1
              clear H1
              have H' := Aside0.mk H
              clear H
              go_wp2
              go_loopg [17] kj18 (fun kq v17 w' => ∃ (x17_3 : Int), v17 = .int .i64 x17_3 ∧ Aside0 (antiquarylaw08_CodeTrainingCovers.l0 kq l0 a4 (wrap64 (1 + (Int.tmod (wrap64 (ji14)) 50))) x17_3 t561 t562 t565 t570 t571 t574 = some r) ∧ Aside0 (kq ≤ kj18) ∧ Aside0 (Kd.R (Kd.int .i64) 3 w' w.heap.size (fun k_ => some k_ ≠ ((.slice Ao29 t571.length co29) : Value).ownBlock) (.slice Ao23 t562.length co23) t562) ∧ Aside0 (Kd.R (Kd.slice 22 (Kd.slice 3 (Kd.int .i64))) 39 w' w.heap.size (fun k_ => some k_ ≠ ((.slice Ao23 t562.length co23) : Value).ownBlock ∧ some k_ ≠ ((.slice Ao29 t571.length co29) : Value).ownBlock ∧ some k_ ≠ ((.slice Ao30 t574.length co30) : Value).ownBlock) (.slice Ao24 t565.length co24) t565) ∧ Aside0 (Kd.R (Kd.int .i64) 3 w' w.heap.size (fun k_ => some k_ ≠ ((.slice Ao23 t562.length co23) : Value).ownBlock) (.slice Ao29 t571.length co29) t571) ∧ Aside0 (Kd.R (Kd.slice 22 (Kd.slice 3 (Kd.int .i64))) 39 w' w.heap.size (fun k_ => some k_ ≠ ((.slice Ao23 t562.length co23) : Value).ownBlock ∧ some k_ ≠ ((.slice Ao24 t565.length co24) : Value).ownBlock ∧ some k_ ≠ ((.slice Ao29 t571.length co29) : Value).ownBlock) (.slice Ao30 t574.length co30) t574) ∧ Aside0 (w'.heap[gb569]? = some (.cells #[.int .i64 t561, (.slice Ao23 t562.length co23), (.slice Ao24 t565.length co24)] 25 (0, 0))) ∧ Aside0 (w'.heap[gb578]? = some (.cells #[.int .i64 t570, (.slice Ao29 t571.length co29), (.slice Ao30 t574.length co30)] 25 (0, 0))) ∧ Aside0 (Below w.heap.size w w'))
              case atStart => exact ⟨(0), (by first | rfl | (simp; done) | (simp [*]; done)), H', ⟨Nat.le_refl _⟩, ⟨by (with_reducible repeat (first | apply Kd.R_alloc | apply Kd.R_drewN | apply Kd.R_drew)); exact HO_570001.out⟩, ⟨by (with_reducible repeat (first | apply Kd.R_alloc | apply Kd.R_drewN | apply Kd.R_drew)); exact HO_570002.out⟩, ⟨by (with_reducible repeat (first | apply Kd.R_alloc | apply Kd.R_drewN | apply Kd.R_drew)); exact HO_579001.out⟩, ⟨by (with_reducible repeat (first | apply Kd.R_alloc | apply Kd.R_drewN | apply Kd.R_drew)); exact HO_579002.out⟩, ⟨by (with_reducible repeat (first | refine blk_drewN ?_ _ | refine blk_drew ?_ | refine blk_alloc ?_ _)); exact BK569.out⟩, ⟨by (with_reducible repeat (first | refine blk_drewN ?_ _ | refine blk_drew ?_ | refine blk_alloc ?_ _)); exact BK578.out⟩, ⟨by repeat (first | (with_reducible first | exact HB.out | apply below_alloc | apply pw_below_drewN | apply below_drew1 | refine below_set ?_ GE569.out | refine below_set ?_ GE578.out) | exact HB.out)⟩⟩
              case round =>
                clear H'
                try clear c1
                try clear c2
                try clear p2
                try clear c3
                try clear p6
                try clear c8
                try clear c9
                try clear c9b0
                try clear c9b1
                try clear c11
                try clear c27
                try clear c30
                try clear c31
                try clear c31b0
                try clear c31b1
                try clear c32
                try clear c34
                try clear hcz22_0
                try clear hcz22_1
                try clear hcz22_2
                try clear hcz28_0
                try clear hcz28_1
                try clear hcz28_2
                try clear hfz22_0
                try clear hfz22_1
                try clear hfz22_2
                try clear hfz28_0
                try clear hfz28_1
                try clear hfz28_2
                try clear p2
                try clear p6
                obtain ⟨x17_3, rfl, HA, HK3, HO_570001, HO_570002, HO_579001, HO_579002, BK569, BK578, HB⟩ := hrel
                cases gk with
                | zero => exact absurd HA.out (by simp [antiquarylaw08_CodeTrainingCovers.l0])
                | succ k3 =>
                  have H := HA.out
                  clear HA
                  simp only [antiquarylaw08_CodeTrainingCovers.l0] at H
                  by_cases c37 : x17_3 < (t565.length : Int)
                  · rw [if_pos c37] at H
                    have c37b0 : decide (x17_3 < (t565.length : Int)) = true := decide_eq_true c37
                    clear c37
                    by_cases c38 : 0 ≤ x17_3
                    · rw [if_pos c38] at H
                      have c38b0 : decide (0 ≤ x17_3) = true := decide_eq_true c38
                      clear c38
                      by_cases c39 : x17_3 < (t574.length : Int)
                      · rw [if_pos c39] at H
                        have c39b0 : decide (x17_3 < (t574.length : Int)) = true := decide_eq_true c39
                        clear c39
                        by_cases c40 : ((rd_L2 t565 x17_3).length : Int) > ((rd_L2 t574 x17_3).length : Int)
                        · rw [if_pos c40] at H
                          have c40b0 : decide (((rd_L2 t574 x17_3).length : Int) < ((rd_L2 t565 x17_3).length : Int)) = true := decide_eq_true c40
                          have c40b1 : decide ((rd_L2 t574 x17_3).length < (rd_L2 t565 x17_3).length) = true := decide_eq_true (Int.ofNat_lt.mp c40)
                          clear c40
                          obtain rfl := Option.some.inj H
                          have hnb41 := NB569_578.out
                          have hnc41 := NB578_569.out
                          have hcz42_0 : wr.cell? ⟨gb569, 0, none⟩ = some (.int .i64 t561) := (blk_cell BK569.out 0).trans rfl
                          have hcz42_1 : wr.cell? ⟨gb569, 1, none⟩ = some (.slice Ao23 t562.length co23) := (blk_cell BK569.out 1).trans rfl
                          have hcz42_2 : wr.cell? ⟨gb569, 2, none⟩ = some (.slice Ao24 t565.length co24) := (blk_cell BK569.out 2).trans rfl
                          have hfz42_0 := blk_frozen BK569.out 0
                          have hfz42_1 := blk_frozen BK569.out 1
                          have hfz42_2 := blk_frozen BK569.out 2
                          try go_wp2
                          have n0_ := Aside0.mk (Kd.R_drew HO_570001.out)
                          have n1_ := Aside0.mk (Kd.R_drew HO_570002.out)
                          have n2_ := Aside0.mk (Kd.R_drew HO_579001.out)
                          have n3_ := Aside0.mk (Kd.R_drew HO_579002.out)
                          have n4_ := Aside0.mk (blk_drew BK569.out)
                          have n5_ := Aside0.mk (blk_drew BK578.out)
                          have n6_ := Aside0.mk (below_drew1 HB.out)
                          clear HO_570001
                          clear HO_570002
                          clear HO_579001
                          clear HO_579002
                          clear BK569
                          clear BK578
                          clear HB
                          have HO_570001 := n0_
                          have HO_570002 := n1_
                          have HO_579001 := n2_
                          have HO_579002 := n3_
                          have BK569 := n4_
                          have BK578 := n5_
                          have HB := n6_
                          clear n0_ n1_ n2_ n3_ n4_ n5_ n6_
                          have p580 : 0 ≤ (x17_3 : Int) := of_decide_eq_true (by first | (with_reducible assumption) | assumption)
                          have q580 : x17_3 < (t565.length : Int) := of_decide_eq_true (by first | (with_reducible assumption) | assumption)
                          obtain ⟨ad580, A580_0, c580_0, e580, hx580_0, hl580_0, hi580_0⟩ := at_L2 (Kd.R_reads' HO_570002.out).2.2 x17_3 p580 q580
                          cases e580
                          obtain ⟨ce580, hce580, hMe580, hcc580⟩ := Kd.R_get HO_570002.out [] x17_3 p580 (by first | exact q580 | exact of_decide_eq_true (by first | (with_reducible assumption) | assumption) | (have e_ := (Kd.R_reads' HO_570002.out).1; omega))
                          obtain ⟨ve580_0, rfl, ge580_0⟩ := hMe580
                          have hv580_0 := hcc580 0 _ rfl
                          rw [Nat.add_zero, show ((Kd.slice 22 (Kd.slice 3 (Kd.int .i64)))).sz = 1 from rfl, Nat.mul_one] at hv580_0
                          replace hv580_0 := Option.some.inj (hv580_0.symm.trans hx580_0)
                          rw [hv580_0] at ge580_0
                          have HL580_0 := Aside0.mk (show Kd.R (Kd.slice 3 (Kd.int .i64)) 22 _ _ _ _ (rd_L2 t565 x17_3) from ge580_0)
                          clear hv580_0 ge580_0
                          clear hcc580 hce580
                          have HR580_0 := Aside0.mk hi580_0
                          have HC580_0 := Aside0.mk hl580_0
                          clear hi580_0 hl580_0
                          replace p580 := eq_true p580
                          replace q580 := eq_true q580
                          have p581 : 0 ≤ (x17_3 : Int) := of_decide_eq_true (by first | (with_reducible assumption) | assumption)
                          have q581 : x17_3 < (t574.length : Int) := of_decide_eq_true (by first | (with_reducible assumption) | assumption)
                          obtain ⟨ad581, A581_0, c581_0, e581, hx581_0, hl581_0, hi581_0⟩ := at_L2 (Kd.R_reads' HO_579002.out).2.2 x17_3 p581 q581
                          cases e581
                          obtain ⟨ce581, hce581, hMe581, hcc581⟩ := Kd.R_get HO_579002.out [] x17_3 p581 (by first | exact q581 | exact of_decide_eq_true (by first | (with_reducible assumption) | assumption) | (have e_ := (Kd.R_reads' HO_579002.out).1; omega))
                          obtain ⟨ve581_0, rfl, ge581_0⟩ := hMe581
                          have hv581_0 := hcc581 0 _ rfl
                          rw [Nat.add_zero, show ((Kd.slice 22 (Kd.slice 3 (Kd.int .i64)))).sz = 1 from rfl, Nat.mul_one] at hv581_0
                          replace hv581_0 := Option.some.inj (hv581_0.symm.trans hx581_0)
                          rw [hv581_0] at ge581_0
                          have HL581_0 := Aside0.mk (show Kd.R (Kd.slice 3 (Kd.int .i64)) 22 _ _ _ _ (rd_L2 t574 x17_3) from ge581_0)
                          clear hv581_0 ge581_0
                          clear hcc581 hce581
                          have HR581_0 := Aside0.mk hi581_0
                          have HC581_0 := Aside0.mk hl581_0
                          clear hi581_0 hl581_0
                          replace p581 := eq_true p581
                          replace q581 := eq_true q581
                          refine start_ (n := 44) (S := fun w' => w'.cell? ⟨gb569, 0, none⟩ = some (.int .i64 t561) ∧ w'.cell? ⟨gb569, 1, none⟩ = some (.slice Ao23 t562.length co23) ∧ w'.cell? ⟨gb569, 2, none⟩ = some (.slice (some ad580) t565.length co24) ∧ w'.cell? ⟨gb578, 0, none⟩ = some (.int .i64 t570) ∧ w'.cell? ⟨gb578, 1, none⟩ = some (.slice Ao29 t571.length co29) ∧ w'.cell? ⟨gb578, 2, none⟩ = some (.slice (some ad581) t574.length co30) ∧ w'.cell? (ad580.add (x17_3).toNat) = some (.slice A580_0 (rd_L2 t565 x17_3).length c580_0) ∧ w'.cell? (ad581.add (x17_3).toNat) = some (.slice A581_0 (rd_L2 t574 x17_3).length c581_0)) (ds := []) #[false, false, false, false, false, false, false, false, false, false, false, false, false, false, false, false, false, false, false, false, false, false, false, false, false, false, false, false, false, false, false, false, false, false, false, false, false, false, false, false, false, false, false, false] (by kernel_rfl) rfl rfl ⟨(blk_cell BK569.out 0).trans rfl, (blk_cell BK569.out 1).trans rfl, (blk_cell BK569.out 2).trans rfl, (blk_cell BK578.out 0).trans rfl, (blk_cell BK578.out 1).trans rfl, (blk_cell BK578.out 2).trans rfl, hx580_0, hx581_0⟩ (fun hHeld => ?_); refine with_tabW antiquarylaw08_CodeTrainingCovers.tab12 antiquarylaw08_CodeTrainingCovers.bits12 (fun HT_ HW_ => ?_)
                          generalize wr.drew = w43 at HO_570001 HO_570002 HO_579001 HO_579002 BK569 BK578 HB HL580_0 HL581_0 HR580_0 HR581_0 hx580_0 hx581_0 hHeld ⊢
                          refine pure_ (i := 0) (N := some 81) (v := ?_) (a' := ?_) #[true, false, false, false, false, false, false, false, false, false, false, false, false, false, false, false, false, false, false, false, false, false, false, false, false, false, false, false, false, false, false, false, false, false, false, false, false, false, false, false, false, false, false, false] rfl rfl (any_of HT_.out (by kernel_rfl)) (fun _ _ _ h => h) (Or.inl ⟨by rfl, ?_⟩) ?_ ?_
                          rotate_left
                          · intro w'
                            go_simp
                            with_reducible rfl
                          rotate_left
                          · simp only [Act.put, List.setIfInBounds_toArray, List.set_cons_zero, List.set_cons_succ, i64_w, i32_w]
                            rfl
                          refine pure_ (i := 2) (N := some 83) (v := ?_) (a' := ?_) #[true, false, true, false, false, false, false, false, false, false, false, false, false, false, false, false, false, false, false, false, false, false, false, false, false, false, false, false, false, false, false, false, false, false, false, false, false, false, false, false, false, false, false, false] rfl rfl (any_of HT_.out (by kernel_rfl)) (fun _ _ _ h => h) (Or.inl ⟨by rfl, ?_⟩) ?_ ?_
                          rotate_left
                          · intro w'
                            go_simp
                            with_reducible rfl
                          rotate_left
                          · simp only [Act.put, List.setIfInBounds_toArray, List.set_cons_zero, List.set_cons_succ, i64_w, i32_w]
                            rfl
                          refine pure_ (i := 6) (N := some 87) (v := ?_) (a' := ?_) #[true, false, true, false, false, false, true, false, false, false, false, false, false, false, false, false, false, false, false, false, false, false, false, false, false, false, false, false, false, false, false, false, false, false, false, false, false, false, false, false, false, false, false, false] rfl rfl (any_of HT_.out (by kernel_rfl)) (fun _ _ _ h => h) (Or.inl ⟨by rfl, ?_⟩) ?_ ?_
                          rotate_left
                          · intro w'
                            go_simp
                            with_reducible rfl
                          rotate_left
                          · simp only [Act.put, List.setIfInBounds_toArray, List.set_cons_zero, List.set_cons_succ, i64_w, i32_w]
                            rfl
                          refine pure_ (i := 8) (N := some 89) (v := ?_) (a' := ?_) #[true, false, true, false, false, false, true, false, true, false, false, false, false, false, false, false, false, false, false, false, false, false, false, false, false, false, false, false, false, false, false, false, false, false, false, false, false, false, false, false, false, false, false, false] rfl rfl (any_of HT_.out (by kernel_rfl)) (fun _ _ _ h => h) (Or.inl ⟨by rfl, ?_⟩) ?_ ?_
                          rotate_left
                          · intro w'
                            go_simp
                            with_reducible rfl
                          rotate_left
                          · simp only [Act.put, List.setIfInBounds_toArray, List.set_cons_zero, List.set_cons_succ, i64_w, i32_w]
                            rfl
                          refine take_ (i := 1) (N := some 82) (v := ?_) (a' := ?_) #[true, true, true, false, false, false, true, false, true, false, false, false, false, false, false, false, false, false, false, false, false, false, false, false, false, false, false, false, false, false, false, false, false, false, false, false, false, false, false, false, false, false, false, false] rfl rfl (take_ofW HT_.out HW_.out (by kernel_rfl)) (fun _ _ _ h => h) (Or.inl ⟨by rfl, ?_⟩) hHeld ?_ ?_
                          rotate_left
                          · rintro w' ⟨s0, s1, s2, s3, s4, s5, s6, s7⟩
                            go_simp
                            with_reducible rfl
                          rotate_left
                          · simp only [Act.put, List.setIfInBounds_toArray, List.set_cons_zero, List.set_cons_succ, i64_w, i32_w]
                            rfl
                          refine pure_ (i := 3) (N := some 84) (v := ?_) (a' := ?_) #[true, true, true, true, false, false, true, false, true, false, false, false, false, false, false, false, false, false, false, false, false, false, false, false, false, false, false, false, false, false, false, false, false, false, false, false, false, false, false, false, false, false, false, false] rfl rfl (any_of HT_.out (by kernel_rfl)) (fun _ _ _ h => h) (Or.inl ⟨by rfl, ?_⟩) ?_ ?_
                          rotate_left
                          · intro w'
                            go_simp
                            with_reducible rfl
                          rotate_left
                          · simp only [Act.put, List.setIfInBounds_toArray, List.set_cons_zero, List.set_cons_succ, i64_w, i32_w]
                            rfl
                          refine take_ (i := 4) (N := some 85) (v := ?_) (a' := ?_) #[true, true, true, true, true, false, true, false, true, false, false, false, false, false, false, false, false, false, false, false, false, false, false, false, false, false, false, false, false, false, false, false, false, false, false, false, false, false, false, false, false, false, false, false] rfl rfl (take_ofW HT_.out HW_.out (by kernel_rfl)) (fun _ _ _ h => h) (Or.inl ⟨by rfl, ?_⟩) hHeld ?_ ?_
                          rotate_left
                          · rintro w' ⟨s0, s1, s2, s3, s4, s5, s6, s7⟩
                            go_simp
                            with_reducible rfl
                          rotate_left
                          · simp only [Act.put, List.setIfInBounds_toArray, List.set_cons_zero, List.set_cons_succ, i64_w, i32_w]
                            rfl
                          refine pure_ (i := 5) (N := some 86) (v := ?_) (a' := ?_) #[true, true, true, true, true, true, true, false, true, false, false, false, false, false, false, false, false, false, false, false, false, false, false, false, false, false, false, false, false, false, false, false, false, false, false, false, false, false, false, false, false, false, false, false] rfl rfl (any_of HT_.out (by kernel_rfl)) (fun _ _ _ h => h) (Or.inl ⟨by rfl, ?_⟩) ?_ ?_
                          rotate_left
                          · intro w'
                            go_simp
                            with_reducible rfl
                          rotate_left
                          · simp only [Act.put, List.setIfInBounds_toArray, List.set_cons_zero, List.set_cons_succ, i64_w, i32_w]
                            rfl
                          refine take_ (i := 7) (N := some 88) (v := ?_) (a' := ?_) #[true, true, true, true, true, true, true, true, true, false, false, false, false, false, false, false, false, false, false, false, false, false, false, false, false, false, false, false, false, false, false, false, false, false, false, false, false, false, false, false, false, false, false, false] rfl rfl (take_ofW HT_.out HW_.out (by kernel_rfl)) (fun _ _ _ h => h) (Or.inl ⟨by rfl, ?_⟩) hHeld ?_ ?_
                          rotate_left
                          · rintro w' ⟨s0, s1, s2, s3, s4, s5, s6, s7⟩
                            go_simp
                            with_reducible rfl
                          rotate_left
                          · simp only [Act.put, List.setIfInBounds_toArray, List.set_cons_zero, List.set_cons_succ, i64_w, i32_w]
                            rfl
                          refine pure_ (i := 9) (N := some 90) (v := ?_) (a' := ?_) #[true, true, true, true, true, true, true, true, true, true, false, false, false, false, false, false, false, false, false, false, false, false, false, false, false, false, false, false, false, false, false, false, false, false, false, false, false, false, false, false, false, false, false, false] rfl rfl (any_of HT_.out (by kernel_rfl)) (fun _ _ _ h => h) (Or.inl ⟨by rfl, ?_⟩) ?_ ?_
                          rotate_left
                          · intro w'
                            go_simp
                            with_reducible rfl
                          rotate_left
                          · simp only [Act.put, List.setIfInBounds_toArray, List.set_cons_zero, List.set_cons_succ, i64_w, i32_w]
                            rfl
                          refine take_ (i := 10) (N := some 91) (v := ?_) (a' := ?_) #[true, true, true, true, true, true, true, true, true, true, true, false, false, false, false, false, false, false, false, false, false, false, false, false, false, false, false, false, false, false, false, false, false, false, false, false, false, false, false, false, false, false, false, false] rfl rfl (take_ofW HT_.out HW_.out (by kernel_rfl)) (fun _ _ _ h => h) (Or.inl ⟨by rfl, ?_⟩) hHeld ?_ ?_
                          rotate_left
                          · rintro w' ⟨s0, s1, s2, s3, s4, s5, s6, s7⟩
                            go_simp
                            with_reducible rfl
                          rotate_left
                          · simp only [Act.put, List.setIfInBounds_toArray, List.set_cons_zero, List.set_cons_succ, i64_w, i32_w]
                            rfl
                          refine pure_ (i := 11) (N := some 92) (v := ?_) (a' := ?_) #[true, true, true, true, true, true, true, true, true, true, true, true, false, false, false, false, false, false, false, false, false, false, false, false, false, false, false, false, false, false, false, false, false, false, false, false, false, false, false, false, false, false, false, false] rfl rfl (any_of HT_.out (by kernel_rfl)) (fun _ _ _ h => h) (Or.inl ⟨by rfl, ?_⟩) ?_ ?_
                          rotate_left
                          · intro w'
                            go_simp
                            with_reducible rfl
                          rotate_left
                          · simp only [Act.put, List.setIfInBounds_toArray, List.set_cons_zero, List.set_cons_succ, i64_w, i32_w]
                            rfl
                          refine pure_ (i := 12) (N := some 93) (v := ?_) (a' := ?_) #[true, true, true, true, true, true, true, true, true, true, true, true, true, false, false, false, false, false, false, false, false, false, false, false, false, false, false, false, false, false, false, false, false, false, false, false, false, false, false, false, false, false, false, false] rfl rfl (any_of HT_.out (by kernel_rfl)) (fun _ _ _ h => h) (Or.inl ⟨by rfl, ?_⟩) ?_ ?_
                          rotate_left
                          · intro w'
                            go_simp
                            with_reducible rfl
                          rotate_left
                          · simp only [Act.put, List.setIfInBounds_toArray, List.set_cons_zero, List.set_cons_succ, i64_w, i32_w]
                            rfl
                          refine pure_ (i := 13) (N := some 94) (v := ?_) (a' := ?_) #[true, true, true, true, true, true, true, true, true, true, true, true, true, true, false, false, false, false, false, false, false, false, false, false, false, false, false, false, false, false, false, false, false, false, false, false, false, false, false, false, false, false, false, false] rfl rfl (any_of HT_.out (by kernel_rfl)) (fun _ _ _ h => h) (Or.inl ⟨by rfl, ?_⟩) ?_ ?_
                          rotate_left
                          · intro w'
                            go_simp
                            with_reducible rfl
                          rotate_left
                          · simp only [Act.put, List.setIfInBounds_toArray, List.set_cons_zero, List.set_cons_succ, i64_w, i32_w]
                            rfl
                          refine pure_ (i := 14) (N := some 95) (v := undef) (a' := ?_) #[true, true, true, true, true, true, true, true, true, true, true, true, true, true, true, false, false, false, false, false, false, false, false, false, false, false, false, false, false, false, false, false, false, false, false, false, false, false, false, false, false, false, false, false] rfl rfl (any_of HT_.out (by kernel_rfl)) (fun _ _ _ h => h) (Or.inr ⟨by rfl, rfl⟩) ?_ ?_
                          rotate_left
                          · simp only [Act.put, List.setIfInBounds_toArray, List.set_cons_zero, List.set_cons_succ, i64_w, i32_w]
                            rfl
                          refine pure_ (i := 15) (N := some 96) (v := undef) (a' := ?_) #[true, true, true, true, true, true, true, true, true, true, true, true, true, true, true, true, false, false, false, false, false, false, false, false, false, false, false, false, false, false, false, false, false, false, false, false, false, false, false, false, false, false, false, false] rfl rfl (any_of HT_.out (by kernel_rfl)) (fun _ _ _ h => h) (Or.inr ⟨by rfl, rfl⟩) ?_ ?_
                          rotate_left
                          · simp only [Act.put, List.setIfInBounds_toArray, List.set_cons_zero, List.set_cons_succ, i64_w, i32_w]
                            rfl
                          refine pure_ (i := 16) (N := some 97) (v := undef) (a' := ?_) #[true, true, true, true, true, true, true, true, true, true, true, true, true, true, true, true, true, false, false, false, false, false, false, false, false, false, false, false, false, false, false, false, false, false, false, false, false, false, false, false, false, false, false, false] rfl rfl (any_of HT_.out (by kernel_rfl)) (fun _ _ _ h => h) (Or.inr ⟨by rfl, rfl⟩) ?_ ?_
                          rotate_left
                          · simp only [Act.put, List.setIfInBounds_toArray, List.set_cons_zero, List.set_cons_succ, i64_w, i32_w]
                            rfl
                          refine pure_ (i := 17) (N := some 98) (v := undef) (a' := ?_) #[true, true, true, true, true, true, true, true, true, true, true, true, true, true, true, true, true, true, false, false, false, false, false, false, false, false, false, false, false, false, false, false, false, false, false, false, false, false, false, false, false, false, false, false] rfl rfl (any_of HT_.out (by kernel_rfl)) (fun _ _ _ h => h) (Or.inr ⟨by rfl, rfl⟩) ?_ ?_
                          rotate_left
                          · simp only [Act.put, List.setIfInBounds_toArray, List.set_cons_zero, List.set_cons_succ, i64_w, i32_w]
                            rfl
                          refine pure_ (i := 18) (N := some 99) (v := undef) (a' := ?_) #[true, true, true, true, true, true, true, true, true, true, true, true, true, true, true, true, true, true, true, false, false, false, false, false, false, false, false, false, false, false, false, false, false, false, false, false, false, false, false, false, false, false, false, false] rfl rfl (any_of HT_.out (by kernel_rfl)) (fun _ _ _ h => h) (Or.inr ⟨by rfl, rfl⟩) ?_ ?_
                          rotate_left
                          · simp only [Act.put, List.setIfInBounds_toArray, List.set_cons_zero, List.set_cons_succ, i64_w, i32_w]
                            rfl
                          refine pure_ (i := 19) (N := some 100) (v := undef) (a' := ?_) #[true, true, true, true, true, true, true, true, true, true, true, true, true, true, true, true, true, true, true, true, false, false, false, false, false, false, false, false, false, false, false, false, false, false, false, false, false, false, false, false, false, false, false, false] rfl rfl (any_of HT_.out (by kernel_rfl)) (fun _ _ _ h => h) (Or.inr ⟨by rfl, rfl⟩) ?_ ?_
                          rotate_left
                          · simp only [Act.put, List.setIfInBounds_toArray, List.set_cons_zero, List.set_cons_succ, i64_w, i32_w]
                            rfl
                          refine pure_ (i := 20) (N := some 101) (v := undef) (a' := ?_) #[true, true, true, true, true, true, true, true, true, true, true, true, true, true, true, true, true, true, true, true, true, false, false, false, false, false, false, false, false, false, false, false, false, false, false, false, false, false, false, false, false, false, false, false] rfl rfl (any_of HT_.out (by kernel_rfl)) (fun _ _ _ h => h) (Or.inr ⟨by rfl, rfl⟩) ?_ ?_
                          rotate_left
                          · simp only [Act.put, List.setIfInBounds_toArray, List.set_cons_zero, List.set_cons_succ, i64_w, i32_w]
                            rfl
                          refine pure_ (i := 21) (N := some 102) (v := undef) (a' := ?_) #[true, true, true, true, true, true, true, true, true, true, true, true, true, true, true, true, true, true, true, true, true, true, false, false, false, false, false, false, false, false, false, false, false, false, false, false, false, false, false, false, false, false, false, false] rfl rfl (any_of HT_.out (by kernel_rfl)) (fun _ _ _ h => h) (Or.inr ⟨by rfl, rfl⟩) ?_ ?_
                          rotate_left
                          · simp only [Act.put, List.setIfInBounds_toArray, List.set_cons_zero, List.set_cons_succ, i64_w, i32_w]
                            rfl
                          refine pure_ (i := 22) (N := some 103) (v := ?_) (a' := ?_) #[true, true, true, true, true, true, true, true, true, true, true, true, true, true, true, true, true, true, true, true, true, true, true, false, false, false, false, false, false, false, false, false, false, false, false, false, false, false, false, false, false, false, false, false] rfl rfl (any_of HT_.out (by kernel_rfl)) (fun _ _ _ h => h) (Or.inl ⟨by rfl, ?_⟩) ?_ ?_
                          rotate_left
                          · intro w'
                            go_simp
                            with_reducible rfl
                          rotate_left
                          · simp only [Act.put, List.setIfInBounds_toArray, List.set_cons_zero, List.set_cons_succ, i64_w, i32_w]
                            rfl
                          refine pure_ (i := 23) (N := some 104) (v := ?_) (a' := ?_) #[true, true, true, true, true, true, true, true, true, true, true, true, true, true, true, true, true, true, true, true, true, true, true, true, false, false, false, false, false, false, false, false, false, false, false, false, false, false, false, false, false, false, false, false] rfl rfl (any_of HT_.out (by kernel_rfl)) (fun _ _ _ h => h) (Or.inl ⟨by rfl, ?_⟩) ?_ ?_
                          rotate_left
                          · intro w'
                            go_simp
                            with_reducible rfl
                          rotate_left
                          · simp only [Act.put, List.setIfInBounds_toArray, List.set_cons_zero, List.set_cons_succ, i64_w, i32_w]
                            rfl
                          refine pure_ (i := 24) (N := some 105) (v := undef) (a' := ?_) #[true, true, true, true, true, true, true, true, true, true, true, true, true, true, true, true, true, true, true, true, true, true, true, true, true, false, false, false, false, false, false, false, false, false, false, false, false, false, false, false, false, false, false, false] rfl rfl (any_of HT_.out (by kernel_rfl)) (fun _ _ _ h => h) (Or.inr ⟨by rfl, rfl⟩) ?_ ?_
                          rotate_left
                          · simp only [Act.put, List.setIfInBounds_toArray, List.set_cons_zero, List.set_cons_succ, i64_w, i32_w]
                            rfl
                          refine pure_ (i := 25) (N := some 106) (v := undef) (a' := ?_) #[true, true, true, true, true, true, true, true, true, true, true, true, true, true, true, true, true, true, true, true, true, true, true, true, true, true, false, false, false, false, false, false, false, false, false, false, false, false, false, false, false, false, false, false] rfl rfl (any_of HT_.out (by kernel_rfl)) (fun _ _ _ h => h) (Or.inr ⟨by rfl, rfl⟩) ?_ ?_
                          rotate_left
                          · simp only [Act.put, List.setIfInBounds_toArray, List.set_cons_zero, List.set_cons_succ, i64_w, i32_w]
                            rfl
                          refine pure_ (i := 26) (N := some 107) (v := undef) (a' := ?_) #[true, true, true, true, true, true, true, true, true, true, true, true, true, true, true, true, true, true, true, true, true, true, true, true, true, true, true, false, false, false, false, false, false, false, false, false, false, false, false, false, false, false, false, false] rfl rfl (any_of HT_.out (by kernel_rfl)) (fun _ _ _ h => h) (Or.inr ⟨by rfl, rfl⟩) ?_ ?_
                          rotate_left
                          · simp only [Act.put, List.setIfInBounds_toArray, List.set_cons_zero, List.set_cons_succ, i64_w, i32_w]
                            rfl
                          refine pure_ (i := 27) (N := some 108) (v := undef) (a' := ?_) #[true, true, true, true, true, true, true, true, true, true, true, true, true, true, true, true, true, true, true, true, true, true, true, true, true, true, true, true, false, false, false, false, false, false, false, false, false, false, false, false, false, false, false, false] rfl rfl (any_of HT_.out (by kernel_rfl)) (fun _ _ _ h => h) (Or.inr ⟨by rfl, rfl⟩) ?_ ?_
                          rotate_left
                          · simp only [Act.put, List.setIfInBounds_toArray, List.set_cons_zero, List.set_cons_succ, i64_w, i32_w]
                            rfl
                          refine pure_ (i := 28) (N := some 109) (v := undef) (a' := ?_) #[true, true, true, true, true, true, true, true, true, true, true, true, true, true, true, true, true, true, true, true, true, true, true, true, true, true, true, true, true, false, false, false, false, false, false, false, false, false, false, false, false, false, false, false] rfl rfl (any_of HT_.out (by kernel_rfl)) (fun _ _ _ h => h) (Or.inr ⟨by rfl, rfl⟩) ?_ ?_
                          rotate_left
                          · simp only [Act.put, List.setIfInBounds_toArray, List.set_cons_zero, List.set_cons_succ, i64_w, i32_w]
                            rfl
                          refine pure_ (i := 29) (N := some 110) (v := undef) (a' := ?_) #[true, true, true, true, true, true, true, true, true, true, true, true, true, true, true, true, true, true, true, true, true, true, true, true, true, true, true, true, true, true, false, false, false, false, false, false, false, false, false, false, false, false, false, false] rfl rfl (any_of HT_.out (by kernel_rfl)) (fun _ _ _ h => h) (Or.inr ⟨by rfl, rfl⟩) ?_ ?_
                          rotate_left
                          · simp only [Act.put, List.setIfInBounds_toArray, List.set_cons_zero, List.set_cons_succ, i64_w, i32_w]
                            rfl
                          refine pure_ (i := 30) (N := some 111) (v := undef) (a' := ?_) #[true, true, true, true, true, true, true, true, true, true, true, true, true, true, true, true, true, true, true, true, true, true, true, true, true, true, true, true, true, true, true, false, false, false, false, false, false, false, false, false, false, false, false, false] rfl rfl (any_of HT_.out (by kernel_rfl)) (fun _ _ _ h => h) (Or.inr ⟨by rfl, rfl⟩) ?_ ?_
                          rotate_left
                          · simp only [Act.put, List.setIfInBounds_toArray, List.set_cons_zero, List.set_cons_succ, i64_w, i32_w]
                            rfl
                          refine pure_ (i := 31) (N := some 112) (v := undef) (a' := ?_) #[true, true, true, true, true, true, true, true, true, true, true, true, true, true, true, true, true, true, true, true, true, true, true, true, true, true, true, true, true, true, true, true, false, false, false, false, false, false, false, false, false, false, false, false] rfl rfl (any_of HT_.out (by kernel_rfl)) (fun _ _ _ h => h) (Or.inr ⟨by rfl, rfl⟩) ?_ ?_
                          rotate_left
                          · simp only [Act.put, List.setIfInBounds_toArray, List.set_cons_zero, List.set_cons_succ, i64_w, i32_w]
                            rfl
                          refine pure_ (i := 32) (N := some 113) (v := undef) (a' := ?_) #[true, true, true, true, true, true, true, true, true, true, true, true, true, true, true, true, true, true, true, true, true, true, true, true, true, true, true, true, true, true, true, true, true, false, false, false, false, false, false, false, false, false, false, false] rfl rfl (any_of HT_.out (by kernel_rfl)) (fun _ _ _ h => h) (Or.inr ⟨by rfl, rfl⟩) ?_ ?_
                          rotate_left
                          · simp only [Act.put, List.setIfInBounds_toArray, List.set_cons_zero, List.set_cons_succ, i64_w, i32_w]
                            rfl
                          refine pure_ (i := 33) (N := some 114) (v := undef) (a' := ?_) #[true, true, true, true, true, true, true, true, true, true, true, true, true, true, true, true, true, true, true, true, true, true, true, true, true, true, true, true, true, true, true, true, true, true, false, false, false, false, false, false, false, false, false, false] rfl rfl (any_of HT_.out (by kernel_rfl)) (fun _ _ _ h => h) (Or.inr ⟨by rfl, rfl⟩) ?_ ?_
                          rotate_left
                          · simp only [Act.put, List.setIfInBounds_toArray, List.set_cons_zero, List.set_cons_succ, i64_w, i32_w]
                            rfl
                          refine pure_ (i := 34) (N := some 115) (v := undef) (a' := ?_) #[true, true, true, true, true, true, true, true, true, true, true, true, true, true, true, true, true, true, true, true, true, true, true, true, true, true, true, true, true, true, true, true, true, true, true, false, false, false, false, false, false, false, false, false] rfl rfl (any_of HT_.out (by kernel_rfl)) (fun _ _ _ h => h) (Or.inr ⟨by rfl, rfl⟩) ?_ ?_
                          rotate_left
                          · simp only [Act.put, List.setIfInBounds_toArray, List.set_cons_zero, List.set_cons_succ, i64_w, i32_w]
                            rfl
                          refine pure_ (i := 35) (N := some 116) (v := undef) (a' := ?_) #[true, true, true, true, true, true, true, true, true, true, true, true, true, true, true, true, true, true, true, true, true, true, true, true, true, true, true, true, true, true, true, true, true, true, true, true, false, false, false, false, false, false, false, false] rfl rfl (any_of HT_.out (by kernel_rfl)) (fun _ _ _ h => h) (Or.inr ⟨by rfl, rfl⟩) ?_ ?_
                          rotate_left
                          · simp only [Act.put, List.setIfInBounds_toArray, List.set_cons_zero, List.set_cons_succ, i64_w, i32_w]
                            rfl
                          refine pure_ (i := 36) (N := some 117) (v := undef) (a' := ?_) #[true, true, true, true, true, true, true, true, true, true, true, true, true, true, true, true, true, true, true, true, true, true, true, true, true, true, true, true, true, true, true, true, true, true, true, true, true, false, false, false, false, false, false, false] rfl rfl (any_of HT_.out (by kernel_rfl)) (fun _ _ _ h => h) (Or.inr ⟨by rfl, rfl⟩) ?_ ?_
                          rotate_left
                          · simp only [Act.put, List.setIfInBounds_toArray, List.set_cons_zero, List.set_cons_succ, i64_w, i32_w]
                            rfl
                          refine pure_ (i := 37) (N := some 118) (v := undef) (a' := ?_) #[true, true, true, true, true, true, true, true, true, true, true, true, true, true, true, true, true, true, true, true, true, true, true, true, true, true, true, true, true, true, true, true, true, true, true, true, true, true, false, false, false, false, false, false] rfl rfl (any_of HT_.out (by kernel_rfl)) (fun _ _ _ h => h) (Or.inr ⟨by rfl, rfl⟩) ?_ ?_
                          rotate_left
                          · simp only [Act.put, List.setIfInBounds_toArray, List.set_cons_zero, List.set_cons_succ, i64_w, i32_w]
                            rfl
                          refine pure_ (i := 38) (N := some 119) (v := undef) (a' := ?_) #[true, true, true, true, true, true, true, true, true, true, true, true, true, true, true, true, true, true, true, true, true, true, true, true, true, true, true, true, true, true, true, true, true, true, true, true, true, true, true, false, false, false, false, false] rfl rfl (any_of HT_.out (by kernel_rfl)) (fun _ _ _ h => h) (Or.inr ⟨by rfl, rfl⟩) ?_ ?_
                          rotate_left
                          · simp only [Act.put, List.setIfInBounds_toArray, List.set_cons_zero, List.set_cons_succ, i64_w, i32_w]
                            rfl
                          refine pure_ (i := 39) (N := some 120) (v := undef) (a' := ?_) #[true, true, true, true, true, true, true, true, true, true, true, true, true, true, true, true, true, true, true, true, true, true, true, true, true, true, true, true, true, true, true, true, true, true, true, true, true, true, true, true, false, false, false, false] rfl rfl (any_of HT_.out (by kernel_rfl)) (fun _ _ _ h => h) (Or.inr ⟨by rfl, rfl⟩) ?_ ?_
                          rotate_left
                          · simp only [Act.put, List.setIfInBounds_toArray, List.set_cons_zero, List.set_cons_succ, i64_w, i32_w]
                            rfl
                          refine pure_ (i := 40) (N := some 121) (v := undef) (a' := ?_) #[true, true, true, true, true, true, true, true, true, true, true, true, true, true, true, true, true, true, true, true, true, true, true, true, true, true, true, true, true, true, true, true, true, true, true, true, true, true, true, true, true, false, false, false] rfl rfl (any_of HT_.out (by kernel_rfl)) (fun _ _ _ h => h) (Or.inr ⟨by rfl, rfl⟩) ?_ ?_
                          rotate_left
                          · simp only [Act.put, List.setIfInBounds_toArray, List.set_cons_zero, List.set_cons_succ, i64_w, i32_w]
                            rfl
                          refine pure_ (i := 41) (N := some 122) (v := undef) (a' := ?_) #[true, true, true, true, true, true, true, true, true, true, true, true, true, true, true, true, true, true, true, true, true, true, true, true, true, true, true, true, true, true, true, true, true, true, true, true, true, true, true, true, true, true, false, false] rfl rfl (any_of HT_.out (by kernel_rfl)) (fun _ _ _ h => h) (Or.inr ⟨by rfl, rfl⟩) ?_ ?_
                          rotate_left
                          · simp only [Act.put, List.setIfInBounds_toArray, List.set_cons_zero, List.set_cons_succ, i64_w, i32_w]
                            rfl
                          refine pure_ (i := 42) (N := some 123) (v := undef) (a' := ?_) #[true, true, true, true, true, true, true, true, true, true, true, true, true, true, true, true, true, true, true, true, true, true, true, true, true, true, true, true, true, true, true, true, true, true, true, true, true, true, true, true, true, true, true, false] rfl rfl (any_of HT_.out (by kernel_rfl)) (fun _ _ _ h => h) (Or.inr ⟨by rfl, rfl⟩) ?_ ?_
                          rotate_left
                          · simp only [Act.put, List.setIfInBounds_toArray, List.set_cons_zero, List.set_cons_succ, i64_w, i32_w]
                            rfl
                          refine pure_ (i := 43) (N := some 124) (v := ?_) (a' := ?_) #[true, true, true, true, true, true, true, true, true, true, true, true, true, true, true, true, true, true, true, true, true, true, true, true, true, true, true, true, true, true, true, true, true, true, true, true, true, true, true, true, true, true, true, true] rfl rfl (any_of HT_.out (by kernel_rfl)) (fun _ _ _ h => h) (Or.inl ⟨by rfl, ?_⟩) ?_ ?_
                          rotate_left
                          · intro w'
                            go_simp
                            with_reducible rfl
                          rotate_left
                          · simp only [Act.put, List.setIfInBounds_toArray, List.set_cons_zero, List.set_cons_succ, i64_w, i32_w]
                            rfl
                          refine done_ (done_of HT_.out (by kernel_rfl)) ?_
                          try go_wp2
                          go_ret
                          exact ⟨by first | rfl | (simp [errW_none, errW_some] <;> rfl) | (simp only [← hji14, ← hji16, ← hji17]; first | rfl | (simp [errW_none, errW_some] <;> rfl)) | (simp [*, errW_none, errW_some] <;> rfl), by repeat (first | (with_reducible first | exact HB.out | apply below_alloc | apply pw_below_drewN | apply below_drew1 | refine below_set ?_ GE569.out | refine below_set ?_ GE578.out) | exact HB.out)⟩
                        · rw [if_neg c40] at H
                          have c40b0 : decide (((rd_L2 t574 x17_3).length : Int) < ((rd_L2 t565 x17_3).length : Int)) = false := decide_eq_false c40
                          have c40b1 : decide ((rd_L2 t574 x17_3).length < (rd_L2 t565 x17_3).length) = false := decide_eq_false (fun h => c40 (Int.ofNat_lt.mpr h))
                          clear c40
                          by_cases c44 : ((rd_L2 t565 x17_3).length : Int) > (wrap64 (1 + (Int.tmod (wrap64 (ji14)) 50)))
                          · rw [if_pos c44] at H
                            have c44b0 : decide ((wrap64 (1 + (Int.tmod (wrap64 (ji14)) 50))) < ((rd_L2 t565 x17_3).length : Int)) = true := decide_eq_true c44
                            clear c44
                            obtain rfl := Option.some.inj H
                            have hnb45 := NB569_578.out
                            have hnc45 := NB578_569.out
                            have hcz46_0 : wr.cell? ⟨gb569, 0, none⟩ = some (.int .i64 t561) := (blk_cell BK569.out 0).trans rfl
                            have hcz46_1 : wr.cell? ⟨gb569, 1, none⟩ = some (.slice Ao23 t562.length co23) := (blk_cell BK569.out 1).trans rfl
                            have hcz46_2 : wr.cell? ⟨gb569, 2, none⟩ = some (.slice Ao24 t565.length co24) := (blk_cell BK569.out 2).trans rfl
                            have hfz46_0 := blk_frozen BK569.out 0
                            have hfz46_1 := blk_frozen BK569.out 1
                            have hfz46_2 := blk_frozen BK569.out 2
                            try go_wp2
                            have n0_ := Aside0.mk (Kd.R_drew HO_570001.out)
                            have n1_ := Aside0.mk (Kd.R_drew HO_570002.out)
                            have n2_ := Aside0.mk (Kd.R_drew HO_579001.out)
                            have n3_ := Aside0.mk (Kd.R_drew HO_579002.out)
                            have n4_ := Aside0.mk (blk_drew BK569.out)
                            have n5_ := Aside0.mk (blk_drew BK578.out)
                            have n6_ := Aside0.mk (below_drew1 HB.out)
                            clear HO_570001
                            clear HO_570002
                            clear HO_579001
                            clear HO_579002
                            clear BK569
                            clear BK578
                            clear HB
                            have HO_570001 := n0_
                            have HO_570002 := n1_
                            have HO_579001 := n2_
                            have HO_579002 := n3_
                            have BK569 := n4_
                            have BK578 := n5_
                            have HB := n6_
                            clear n0_ n1_ n2_ n3_ n4_ n5_ n6_
                            have p580 : 0 ≤ (x17_3 : Int) := of_decide_eq_true (by first | (with_reducible assumption) | assumption)
                            have q580 : x17_3 < (t565.length : Int) := of_decide_eq_true (by first | (with_reducible assumption) | assumption)
                            obtain ⟨ad580, A580_0, c580_0, e580, hx580_0, hl580_0, hi580_0⟩ := at_L2 (Kd.R_reads' HO_570002.out).2.2 x17_3 p580 q580
                            cases e580
                            obtain ⟨ce580, hce580, hMe580, hcc580⟩ := Kd.R_get HO_570002.out [] x17_3 p580 (by first | exact q580 | exact of_decide_eq_true (by first | (with_reducible assumption) | assumption) | (have e_ := (Kd.R_reads' HO_570002.out).1; omega))
                            obtain ⟨ve580_0, rfl, ge580_0⟩ := hMe580
                            have hv580_0 := hcc580 0 _ rfl
                            rw [Nat.add_zero, show ((Kd.slice 22 (Kd.slice 3 (Kd.int .i64)))).sz = 1 from rfl, Nat.mul_one] at hv580_0
                            replace hv580_0 := Option.some.inj (hv580_0.symm.trans hx580_0)
                            rw [hv580_0] at ge580_0
                            have HL580_0 := Aside0.mk (show Kd.R (Kd.slice 3 (Kd.int .i64)) 22 _ _ _ _ (rd_L2 t565 x17_3) from ge580_0)
                            clear hv580_0 ge580_0
                            clear hcc580 hce580
                            have HR580_0 := Aside0.mk hi580_0
                            have HC580_0 := Aside0.mk hl580_0
                            clear hi580_0 hl580_0
                            replace p580 := eq_true p580
                            replace q580 := eq_true q580
                            have p581 : 0 ≤ (x17_3 : Int) := of_decide_eq_true (by first | (with_reducible assumption) | assumption)
                            have q581 : x17_3 < (t574.length : Int) := of_decide_eq_true (by first | (with_reducible assumption) | assumption)
                            obtain ⟨ad581, A581_0, c581_0, e581, hx581_0, hl581_0, hi581_0⟩ := at_L2 (Kd.R_reads' HO_579002.out).2.2 x17_3 p581 q581
                            cases e581
                            obtain ⟨ce581, hce581, hMe581, hcc581⟩ := Kd.R_get HO_579002.out [] x17_3 p581 (by first | exact q581 | exact of_decide_eq_true (by first | (with_reducible assumption) | assumption) | (have e_ := (Kd.R_reads' HO_579002.out).1; omega))
                            obtain ⟨ve581_0, rfl, ge581_0⟩ := hMe581
                            have hv581_0 := hcc581 0 _ rfl
                            rw [Nat.add_zero, show ((Kd.slice 22 (Kd.slice 3 (Kd.int .i64)))).sz = 1 from rfl, Nat.mul_one] at hv581_0
                            replace hv581_0 := Option.some.inj (hv581_0.symm.trans hx581_0)
                            rw [hv581_0] at ge581_0
                            have HL581_0 := Aside0.mk (show Kd.R (Kd.slice 3 (Kd.int .i64)) 22 _ _ _ _ (rd_L2 t574 x17_3) from ge581_0)
                            clear hv581_0 ge581_0
                            clear hcc581 hce581
                            have HR581_0 := Aside0.mk hi581_0
                            have HC581_0 := Aside0.mk hl581_0
                            clear hi581_0 hl581_0
                            replace p581 := eq_true p581
                            replace q581 := eq_true q581
                            have p582 : 0 ≤ (x17_3 : Int) := of_decide_eq_true (by first | (with_reducible assumption) | assumption)
                            have q582 : x17_3 < (t565.length : Int) := of_decide_eq_true (by first | (with_reducible assumption) | assumption)
                            obtain ⟨ad582, A582_0, c582_0, e582, hx582_0, hl582_0, hi582_0⟩ := at_L2 (Kd.R_reads' HO_570002.out).2.2 x17_3 p582 q582
                            obtain rfl : ad580 = ad582 := (by injection e582)
                            obtain ⟨ce582, hce582, hMe582, hcc582⟩ := Kd.R_get HO_570002.out [] x17_3 p582 (by first | exact q582 | exact of_decide_eq_true (by first | (with_reducible assumption) | assumption) | (have e_ := (Kd.R_reads' HO_570002.out).1; omega))
                            obtain ⟨ve582_0, rfl, ge582_0⟩ := hMe582
                            have hv582_0 := hcc582 0 _ rfl
                            rw [Nat.add_zero, show ((Kd.slice 22 (Kd.slice 3 (Kd.int .i64)))).sz = 1 from rfl, Nat.mul_one] at hv582_0
                            replace hv582_0 := Option.some.inj (hv582_0.symm.trans hx582_0)
                            rw [hv582_0] at ge582_0
                            have HL582_0 := Aside0.mk (show Kd.R (Kd.slice 3 (Kd.int .i64)) 22 _ _ _ _ (rd_L2 t565 x17_3) from ge582_0)
                            clear hv582_0 ge582_0
                            clear hcc582 hce582
                            have HR582_0 := Aside0.mk hi582_0
                            have HC582_0 := Aside0.mk hl582_0
                            clear hi582_0 hl582_0
                            replace p582 := eq_true p582
                            replace q582 := eq_true q582
                            have ea_ := Option.some.inj (hx580_0.symm.trans hx582_0)
                            injection ea_ with ea_ en_ ec_
                            subst ea_
                            subst ec_
                            clear en_
                            refine start_ (n := 44) (S := fun w' => w'.cell? ⟨gb569, 0, none⟩ = some (.int .i64 t561) ∧ w'.cell? ⟨gb569, 1, none⟩ = some (.slice Ao23 t562.length co23) ∧ w'.cell? ⟨gb569, 2, none⟩ = some (.slice (some ad580) t565.length co24) ∧ w'.cell? ⟨gb578, 0, none⟩ = some (.int .i64 t570) ∧ w'.cell? ⟨gb578, 1, none⟩ = some (.slice Ao29 t571.length co29) ∧ w'.cell? ⟨gb578, 2, none⟩ = some (.slice (some ad581) t574.length co30) ∧ w'.cell? (ad580.add (x17_3).toNat) = some (.slice A580_0 (rd_L2 t565 x17_3).length c580_0) ∧ w'.cell? (ad581.add (x17_3).toNat) = some (.slice A581_0 (rd_L2 t574 x17_3).length c581_0) ∧ w'.cell? (ad580.add (x17_3).toNat) = some (.slice A580_0 (rd_L2 t565 x17_3).length c580_0)) (ds := []) #[false, false, false, false, false, false, false, false, false, false, false, false, false, false, false, false, false, false, false, false, false, false, false, false, false, false, false, false, false, false, false, false, false, false, false, false, false, false, false, false, false, false, false, false] (by kernel_rfl) rfl rfl ⟨(blk_cell BK569.out 0).trans rfl, (blk_cell BK569.out 1).trans rfl, (blk_cell BK569.out 2).trans rfl, (blk_cell BK578.out 0).trans rfl, (blk_cell BK578.out 1).trans rfl, (blk_cell BK578.out 2).trans rfl, hx580_0, hx581_0, hx582_0⟩ (fun hHeld => ?_); refine with_tabW antiquarylaw08_CodeTrainingCovers.tab12 antiquarylaw08_CodeTrainingCovers.bits12 (fun HT_ HW_ => ?_)
                            generalize wr.drew = w47 at HO_570001 HO_570002 HO_579001 HO_579002 BK569 BK578 HB HL580_0 HL581_0 HL582_0 HR580_0 HR581_0 HR582_0 hx580_0 hx581_0 hx582_0 hHeld ⊢
                            refine pure_ (i := 0) (N := some 81) (v := ?_) (a' := ?_) #[true, false, false, false, false, false, false, false, false, false, false, false, false, false, false, false, false, false, false, false, false, false, false, false, false, false, false, false, false, false, false, false, false, false, false, false, false, false, false, false, false, false, false, false] rfl rfl (any_of HT_.out (by kernel_rfl)) (fun _ _ _ h => h) (Or.inl ⟨by rfl, ?_⟩) ?_ ?_
                            rotate_left
                            · intro w'
                              go_simp
                              with_reducible rfl
                            rotate_left
                            · simp only [Act.put, List.setIfInBounds_toArray, List.set_cons_zero, List.set_cons_succ, i64_w, i32_w]
                              rfl
                            refine pure_ (i := 2) (N := some 83) (v := ?_) (a' := ?_) #[true, false, true, false, false, false, false, false, false, false, false, false, false, false, false, false, false, false, false, false, false, false, false, false, false, false, false, false, false, false, false, false, false, false, false, false, false, false, false, false, false, false, false, false] rfl rfl (any_of HT_.out (by kernel_rfl)) (fun _ _ _ h => h) (Or.inl ⟨by rfl, ?_⟩) ?_ ?_
                            rotate_left
                            · intro w'
                              go_simp
                              with_reducible rfl
                            rotate_left
                            · simp only [Act.put, List.setIfInBounds_toArray, List.set_cons_zero, List.set_cons_succ, i64_w, i32_w]
                              rfl
                            refine pure_ (i := 6) (N := some 87) (v := ?_) (a' := ?_) #[true, false, true, false, false, false, true, false, false, false, false, false, false, false, false, false, false, false, false, false, false, false, false, false, false, false, false, false, false, false, false, false, false, false, false, false, false, false, false, false, false, false, false, false] rfl rfl (any_of HT_.out (by kernel_rfl)) (fun _ _ _ h => h) (Or.inl ⟨by rfl, ?_⟩) ?_ ?_
                            rotate_left
                            · intro w'
                              go_simp
                              with_reducible rfl
                            rotate_left
                            · simp only [Act.put, List.setIfInBounds_toArray, List.set_cons_zero, List.set_cons_succ, i64_w, i32_w]
                              rfl
                            refine pure_ (i := 8) (N := some 89) (v := ?_) (a' := ?_) #[true, false, true, false, false, false, true, false, true, false, false, false, false, false, false, false, false, false, false, false, false, false, false, false, false, false, false, false, false, false, false, false, false, false, false, false, false, false, false, false, false, false, false, false] rfl rfl (any_of HT_.out (by kernel_rfl)) (fun _ _ _ h => h) (Or.inl ⟨by rfl, ?_⟩) ?_ ?_
                            rotate_left
                            · intro w'
                              go_simp
                              with_reducible rfl
                            rotate_left
                            · simp only [Act.put, List.setIfInBounds_toArray, List.set_cons_zero, List.set_cons_succ, i64_w, i32_w]
                              rfl
                            refine take_ (i := 1) (N := some 82) (v := ?_) (a' := ?_) #[true, true, true, false, false, false, true, false, true, false, false, false, false, false, false, false, false, false, false, false, false, false, false, false, false, false, false, false, false, false, false, false, false, false, false, false, false, false, false, false, false, false, false, false] rfl rfl (take_ofW HT_.out HW_.out (by kernel_rfl)) (fun _ _ _ h => h) (Or.inl ⟨by rfl, ?_⟩) hHeld ?_ ?_
                            rotate_left
                            · rintro w' ⟨s0, s1, s2, s3, s4, s5, s6, s7, s8⟩
                              go_simp
                              with_reducible rfl
                            rotate_left
                            · simp only [Act.put, List.setIfInBounds_toArray, List.set_cons_zero, List.set_cons_succ, i64_w, i32_w]
                              rfl
                            refine pure_ (i := 3) (N := some 84) (v := ?_) (a' := ?_) #[true, true, true, true, false, false, true, false, true, false, false, false, false, false, false, false, false, false, false, false, false, false, false, false, false, false, false, false, false, false, false, false, false, false, false, false, false, false, false, false, false, false, false, false] rfl rfl (any_of HT_.out (by kernel_rfl)) (fun _ _ _ h => h) (Or.inl ⟨by rfl, ?_⟩) ?_ ?_
                            rotate_left
                            · intro w'
                              go_simp
                              with_reducible rfl
                            rotate_left
                            · simp only [Act.put, List.setIfInBounds_toArray, List.set_cons_zero, List.set_cons_succ, i64_w, i32_w]
                              rfl
                            refine take_ (i := 4) (N := some 85) (v := ?_) (a' := ?_) #[true, true, true, true, true, false, true, false, true, false, false, false, false, false, false, false, false, false, false, false, false, false, false, false, false, false, false, false, false, false, false, false, false, false, false, false, false, false, false, false, false, false, false, false] rfl rfl (take_ofW HT_.out HW_.out (by kernel_rfl)) (fun _ _ _ h => h) (Or.inl ⟨by rfl, ?_⟩) hHeld ?_ ?_
                            rotate_left
                            · rintro w' ⟨s0, s1, s2, s3, s4, s5, s6, s7, s8⟩
                              go_simp
                              with_reducible rfl
                            rotate_left
                            · simp only [Act.put, List.setIfInBounds_toArray, List.set_cons_zero, List.set_cons_succ, i64_w, i32_w]
                              rfl
                            refine pure_ (i := 5) (N := some 86) (v := ?_) (a' := ?_) #[true, true, true, true, true, true, true, false, true, false, false, false, false, false, false, false, false, false, false, false, false, false, false, false, false, false, false, false, false, false, false, false, false, false, false, false, false, false, false, false, false, false, false, false] rfl rfl (any_of HT_.out (by kernel_rfl)) (fun _ _ _ h => h) (Or.inl ⟨by rfl, ?_⟩) ?_ ?_
                            rotate_left
                            · intro w'
                              go_simp
                              with_reducible rfl
                            rotate_left
                            · simp only [Act.put, List.setIfInBounds_toArray, List.set_cons_zero, List.set_cons_succ, i64_w, i32_w]
                              rfl
                            refine take_ (i := 7) (N := some 88) (v := ?_) (a' := ?_) #[true, true, true, true, true, true, true, true, true, false, false, false, false, false, false, false, false, false, false, false, false, false, false, false, false, false, false, false, false, false, false, false, false, false, false, false, false, false, false, false, false, false, false, false] rfl rfl (take_ofW HT_.out HW_.out (by kernel_rfl)) (fun _ _ _ h => h) (Or.inl ⟨by rfl, ?_⟩) hHeld ?_ ?_
                            rotate_left
                            · rintro w' ⟨s0, s1, s2, s3, s4, s5, s6, s7, s8⟩
                              go_simp
                              with_reducible rfl
                            rotate_left
                            · simp only [Act.put, List.setIfInBounds_toArray, List.set_cons_zero, List.set_cons_succ, i64_w, i32_w]
                              rfl
                            refine pure_ (i := 9) (N := some 90) (v := ?_) (a' := ?_) #[true, true, true, true, true, true, true, true, true, true, false, false, false, false, false, false, false, false, false, false, false, false, false, false, false, false, false, false, false, false, false, false, false, false, false, false, false, false, false, false, false, false, false, false] rfl rfl (any_of HT_.out (by kernel_rfl)) (fun _ _ _ h => h) (Or.inl ⟨by rfl, ?_⟩) ?_ ?_
                            rotate_left
                            · intro w'
                              go_simp
                              with_reducible rfl
                            rotate_left
                            · simp only [Act.put, List.setIfInBounds_toArray, List.set_cons_zero, List.set_cons_succ, i64_w, i32_w]
                              rfl
                            refine take_ (i := 10) (N := some 91) (v := ?_) (a' := ?_) #[true, true, true, true, true, true, true, true, true, true, true, false, false, false, false, false, false, false, false, false, false, false, false, false, false, false, false, false, false, false, false, false, false, false, false, false, false, false, false, false, false, false, false, false] rfl rfl (take_ofW HT_.out HW_.out (by kernel_rfl)) (fun _ _ _ h => h) (Or.inl ⟨by rfl, ?_⟩) hHeld ?_ ?_
                            rotate_left
                            · rintro w' ⟨s0, s1, s2, s3, s4, s5, s6, s7, s8⟩
                              go_simp
                              with_reducible rfl
                            rotate_left
                            · simp only [Act.put, List.setIfInBounds_toArray, List.set_cons_zero, List.set_cons_succ, i64_w, i32_w]
                              rfl
                            refine pure_ (i := 11) (N := some 92) (v := ?_) (a' := ?_) #[true, true, true, true, true, true, true, true, true, true, true, true, false, false, false, false, false, false, false, false, false, false, false, false, false, false, false, false, false, false, false, false, false, false, false, false, false, false, false, false, false, false, false, false] rfl rfl (any_of HT_.out (by kernel_rfl)) (fun _ _ _ h => h) (Or.inl ⟨by rfl, ?_⟩) ?_ ?_
                            rotate_left
                            · intro w'
                              go_simp
                              with_reducible rfl
                            rotate_left
                            · simp only [Act.put, List.setIfInBounds_toArray, List.set_cons_zero, List.set_cons_succ, i64_w, i32_w]
                              rfl
                            refine pure_ (i := 12) (N := some 93) (v := ?_) (a' := ?_) #[true, true, true, true, true, true, true, true, true, true, true, true, true, false, false, false, false, false, false, false, false, false, false, false, false, false, false, false, false, false, false, false, false, false, false, false, false, false, false, false, false, false, false, false] rfl rfl (any_of HT_.out (by kernel_rfl)) (fun _ _ _ h => h) (Or.inl ⟨by rfl, ?_⟩) ?_ ?_
                            rotate_left
                            · intro w'
                              go_simp
                              with_reducible rfl
                            rotate_left
                            · simp only [Act.put, List.setIfInBounds_toArray, List.set_cons_zero, List.set_cons_succ, i64_w, i32_w]
                              rfl
                            refine pure_ (i := 13) (N := some 94) (v := ?_) (a' := ?_) #[true, true, true, true, true, true, true, true, true, true, true, true, true, true, false, false, false, false, false, false, false, false, false, false, false, false, false, false, false, false, false, false, false, false, false, false, false, false, false, false, false, false, false, false] rfl rfl (any_of HT_.out (by kernel_rfl)) (fun _ _ _ h => h) (Or.inl ⟨by rfl, ?_⟩) ?_ ?_
                            rotate_left
                            · intro w'
                              go_simp
                              with_reducible rfl
                            rotate_left
                            · simp only [Act.put, List.setIfInBounds_toArray, List.set_cons_zero, List.set_cons_succ, i64_w, i32_w]
                              rfl
                            refine pure_ (i := 14) (N := some 95) (v := ?_) (a' := ?_) #[true, true, true, true, true, true, true, true, true, true, true, true, true, true, true, false, false, false, false, false, false, false, false, false, false, false, false, false, false, false, false, false, false, false, false, false, false, false, false, false, false, false, false, false] rfl rfl (any_of HT_.out (by kernel_rfl)) (fun _ _ _ h => h) (Or.inl ⟨by rfl, ?_⟩) ?_ ?_
                            rotate_left
                            · intro w'
                              go_simp
                              with_reducible rfl
                            rotate_left
                            · simp only [Act.put, List.setIfInBounds_toArray, List.set_cons_zero, List.set_cons_succ, i64_w, i32_w]
                              rfl
                            refine pure_ (i := 16) (N := some 97) (v := ?_) (a' := ?_) #[true, true, true, true, true, true, true, true, true, true, true, true, true, true, true, false, true, false, false, false, false, false, false, false, false, false, false, false, false, false, false, false, false, false, false, false, false, false, false, false, false, false, false, false] rfl rfl (any_of HT_.out (by kernel_rfl)) (fun _ _ _ h => h) (Or.inl ⟨by rfl, ?_⟩) ?_ ?_
                            rotate_left
                            · intro w'
                              go_simp
                              with_reducible rfl
                            rotate_left
                            · simp only [Act.put, List.setIfInBounds_toArray, List.set_cons_zero, List.set_cons_succ, i64_w, i32_w]
                              rfl
                            refine pure_ (i := 20) (N := some 101) (v := ?_) (a' := ?_) #[true, true, true, true, true, true, true, true, true, true, true, true, true, true, true, false, true, false, false, false, true, false, false, false, false, false, false, false, false, false, false, false, false, false, false, false, false, false, false, false, false, false, false, false] rfl rfl (any_of HT_.out (by kernel_rfl)) (fun _ _ _ h => h) (Or.inl ⟨by rfl, ?_⟩) ?_ ?_
                            rotate_left
                            · intro w'
                              go_simp
                              with_reducible rfl
                            rotate_left
                            · simp only [Act.put, List.setIfInBounds_toArray, List.set_cons_zero, List.set_cons_succ, i64_w, i32_w]
                              rfl
                            refine take_ (i := 15) (N := some 96) (v := ?_) (a' := ?_) #[true, true, true, true, true, true, true, true, true, true, true, true, true, true, true, true, true, false, false, false, true, false, false, false, false, false, false, false, false, false, false, false, false, false, false, false, false, false, false, false, false, false, false, false] rfl rfl (take_ofW HT_.out HW_.out (by kernel_rfl)) (fun _ _ _ h => h) (Or.inl ⟨by rfl, ?_⟩) hHeld ?_ ?_
                            rotate_left
                            · rintro w' ⟨s0, s1, s2, s3, s4, s5, s6, s7, s8⟩
                              go_simp
                              with_reducible rfl
                            rotate_left
                            · simp only [Act.put, List.setIfInBounds_toArray, List.set_cons_zero, List.set_cons_succ, i64_w, i32_w]
                              rfl
                            refine pure_ (i := 17) (N := some 98) (v := ?_) (a' := ?_) #[true, true, true, true, true, true, true, true, true, true, true, true, true, true, true, true, true, true, false, false, true, false, false, false, false, false, false, false, false, false, false, false, false, false, false, false, false, false, false, false, false, false, false, false] rfl rfl (any_of HT_.out (by kernel_rfl)) (fun _ _ _ h => h) (Or.inl ⟨by rfl, ?_⟩) ?_ ?_
                            rotate_left
                            · intro w'
                              go_simp
                              with_reducible rfl
                            rotate_left
                            · simp only [Act.put, List.setIfInBounds_toArray, List.set_cons_zero, List.set_cons_succ, i64_w, i32_w]
                              rfl
                            refine take_ (i := 18) (N := some 99) (v := ?_) (a' := ?_) #[true, true, true, true, true, true, true, true, true, true, true, true, true, true, true, true, true, true, true, false, true, false, false, false, false, false, false, false, false, false, false, false, false, false, false, false, false, false, false, false, false, false, false, false] rfl rfl (take_ofW HT_.out HW_.out (by kernel_rfl)) (fun _ _ _ h => h) (Or.inl ⟨by rfl, ?_⟩) hHeld ?_ ?_
                            rotate_left
                            · rintro w' ⟨s0, s1, s2, s3, s4, s5, s6, s7, s8⟩
                              go_simp
                              with_reducible rfl
                            rotate_left
                            · simp only [Act.put, List.setIfInBounds_toArray, List.set_cons_zero, List.set_cons_succ, i64_w, i32_w]
                              rfl
                            refine pure_ (i := 19) (N := some 100) (v := ?_) (a' := ?_) #[true, true, true, true, true, true, true, true, true, true, true, true, true, true, true, true, true, true, true, true, true, false, false, false, false, false, false, false, false, false, false, false, false, false, false, false, false, false, false, false, false, false, false, false] rfl rfl (any_of HT_.out (by kernel_rfl)) (fun _ _ _ h => h) (Or.inl ⟨by rfl, ?_⟩) ?_ ?_
                            rotate_left
                            · intro w'
                              go_simp
                              with_reducible rfl
                            rotate_left
                            · simp only [Act.put, List.setIfInBounds_toArray, List.set_cons_zero, List.set_cons_succ, i64_w, i32_w]
                              rfl
                            refine pure_ (i := 21) (N := some 102) (v := ?_) (a' := ?_) #[true, true, true, true, true, true, true, true, true, true, true, true, true, true, true, true, true, true, true, true, true, true, false, false, false, false, false, false, false, false, false, false, false, false, false, false, false, false, false, false, false, false, false, false] rfl rfl (any_of HT_.out (by kernel_rfl)) (fun _ _ _ h => h) (Or.inl ⟨by rfl, ?_⟩) ?_ ?_
                            rotate_left
                            · intro w'
                              go_simp
                              with_reducible rfl
                            rotate_left
                            · simp only [Act.put, List.setIfInBounds_toArray, List.set_cons_zero, List.set_cons_succ, i64_w, i32_w]
                              rfl
                            refine pure_ (i := 22) (N := some 103) (v := ?_) (a' := ?_) #[true, true, true, true, true, true, true, true, true, true, true, true, true, true, true, true, true, true, true, true, true, true, true, false, false, false, false, false, false, false, false, false, false, false, false, false, false, false, false, false, false, false, false, false] rfl rfl (any_of HT_.out (by kernel_rfl)) (fun _ _ _ h => h) (Or.inl ⟨by rfl, ?_⟩) ?_ ?_
                            rotate_left
                            · intro w'
                              go_simp
                              with_reducible rfl
                            rotate_left
                            · simp only [Act.put, List.setIfInBounds_toArray, List.set_cons_zero, List.set_cons_succ, i64_w, i32_w]
                              rfl
                            refine pure_ (i := 23) (N := some 104) (v := ?_) (a' := ?_) #[true, true, true, true, true, true, true, true, true, true, true, true, true, true, true, true, true, true, true, true, true, true, true, true, false, false, false, false, false, false, false, false, false, false, false, false, false, false, false, false, false, false, false, false] rfl rfl (any_of HT_.out (by kernel_rfl)) (fun _ _ _ h => h) (Or.inl ⟨by rfl, ?_⟩) ?_ ?_
                            rotate_left
                            · intro w'
                              go_simp
                              with_reducible rfl
                            rotate_left
                            · simp only [Act.put, List.setIfInBounds_toArray, List.set_cons_zero, List.set_cons_succ, i64_w, i32_w]
                              rfl
                            refine pure_ (i := 24) (N := some 105) (v := undef) (a' := ?_) #[true, true, true, true, true, true, true, true, true, true, true, true, true, true, true, true, true, true, true, true, true, true, true, true, true, false, false, false, false, false, false, false, false, false, false, false, false, false, false, false, false, false, false, false] rfl rfl (any_of HT_.out (by kernel_rfl)) (fun _ _ _ h => h) (Or.inr ⟨by rfl, rfl⟩) ?_ ?_
                            rotate_left
                            · simp only [Act.put, List.setIfInBounds_toArray, List.set_cons_zero, List.set_cons_succ, i64_w, i32_w]
                              rfl
                            refine pure_ (i := 25) (N := some 106) (v := undef) (a' := ?_) #[true, true, true, true, true, true, true, true, true, true, true, true, true, true, true, true, true, true, true, true, true, true, true, true, true, true, false, false, false, false, false, false, false, false, false, false, false, false, false, false, false, false, false, false] rfl rfl (any_of HT_.out (by kernel_rfl)) (fun _ _ _ h => h) (Or.inr ⟨by rfl, rfl⟩) ?_ ?_
                            rotate_left
                            · simp only [Act.put, List.setIfInBounds_toArray, List.set_cons_zero, List.set_cons_succ, i64_w, i32_w]
                              rfl
                            refine pure_ (i := 26) (N := some 107) (v := undef) (a' := ?_) #[true, true, true, true, true, true, true, true, true, true, true, true, true, true, true, true, true, true, true, true, true, true, true, true, true, true, true, false, false, false, false, false, false, false, false, false, false, false, false, false, false, false, false, false] rfl rfl (any_of HT_.out (by kernel_rfl)) (fun _ _ _ h => h) (Or.inr ⟨by rfl, rfl⟩) ?_ ?_
                            rotate_left
                            · simp only [Act.put, List.setIfInBounds_toArray, List.set_cons_zero, List.set_cons_succ, i64_w, i32_w]
                              rfl
                            refine pure_ (i := 27) (N := some 108) (v := undef) (a' := ?_) #[true, true, true, true, true, true, true, true, true, true, true, true, true, true, true, true, true, true, true, true, true, true, true, true, true, true, true, true, false, false, false, false, false, false, false, false, false, false, false, false, false, false, false, false] rfl rfl (any_of HT_.out (by kernel_rfl)) (fun _ _ _ h => h) (Or.inr ⟨by rfl, rfl⟩) ?_ ?_
                            rotate_left
                            · simp only [Act.put, List.setIfInBounds_toArray, List.set_cons_zero, List.set_cons_succ, i64_w, i32_w]
                              rfl
                            refine pure_ (i := 28) (N := some 109) (v := undef) (a' := ?_) #[true, true, true, true, true, true, true, true, true, true, true, true, true, true, true, true, true, true, true, true, true, true, true, true, true, true, true, true, true, false, false, false, false, false, false, false, false, false, false, false, false, false, false, false] rfl rfl (any_of HT_.out (by kernel_rfl)) (fun _ _ _ h => h) (Or.inr ⟨by rfl, rfl⟩) ?_ ?_
                            rotate_left
                            · simp only [Act.put, List.setIfInBounds_toArray, List.set_cons_zero, List.set_cons_succ, i64_w, i32_w]
                              rfl
                            refine pure_ (i := 29) (N := some 110) (v := undef) (a' := ?_) #[true, true, true, true, true, true, true, true, true, true, true, true, true, true, true, true, true, true, true, true, true, true, true, true, true, true, true, true, true, true, false, false, false, false, false, false, false, false, false, false, false, false, false, false] rfl rfl (any_of HT_.out (by kernel_rfl)) (fun _ _ _ h => h) (Or.inr ⟨by rfl, rfl⟩) ?_ ?_
                            rotate_left
                            · simp only [Act.put, List.setIfInBounds_toArray, List.set_cons_zero, List.set_cons_succ, i64_w, i32_w]
                              rfl
                            refine pure_ (i := 30) (N := some 111) (v := undef) (a' := ?_) #[true, true, true, true, true, true, true, true, true, true, true, true, true, true, true, true, true, true, true, true, true, true, true, true, true, true, true, true, true, true, true, false, false, false, false, false, false, false, false, false, false, false, false, false] rfl rfl (any_of HT_.out (by kernel_rfl)) (fun _ _ _ h => h) (Or.inr ⟨by rfl, rfl⟩) ?_ ?_
                            rotate_left
                            · simp only [Act.put, List.setIfInBounds_toArray, List.set_cons_zero, List.set_cons_succ, i64_w, i32_w]
                              rfl
                            refine pure_ (i := 31) (N := some 112) (v := undef) (a' := ?_) #[true, true, true, true, true, true, true, true, true, true, true, true, true, true, true, true, true, true, true, true, true, true, true, true, true, true, true, true, true, true, true, true, false, false, false, false, false, false, false, false, false, false, false, false] rfl rfl (any_of HT_.out (by kernel_rfl)) (fun _ _ _ h => h) (Or.inr ⟨by rfl, rfl⟩) ?_ ?_
                            rotate_left
                            · simp only [Act.put, List.setIfInBounds_toArray, List.set_cons_zero, List.set_cons_succ, i64_w, i32_w]
                              rfl
                            refine pure_ (i := 32) (N := some 113) (v := undef) (a' := ?_) #[true, true, true, true, true, true, true, true, true, true, true, true, true, true, true, true, true, true, true, true, true, true, true, true, true, true, true, true, true, true, true, true, true, false, false, false, false, false, false, false, false, false, false, false] rfl rfl (any_of HT_.out (by kernel_rfl)) (fun _ _ _ h => h) (Or.inr ⟨by rfl, rfl⟩) ?_ ?_
                            rotate_left
                            · simp only [Act.put, List.setIfInBounds_toArray, List.set_cons_zero, List.set_cons_succ, i64_w, i32_w]
                              rfl
                            refine pure_ (i := 33) (N := some 114) (v := undef) (a' := ?_) #[true, true, true, true, true, true, true, true, true, true, true, true, true, true, true, true, true, true, true, true, true, true, true, true, true, true, true, true, true, true, true, true, true, true, false, false, false, false, false, false, false, false, false, false] rfl rfl (any_of HT_.out (by kernel_rfl)) (fun _ _ _ h => h) (Or.inr ⟨by rfl, rfl⟩) ?_ ?_
                            rotate_left
                            · simp only [Act.put, List.setIfInBounds_toArray, List.set_cons_zero, List.set_cons_succ, i64_w, i32_w]
                              rfl
                            refine pure_ (i := 34) (N := some 115) (v := undef) (a' := ?_) #[true, true, true, true, true, true, true, true, true, true, true, true, true, true, true, true, true, true, true, true, true, true, true, true, true, true, true, true, true, true, true, true, true, true, true, false, false, false, false, false, false, false, false, false] rfl rfl (any_of HT_.out (by kernel_rfl)) (fun _ _ _ h => h) (Or.inr ⟨by rfl, rfl⟩) ?_ ?_
                            rotate_left
                            · simp only [Act.put, List.setIfInBounds_toArray, List.set_cons_zero, List.set_cons_succ, i64_w, i32_w]
                              rfl
                            refine pure_ (i := 35) (N := some 116) (v := undef) (a' := ?_) #[true, true, true, true, true, true, true, true, true, true, true, true, true, true, true, true, true, true, true, true, true, true, true, true, true, true, true, true, true, true, true, true, true, true, true, true, false, false, false, false, false, false, false, false] rfl rfl (any_of HT_.out (by kernel_rfl)) (fun _ _ _ h => h) (Or.inr ⟨by rfl, rfl⟩) ?_ ?_
                            rotate_left
                            · simp only [Act.put, List.setIfInBounds_toArray, List.set_cons_zero, List.set_cons_succ, i64_w, i32_w]
                              rfl
                            refine pure_ (i := 36) (N := some 117) (v := undef) (a' := ?_) #[true, true, true, true, true, true, true, true, true, true, true, true, true, true, true, true, true, true, true, true, true, true, true, true, true, true, true, true, true, true, true, true, true, true, true, true, true, false, false, false, false, false, false, false] rfl rfl (any_of HT_.out (by kernel_rfl)) (fun _ _ _ h => h) (Or.inr ⟨by rfl, rfl⟩) ?_ ?_
                            rotate_left
                            · simp only [Act.put, List.setIfInBounds_toArray, List.set_cons_zero, List.set_cons_succ, i64_w, i32_w]
                              rfl
                            refine pure_ (i := 37) (N := some 118) (v := undef) (a' := ?_) #[true, true, true, true, true, true, true, true, true, true, true, true, true, true, true, true, true, true, true, true, true, true, true, true, true, true, true, true, true, true, true, true, true, true, true, true, true, true, false, false, false, false, false, false] rfl rfl (any_of HT_.out (by kernel_rfl)) (fun _ _ _ h => h) (Or.inr ⟨by rfl, rfl⟩) ?_ ?_
                            rotate_left
                            · simp only [Act.put, List.setIfInBounds_toArray, List.set_cons_zero, List.set_cons_succ, i64_w, i32_w]
                              rfl
                            refine pure_ (i := 38) (N := some 119) (v := undef) (a' := ?_) #[true, true, true, true, true, true, true, true, true, true, true, true, true, true, true, true, true, true, true, true, true, true, true, true, true, true, true, true, true, true, true, true, true, true, true, true, true, true, true, false, false, false, false, false] rfl rfl (any_of HT_.out (by kernel_rfl)) (fun _ _ _ h => h) (Or.inr ⟨by rfl, rfl⟩) ?_ ?_
                            rotate_left
                            · simp only [Act.put, List.setIfInBounds_toArray, List.set_cons_zero, List.set_cons_succ, i64_w, i32_w]
                              rfl
                            refine pure_ (i := 39) (N := some 120) (v := undef) (a' := ?_) #[true, true, true, true, true, true, true, true, true, true, true, true, true, true, true, true, true, true, true, true, true, true, true, true, true, true, true, true, true, true, true, true, true, true, true, true, true, true, true, true, false, false, false, false] rfl rfl (any_of HT_.out (by kernel_rfl)) (fun _ _ _ h => h) (Or.inr ⟨by rfl, rfl⟩) ?_ ?_
                            rotate_left
                            · simp only [Act.put, List.setIfInBounds_toArray, List.set_cons_zero, List.set_cons_succ, i64_w, i32_w]
                              rfl
                            refine pure_ (i := 40) (N := some 121) (v := undef) (a' := ?_) #[true, true, true, true, true, true, true, true, true, true, true, true, true, true, true, true, true, true, true, true, true, true, true, true, true, true, true, true, true, true, true, true, true, true, true, true, true, true, true, true, true, false, false, false] rfl rfl (any_of HT_.out (by kernel_rfl)) (fun _ _ _ h => h) (Or.inr ⟨by rfl, rfl⟩) ?_ ?_
                            rotate_left
                            · simp only [Act.put, List.setIfInBounds_toArray, List.set_cons_zero, List.set_cons_succ, i64_w, i32_w]
                              rfl
                            refine pure_ (i := 41) (N := some 122) (v := undef) (a' := ?_) #[true, true, true, true, true, true, true, true, true, true, true, true, true, true, true, true, true, true, true, true, true, true, true, true, true, true, true, true, true, true, true, true, true, true, true, true, true, true, true, true, true, true, false, false] rfl rfl (any_of HT_.out (by kernel_rfl)) (fun _ _ _ h => h) (Or.inr ⟨by rfl, rfl⟩) ?_ ?_
                            rotate_left
                            · simp only [Act.put, List.setIfInBounds_toArray, List.set_cons_zero, List.set_cons_succ, i64_w, i32_w]
                              rfl
                            refine pure_ (i := 42) (N := some 123) (v := undef) (a' := ?_) #[true, true, true, true, true, true, true, true, true, true, true, true, true, true, true, true, true, true, true, true, true, true, true, true, true, true, true, true, true, true, true, true, true, true, true, true, true, true, true, true, true, true, true, false] rfl rfl (any_of HT_.out (by kernel_rfl)) (fun _ _ _ h => h) (Or.inr ⟨by rfl, rfl⟩) ?_ ?_
                            rotate_left
                            · simp only [Act.put, List.setIfInBounds_toArray, List.set_cons_zero, List.set_cons_succ, i64_w, i32_w]
                              rfl
                            refine pure_ (i := 43) (N := some 124) (v := ?_) (a' := ?_) #[true, true, true, true, true, true, true, true, true, true, true, true, true, true, true, true, true, true, true, true, true, true, true, true, true, true, true, true, true, true, true, true, true, true, true, true, true, true, true, true, true, true, true, true] rfl rfl (any_of HT_.out (by kernel_rfl)) (fun _ _ _ h => h) (Or.inl ⟨by rfl, ?_⟩) ?_ ?_
                            rotate_left
                            · intro w'
                              go_simp
                              with_reducible rfl
                            rotate_left
                            · simp only [Act.put, List.setIfInBounds_toArray, List.set_cons_zero, List.set_cons_succ, i64_w, i32_w]
                              rfl
                            refine done_ (done_of HT_.out (by kernel_rfl)) ?_
                            try go_wp2
                            go_ret
                            exact ⟨by first | rfl | (simp [errW_none, errW_some] <;> rfl) | (simp only [← hji14, ← hji16, ← hji17]; first | rfl | (simp [errW_none, errW_some] <;> rfl)) | (simp [*, errW_none, errW_some] <;> rfl), by repeat (first | (with_reducible first | exact HB.out | apply below_alloc | apply pw_below_drewN | apply below_drew1 | refine below_set ?_ GE569.out | refine below_set ?_ GE578.out) | exact HB.out)⟩
                          · rw [if_neg c44] at H
                            have c44b0 : decide ((wrap64 (1 + (Int.tmod (wrap64 (ji14)) 50))) < ((rd_L2 t565 x17_3).length : Int)) = false := decide_eq_false c44
                            clear c44
                            by_cases c48 : 0 ≤ ((rd_L2 t565 x17_3).length : Int)
                            · rw [if_pos c48] at H
                              have c48b0 := eq_true c48
                              have c48b1 : decide (0 ≤ ((rd_L2 t565 x17_3).length : Int)) = true := decide_eq_true c48
                              clear c48
                              by_cases c49 : ((rd_L2 t565 x17_3).length : Int) ≤ ((rd_L2 t574 x17_3).length : Int)
                              · rw [if_pos c49] at H
                                have c49b0 := eq_true c49
                                have c49b1 : decide (((rd_L2 t565 x17_3).length : Int) ≤ ((rd_L2 t574 x17_3).length : Int)) = true := decide_eq_true c49
                                clear c49
                                obtain ⟨y586, hy586⟩ : ∃ y_ : List (List Int), y_ = ((rd_L2 t574 x17_3).take (((rd_L2 t565 x17_3).length : Int) : Int).toNat) := ⟨_, rfl⟩
                                replace H : ((antiquaryref08_SameRows.f k3 (rd_L2 t565 x17_3) y586).bind fun t590 => (if t590 = true then (antiquarylaw08_CodeTrainingCovers.l0 k3 l0 a4 (wrap64 (1 + (Int.tmod (wrap64 (ji14)) 50))) (wrap64 (x17_3 + 1)) t561 t562 t565 t570 t571 t574) else (some false))) = some r := by first | (rw [hy586]; with_reducible exact H) | (have H2_ := (Option.bind_some _ _).symm.trans H; rw [hy586]; with_reducible exact H2_) | (have H2_ := (Option.bind_some _ _).symm.trans H; with_reducible exact H2_) | with_reducible exact H | (rw [hy586]; exact H) | exact H
                                have Ny586 := Aside0.mk hy586
                                clear hy586
                                replace H := Option.bind_eq_some_iff.mp H
                                obtain ⟨t590, A500, H⟩ := H
                                replace H : (if t590 = true then (antiquarylaw08_CodeTrainingCovers.l0 k3 l0 a4 (wrap64 (1 + (Int.tmod (wrap64 (ji14)) 50))) (wrap64 (x17_3 + 1)) t561 t562 t565 t570 t571 t574) else (some false)) = some r := H
                                have A50 := Aside0.mk A500
                                clear A500
                                by_cases c51 : t590 = true
                                · subst c51
                                  have H1 : (antiquarylaw08_CodeTrainingCovers.l0 k3 l0 a4 (wrap64 (1 + (Int.tmod (wrap64 (ji14)) 50))) (wrap64 (x17_3 + 1)) t561 t562 t565 t570 t571 t574) = some r := by rw [if_pos rfl] at H; exact H
                                  clear H
                                  have H := H1
                                  clear H1
                                  have H' := Aside0.mk H
                                  clear H
                                  have hnb52 := NB569_578.out
                                  have hnc52 := NB578_569.out
                                  have hcz53_0 : wr.cell? ⟨gb569, 0, none⟩ = some (.int .i64 t561) := (blk_cell BK569.out 0).trans rfl
                                  have hcz53_1 : wr.cell? ⟨gb569, 1, none⟩ = some (.slice Ao23 t562.length co23) := (blk_cell BK569.out 1).trans rfl
                                  have hcz53_2 : wr.cell? ⟨gb569, 2, none⟩ = some (.slice Ao24 t565.length co24) := (blk_cell BK569.out 2).trans rfl
                                  have hfz53_0 := blk_frozen BK569.out 0
                                  have hfz53_1 := blk_frozen BK569.out 1
                                  have hfz53_2 := blk_frozen BK569.out 2
                                  try go_wp2
                                  have n0_ := Aside0.mk (Kd.R_drew HO_570001.out)
                                  have n1_ := Aside0.mk (Kd.R_drew HO_570002.out)
                                  have n2_ := Aside0.mk (Kd.R_drew HO_579001.out)
                                  have n3_ := Aside0.mk (Kd.R_drew HO_579002.out)
                                  have n4_ := Aside0.mk (blk_drew BK569.out)
                                  have n5_ := Aside0.mk (blk_drew BK578.out)
                                  have n6_ := Aside0.mk (below_drew1 HB.out)
                                  clear HO_570001
                                  clear HO_570002
                                  clear HO_579001
                                  clear HO_579002
                                  clear BK569
                                  clear BK578
                                  clear HB
                                  have HO_570001 := n0_
                                  have HO_570002 := n1_
                                  have HO_579001 := n2_
                                  have HO_579002 := n3_
                                  have BK569 := n4_
                                  have BK578 := n5_
                                  have HB := n6_
                                  clear n0_ n1_ n2_ n3_ n4_ n5_ n6_
                                  have p580 : 0 ≤ (x17_3 : Int) := of_decide_eq_true (by first | (with_reducible assumption) | assumption)
                                  have q580 : x17_3 < (t565.length : Int) := of_decide_eq_true (by first | (with_reducible assumption) | assumption)
                                  obtain ⟨ad580, A580_0, c580_0, e580, hx580_0, hl580_0, hi580_0⟩ := at_L2 (Kd.R_reads' HO_570002.out).2.2 x17_3 p580 q580
                                  cases e580
                                  obtain ⟨ce580, hce580, hMe580, hcc580⟩ := Kd.R_get HO_570002.out [] x17_3 p580 (by first | exact q580 | exact of_decide_eq_true (by first | (with_reducible assumption) | assumption) | (have e_ := (Kd.R_reads' HO_570002.out).1; omega))
                                  obtain ⟨ve580_0, rfl, ge580_0⟩ := hMe580
                                  have hv580_0 := hcc580 0 _ rfl
                                  rw [Nat.add_zero, show ((Kd.slice 22 (Kd.slice 3 (Kd.int .i64)))).sz = 1 from rfl, Nat.mul_one] at hv580_0
                                  replace hv580_0 := Option.some.inj (hv580_0.symm.trans hx580_0)
                                  rw [hv580_0] at ge580_0
                                  have HL580_0 := Aside0.mk (show Kd.R (Kd.slice 3 (Kd.int .i64)) 22 _ _ _ _ (rd_L2 t565 x17_3) from ge580_0)
                                  clear hv580_0 ge580_0
                                  clear hcc580 hce580
                                  have HR580_0 := Aside0.mk hi580_0
                                  have HC580_0 := Aside0.mk hl580_0
                                  clear hi580_0 hl580_0
                                  replace p580 := eq_true p580
                                  replace q580 := eq_true q580
                                  have p581 : 0 ≤ (x17_3 : Int) := of_decide_eq_true (by first | (with_reducible assumption) | assumption)
                                  have q581 : x17_3 < (t574.length : Int) := of_decide_eq_true (by first | (with_reducible assumption) | assumption)
                                  obtain ⟨ad581, A581_0, c581_0, e581, hx581_0, hl581_0, hi581_0⟩ := at_L2 (Kd.R_reads' HO_579002.out).2.2 x17_3 p581 q581
                                  cases e581
                                  obtain ⟨ce581, hce581, hMe581, hcc581⟩ := Kd.R_get HO_579002.out [] x17_3 p581 (by first | exact q581 | exact of_decide_eq_true (by first | (with_reducible assumption) | assumption) | (have e_ := (Kd.R_reads' HO_579002.out).1; omega))
                                  obtain ⟨ve581_0, rfl, ge581_0⟩ := hMe581
                                  have hv581_0 := hcc581 0 _ rfl
                                  rw [Nat.add_zero, show ((Kd.slice 22 (Kd.slice 3 (Kd.int .i64)))).sz = 1 from rfl, Nat.mul_one] at hv581_0
                                  replace hv581_0 := Option.some.inj (hv581_0.symm.trans hx581_0)
                                  rw [hv581_0] at ge581_0
                                  have HL581_0 := Aside0.mk (show Kd.R (Kd.slice 3 (Kd.int .i64)) 22 _ _ _ _ (rd_L2 t574 x17_3) from ge581_0)
                                  clear hv581_0 ge581_0
                                  clear hcc581 hce581
                                  have HR581_0 := Aside0.mk hi581_0
                                  have HC581_0 := Aside0.mk hl581_0
                                  clear hi581_0 hl581_0
                                  replace p581 := eq_true p581
                                  replace q581 := eq_true q581
                                  have p582 : 0 ≤ (x17_3 : Int) := of_decide_eq_true (by first | (with_reducible assumption) | assumption)
                                  have q582 : x17_3 < (t565.length : Int) := of_decide_eq_true (by first | (with_reducible assumption) | assumption)
                                  obtain ⟨ad582, A582_0, c582_0, e582, hx582_0, hl582_0, hi582_0⟩ := at_L2 (Kd.R_reads' HO_570002.out).2.2 x17_3 p582 q582
                                  obtain rfl : ad580 = ad582 := (by injection e582)
                                  obtain ⟨ce582, hce582, hMe582, hcc582⟩ := Kd.R_get HO_570002.out [] x17_3 p582 (by first | exact q582 | exact of_decide_eq_true (by first | (with_reducible assumption) | assumption) | (have e_ := (Kd.R_reads' HO_570002.out).1; omega))
                                  obtain ⟨ve582_0, rfl, ge582_0⟩ := hMe582
                                  have hv582_0 := hcc582 0 _ rfl
                                  rw [Nat.add_zero, show ((Kd.slice 22 (Kd.slice 3 (Kd.int .i64)))).sz = 1 from rfl, Nat.mul_one] at hv582_0
                                  replace hv582_0 := Option.some.inj (hv582_0.symm.trans hx582_0)
                                  rw [hv582_0] at ge582_0
                                  have HL582_0 := Aside0.mk (show Kd.R (Kd.slice 3 (Kd.int .i64)) 22 _ _ _ _ (rd_L2 t565 x17_3) from ge582_0)
                                  clear hv582_0 ge582_0
                                  clear hcc582 hce582
                                  have HR582_0 := Aside0.mk hi582_0
                                  have HC582_0 := Aside0.mk hl582_0
                                  clear hi582_0 hl582_0
                                  replace p582 := eq_true p582
                                  replace q582 := eq_true q582
                                  have ea_ := Option.some.inj (hx580_0.symm.trans hx582_0)
                                  injection ea_ with ea_ en_ ec_
                                  subst ea_
                                  subst ec_
                                  clear en_
                                  have p583 : 0 ≤ (x17_3 : Int) := of_decide_eq_true (by first | (with_reducible assumption) | assumption)
                                  have q583 : x17_3 < (t565.length : Int) := of_decide_eq_true (by first | (with_reducible assumption) | assumption)
                                  obtain ⟨ad583, A583_0, c583_0, e583, hx583_0, hl583_0, hi583_0⟩ := at_L2 (Kd.R_reads' HO_570002.out).2.2 x17_3 p583 q583
                                  obtain rfl : ad580 = ad583 := (by injection e583)
                                  obtain ⟨ce583, hce583, hMe583, hcc583⟩ := Kd.R_get HO_570002.out [] x17_3 p583 (by first | exact q583 | exact of_decide_eq_true (by first | (with_reducible assumption) | assumption) | (have e_ := (Kd.R_reads' HO_570002.out).1; omega))
                                  obtain ⟨ve583_0, rfl, ge583_0⟩ := hMe583
                                  have hv583_0 := hcc583 0 _ rfl
                                  rw [Nat.add_zero, show ((Kd.slice 22 (Kd.slice 3 (Kd.int .i64)))).sz = 1 from rfl, Nat.mul_one] at hv583_0
                                  replace hv583_0 := Option.some.inj (hv583_0.symm.trans hx583_0)
                                  rw [hv583_0] at ge583_0
                                  have HL583_0 := Aside0.mk (show Kd.R (Kd.slice 3 (Kd.int .i64)) 22 _ _ _ _ (rd_L2 t565 x17_3) from ge583_0)
                                  clear hv583_0 ge583_0
                                  clear hcc583 hce583
                                  have HR583_0 := Aside0.mk hi583_0
                                  have HC583_0 := Aside0.mk hl583_0
                                  clear hi583_0 hl583_0
                                  replace p583 := eq_true p583
                                  replace q583 := eq_true q583
                                  have ea_ := Option.some.inj (hx580_0.symm.trans hx583_0)
                                  injection ea_ with ea_ en_ ec_
                                  subst ea_
                                  subst ec_
                                  clear en_
                                  have p584 : 0 ≤ (x17_3 : Int) := of_decide_eq_true (by first | (with_reducible assumption) | assumption)
                                  have q584 : x17_3 < (t574.length : Int) := of_decide_eq_true (by first | (with_reducible assumption) | assumption)
                                  obtain ⟨ad584, A584_0, c584_0, e584, hx584_0, hl584_0, hi584_0⟩ := at_L2 (Kd.R_reads' HO_579002.out).2.2 x17_3 p584 q584
                                  obtain rfl : ad581 = ad584 := (by injection e584)
                                  obtain ⟨ce584, hce584, hMe584, hcc584⟩ := Kd.R_get HO_579002.out [] x17_3 p584 (by first | exact q584 | exact of_decide_eq_true (by first | (with_reducible assumption) | assumption) | (have e_ := (Kd.R_reads' HO_579002.out).1; omega))
                                  obtain ⟨ve584_0, rfl, ge584_0⟩ := hMe584
                                  have hv584_0 := hcc584 0 _ rfl
                                  rw [Nat.add_zero, show ((Kd.slice 22 (Kd.slice 3 (Kd.int .i64)))).sz = 1 from rfl, Nat.mul_one] at hv584_0
                                  replace hv584_0 := Option.some.inj (hv584_0.symm.trans hx584_0)
                                  rw [hv584_0] at ge584_0
                                  have HL584_0 := Aside0.mk (show Kd.R (Kd.slice 3 (Kd.int .i64)) 22 _ _ _ _ (rd_L2 t574 x17_3) from ge584_0)
                                  clear hv584_0 ge584_0
                                  clear hcc584 hce584
                                  have HR584_0 := Aside0.mk hi584_0
                                  have HC584_0 := Aside0.mk hl584_0
                                  clear hi584_0 hl584_0
                                  replace p584 := eq_true p584
                                  replace q584 := eq_true q584
                                  have ea_ := Option.some.inj (hx581_0.symm.trans hx584_0)
                                  injection ea_ with ea_ en_ ec_
                                  subst ea_
                                  subst ec_
                                  clear en_
                                  have p585 : 0 ≤ (x17_3 : Int) := of_decide_eq_true (by first | (with_reducible assumption) | assumption)
                                  have q585 : x17_3 < (t565.length : Int) := of_decide_eq_true (by first | (with_reducible assumption) | assumption)
                                  obtain ⟨ad585, A585_0, c585_0, e585, hx585_0, hl585_0, hi585_0⟩ := at_L2 (Kd.R_reads' HO_570002.out).2.2 x17_3 p585 q585
                                  obtain rfl : ad580 = ad585 := (by injection e585)
                                  obtain ⟨ce585, hce585, hMe585, hcc585⟩ := Kd.R_get HO_570002.out [] x17_3 p585 (by first | exact q585 | exact of_decide_eq_true (by first | (with_reducible assumption) | assumption) | (have e_ := (Kd.R_reads' HO_570002.out).1; omega))
                                  obtain ⟨ve585_0, rfl, ge585_0⟩ := hMe585
                                  have hv585_0 := hcc585 0 _ rfl
                                  rw [Nat.add_zero, show ((Kd.slice 22 (Kd.slice 3 (Kd.int .i64)))).sz = 1 from rfl, Nat.mul_one] at hv585_0
                                  replace hv585_0 := Option.some.inj (hv585_0.symm.trans hx585_0)
                                  rw [hv585_0] at ge585_0
                                  have HL585_0 := Aside0.mk (show Kd.R (Kd.slice 3 (Kd.int .i64)) 22 _ _ _ _ (rd_L2 t565 x17_3) from ge585_0)
                                  clear hv585_0 ge585_0
                                  clear hcc585 hce585
                                  have HR585_0 := Aside0.mk hi585_0
                                  have HC585_0 := Aside0.mk hl585_0
                                  clear hi585_0 hl585_0
                                  replace p585 := eq_true p585
                                  replace q585 := eq_true q585
                                  have ea_ := Option.some.inj (hx580_0.symm.trans hx585_0)
                                  injection ea_ with ea_ en_ ec_
                                  subst ea_
                                  subst ec_
                                  clear en_
                                  have q55 : (((rd_L2 t565 x17_3).length : Int) : Int) ≤ (((rd_L2 t574 x17_3).length : Int) : Int) := of_decide_eq_true (by first | (with_reducible assumption) | assumption)
                                  obtain ⟨i055, hi055, _, hsz55, _⟩ := info_parts info22
                                  have hroom55 : (rd_L2 t574 x17_3).length ≤ c581_0 := HC584_0.out
                                  have hC55 : Kd.C (Kd.slice 3 (Kd.int .i64)) _ A581_0 (rd_L2 t574 x17_3).length (rd_L2 t574 x17_3) := (by repeat (first | (with_reducible exact HR584_0.out) | (with_reducible refine Kd.C_alloc ?_ _) | (with_reducible refine Kd.C_drewN ?_ _) | (with_reducible refine Kd.C_drew ?_) | exact HR584_0.out))
                                  have hcut55 := cut_to (P := Try.prog) 39 22 .i64 Try.underlying39 hi055 A581_0 (rd_L2 t574 x17_3).length c581_0 ((rd_L2 t565 x17_3).length : Int) (of_decide_eq_true (by first | (with_reducible assumption) | assumption)) q55 hroom55
                                  have hr55 := Kd.C_take (m := (((rd_L2 t565 x17_3).length : Int) : Int).toNat) hC55 (by omega)
                                  have hy55 : y586.length = (((rd_L2 t565 x17_3).length : Int) : Int).toNat := (by rw [Ny586.out, List.length_take]; omega)
                                  rw [← Ny586.out] at hr55
                                  rw [← hy55] at hcut55
                                  have HR589 := Aside0.mk hr55
                                  have HC589 := Aside0.mk (show y586.length ≤ c581_0 from by omega)
                                  clear hr55 hC55 hroom55 hi055 hsz55
                                  have KY55 := Aside0.mk hy55
                                  clear hy55
                                  replace q55 := eq_true q55
                                  refine start_ (n := 44) (S := fun w' => w'.cell? ⟨gb569, 0, none⟩ = some (.int .i64 t561) ∧ w'.cell? ⟨gb569, 1, none⟩ = some (.slice Ao23 t562.length co23) ∧ w'.cell? ⟨gb569, 2, none⟩ = some (.slice (some ad580) t565.length co24) ∧ w'.cell? ⟨gb578, 0, none⟩ = some (.int .i64 t570) ∧ w'.cell? ⟨gb578, 1, none⟩ = some (.slice Ao29 t571.length co29) ∧ w'.cell? ⟨gb578, 2, none⟩ = some (.slice (some ad581) t574.length co30) ∧ w'.cell? (ad580.add (x17_3).toNat) = some (.slice A580_0 (rd_L2 t565 x17_3).length c580_0) ∧ w'.cell? (ad581.add (x17_3).toNat) = some (.slice A581_0 (rd_L2 t574 x17_3).length c581_0) ∧ w'.cell? (ad580.add (x17_3).toNat) = some (.slice A580_0 (rd_L2 t565 x17_3).length c580_0) ∧ w'.cell? (ad580.add (x17_3).toNat) = some (.slice A580_0 (rd_L2 t565 x17_3).length c580_0) ∧ w'.cell? (ad581.add (x17_3).toNat) = some (.slice A581_0 (rd_L2 t574 x17_3).length c581_0) ∧ w'.cell? (ad580.add (x17_3).toNat) = some (.slice A580_0 (rd_L2 t565 x17_3).length c580_0)) (ds := []) #[false, false, false, false, false, false, false, false, false, false, false, false, false, false, false, false, false, false, false, false, false, false, false, false, false, false, false, false, false, false, false, false, false, false, false, false, false, false, false, false, false, false, false, false] (by kernel_rfl) rfl rfl ⟨(blk_cell BK569.out 0).trans rfl, (blk_cell BK569.out 1).trans rfl, (blk_cell BK569.out 2).trans rfl, (blk_cell BK578.out 0).trans rfl, (blk_cell BK578.out 1).trans rfl, (blk_cell BK578.out 2).trans rfl, hx580_0, hx581_0, hx582_0, hx583_0, hx584_0, hx585_0⟩ (fun hHeld => ?_); refine with_tabW antiquarylaw08_CodeTrainingCovers.tab12 antiquarylaw08_CodeTrainingCovers.bits12 (fun HT_ HW_ => ?_)
                                  generalize wr.drew = w54 at HO_570001 HO_570002 HO_579001 HO_579002 BK569 BK578 HB HL580_0 HL581_0 HL582_0 HL583_0 HL584_0 HL585_0 HR580_0 HR581_0 HR582_0 HR583_0 HR584_0 HR585_0 HR589 hx580_0 hx581_0 hx582_0 hx583_0 hx584_0 hx585_0 hHeld ⊢
                                  refine pure_ (i := 0) (N := some 81) (v := ?_) (a' := ?_) #[true, false, false, false, false, false, false, false, false, false, false, false, false, false, false, false, false, false, false, false, false, false, false, false, false, false, false, false, false, false, false, false, false, false, false, false, false, false, false, false, false, false, false, false] rfl rfl (any_of HT_.out (by kernel_rfl)) (fun _ _ _ h => h) (Or.inl ⟨by rfl, ?_⟩) ?_ ?_
                                  rotate_left
                                  · intro w'
                                    go_simp
                                    with_reducible rfl
                                  rotate_left
                                  · simp only [Act.put, List.setIfInBounds_toArray, List.set_cons_zero, List.set_cons_succ, i64_w, i32_w]
                                    rfl
                                  refine pure_ (i := 2) (N := some 83) (v := ?_) (a' := ?_) #[true, false, true, false, false, false, false, false, false, false, false, false, false, false, false, false, false, false, false, false, false, false, false, false, false, false, false, false, false, false, false, false, false, false, false, false, false, false, false, false, false, false, false, false] rfl rfl (any_of HT_.out (by kernel_rfl)) (fun _ _ _ h => h) (Or.inl ⟨by rfl, ?_⟩) ?_ ?_
                                  rotate_left
                                  · intro w'
                                    go_simp
                                    with_reducible rfl
                                  rotate_left
                                  · simp only [Act.put, List.setIfInBounds_toArray, List.set_cons_zero, List.set_cons_succ, i64_w, i32_w]
                                    rfl
                                  refine pure_ (i := 6) (N := some 87) (v := ?_) (a' := ?_) #[true, false, true, false, false, false, true, false, false, false, false, false, false, false, false, false, false, false, false, false, false, false, false, false, false, false, false, false, false, false, false, false, false, false, false, false, false, false, false, false, false, false, false, false] rfl rfl (any_of HT_.out (by kernel_rfl)) (fun _ _ _ h => h) (Or.inl ⟨by rfl, ?_⟩) ?_ ?_
                                  rotate_left
                                  · intro w'
                                    go_simp
                                    with_reducible rfl
                                  rotate_left
                                  · simp only [Act.put, List.setIfInBounds_toArray, List.set_cons_zero, List.set_cons_succ, i64_w, i32_w]
                                    rfl
                                  refine pure_ (i := 8) (N := some 89) (v := ?_) (a' := ?_) #[true, false, true, false, false, false, true, false, true, false, false, false, false, false, false, false, false, false, false, false, false, false, false, false, false, false, false, false, false, false, false, false, false, false, false, false, false, false, false, false, false, false, false, false] rfl rfl (any_of HT_.out (by kernel_rfl)) (fun _ _ _ h => h) (Or.inl ⟨by rfl, ?_⟩) ?_ ?_
                                  rotate_left
                                  · intro w'
                                    go_simp
                                    with_reducible rfl
                                  rotate_left
                                  · simp only [Act.put, List.setIfInBounds_toArray, List.set_cons_zero, List.set_cons_succ, i64_w, i32_w]
                                    rfl
                                  refine take_ (i := 1) (N := some 82) (v := ?_) (a' := ?_) #[true, true, true, false, false, false, true, false, true, false, false, false, false, false, false, false, false, false, false, false, false, false, false, false, false, false, false, false, false, false, false, false, false, false, false, false, false, false, false, false, false, false, false, false] rfl rfl (take_ofW HT_.out HW_.out (by kernel_rfl)) (fun _ _ _ h => h) (Or.inl ⟨by rfl, ?_⟩) hHeld ?_ ?_
                                  rotate_left
                                  · rintro w' ⟨s0, s1, s2, s3, s4, s5, s6, s7, s8, s9, s10, s11⟩
                                    go_simp
                                    with_reducible rfl
                                  rotate_left
                                  · simp only [Act.put, List.setIfInBounds_toArray, List.set_cons_zero, List.set_cons_succ, i64_w, i32_w]
                                    rfl
                                  refine pure_ (i := 3) (N := some 84) (v := ?_) (a' := ?_) #[true, true, true, true, false, false, true, false, true, false, false, false, false, false, false, false, false, false, false, false, false, false, false, false, false, false, false, false, false, false, false, false, false, false, false, false, false, false, false, false, false, false, false, false] rfl rfl (any_of HT_.out (by kernel_rfl)) (fun _ _ _ h => h) (Or.inl ⟨by rfl, ?_⟩) ?_ ?_
                                  rotate_left
                                  · intro w'
                                    go_simp
                                    with_reducible rfl
                                  rotate_left
                                  · simp only [Act.put, List.setIfInBounds_toArray, List.set_cons_zero, List.set_cons_succ, i64_w, i32_w]
                                    rfl
                                  refine take_ (i := 4) (N := some 85) (v := ?_) (a' := ?_) #[true, true, true, true, true, false, true, false, true, false, false, false, false, false, false, false, false, false, false, false, false, false, false, false, false, false, false, false, false, false, false, false, false, false, false, false, false, false, false, false, false, false, false, false] rfl rfl (take_ofW HT_.out HW_.out (by kernel_rfl)) (fun _ _ _ h => h) (Or.inl ⟨by rfl, ?_⟩) hHeld ?_ ?_
                                  rotate_left
                                  · rintro w' ⟨s0, s1, s2, s3, s4, s5, s6, s7, s8, s9, s10, s11⟩
                                    go_simp
                                    with_reducible rfl
                                  rotate_left
                                  · simp only [Act.put, List.setIfInBounds_toArray, List.set_cons_zero, List.set_cons_succ, i64_w, i32_w]
                                    rfl
                                  refine pure_ (i := 5) (N := some 86) (v := ?_) (a' := ?_) #[true, true, true, true, true, true, true, false, true, false, false, false, false, false, false, false, false, false, false, false, false, false, false, false, false, false, false, false, false, false, false, false, false, false, false, false, false, false, false, false, false, false, false, false] rfl rfl (any_of HT_.out (by kernel_rfl)) (fun _ _ _ h => h) (Or.inl ⟨by rfl, ?_⟩) ?_ ?_
                                  rotate_left
                                  · intro w'
                                    go_simp
                                    with_reducible rfl
                                  rotate_left
                                  · simp only [Act.put, List.setIfInBounds_toArray, List.set_cons_zero, List.set_cons_succ, i64_w, i32_w]
                                    rfl
                                  refine take_ (i := 7) (N := some 88) (v := ?_) (a' := ?_) #[true, true, true, true, true, true, true, true, true, false, false, false, false, false, false, false, false, false, false, false, false, false, false, false, false, false, false, false, false, false, false, false, false, false, false, false, false, false, false, false, false, false, false, false] rfl rfl (take_ofW HT_.out HW_.out (by kernel_rfl)) (fun _ _ _ h => h) (Or.inl ⟨by rfl, ?_⟩) hHeld ?_ ?_
                                  rotate_left
                                  · rintro w' ⟨s0, s1, s2, s3, s4, s5, s6, s7, s8, s9, s10, s11⟩
                                    go_simp
                                    with_reducible rfl
                                  rotate_left
                                  · simp only [Act.put, List.setIfInBounds_toArray, List.set_cons_zero, List.set_cons_succ, i64_w, i32_w]
                                    rfl
                                  refine pure_ (i := 9) (N := some 90) (v := ?_) (a' := ?_) #[true, true, true, true, true, true, true, true, true, true, false, false, false, false, false, false, false, false, false, false, false, false, false, false, false, false, false, false, false, false, false, false, false, false, false, false, false, false, false, false, false, false, false, false] rfl rfl (any_of HT_.out (by kernel_rfl)) (fun _ _ _ h => h) (Or.inl ⟨by rfl, ?_⟩) ?_ ?_
                                  rotate_left
                                  · intro w'
                                    go_simp
                                    with_reducible rfl
                                  rotate_left
                                  · simp only [Act.put, List.setIfInBounds_toArray, List.set_cons_zero, List.set_cons_succ, i64_w, i32_w]
                                    rfl
                                  refine take_ (i := 10) (N := some 91) (v := ?_) (a' := ?_) #[true, true, true, true, true, true, true, true, true, true, true, false, false, false, false, false, false, false, false, false, false, false, false, false, false, false, false, false, false, false, false, false, false, false, false, false, false, false, false, false, false, false, false, false] rfl rfl (take_ofW HT_.out HW_.out (by kernel_rfl)) (fun _ _ _ h => h) (Or.inl ⟨by rfl, ?_⟩) hHeld ?_ ?_
                                  rotate_left
                                  · rintro w' ⟨s0, s1, s2, s3, s4, s5, s6, s7, s8, s9, s10, s11⟩
                                    go_simp
                                    with_reducible rfl
                                  rotate_left
                                  · simp only [Act.put, List.setIfInBounds_toArray, List.set_cons_zero, List.set_cons_succ, i64_w, i32_w]
                                    rfl
                                  refine pure_ (i := 11) (N := some 92) (v := ?_) (a' := ?_) #[true, true, true, true, true, true, true, true, true, true, true, true, false, false, false, false, false, false, false, false, false, false, false, false, false, false, false, false, false, false, false, false, false, false, false, false, false, false, false, false, false, false, false, false] rfl rfl (any_of HT_.out (by kernel_rfl)) (fun _ _ _ h => h) (Or.inl ⟨by rfl, ?_⟩) ?_ ?_
                                  rotate_left
                                  · intro w'
                                    go_simp
                                    with_reducible rfl
                                  rotate_left
                                  · simp only [Act.put, List.setIfInBounds_toArray, List.set_cons_zero, List.set_cons_succ, i64_w, i32_w]
                                    rfl
                                  refine pure_ (i := 12) (N := some 93) (v := ?_) (a' := ?_) #[true, true, true, true, true, true, true, true, true, true, true, true, true, false, false, false, false, false, false, false, false, false, false, false, false, false, false, false, false, false, false, false, false, false, false, false, false, false, false, false, false, false, false, false] rfl rfl (any_of HT_.out (by kernel_rfl)) (fun _ _ _ h => h) (Or.inl ⟨by rfl, ?_⟩) ?_ ?_
                                  rotate_left
                                  · intro w'
                                    go_simp
                                    with_reducible rfl
                                  rotate_left
                                  · simp only [Act.put, List.setIfInBounds_toArray, List.set_cons_zero, List.set_cons_succ, i64_w, i32_w]
                                    rfl
                                  refine pure_ (i := 13) (N := some 94) (v := ?_) (a' := ?_) #[true, true, true, true, true, true, true, true, true, true, true, true, true, true, false, false, false, false, false, false, false, false, false, false, false, false, false, false, false, false, false, false, false, false, false, false, false, false, false, false, false, false, false, false] rfl rfl (any_of HT_.out (by kernel_rfl)) (fun _ _ _ h => h) (Or.inl ⟨by rfl, ?_⟩) ?_ ?_
                                  rotate_left
                                  · intro w'
                                    go_simp
                                    with_reducible rfl
                                  rotate_left
                                  · simp only [Act.put, List.setIfInBounds_toArray, List.set_cons_zero, List.set_cons_succ, i64_w, i32_w]
                                    rfl
                                  refine pure_ (i := 14) (N := some 95) (v := ?_) (a' := ?_) #[true, true, true, true, true, true, true, true, true, true, true, true, true, true, true, false, false, false, false, false, false, false, false, false, false, false, false, false, false, false, false, false, false, false, false, false, false, false, false, false, false, false, false, false] rfl rfl (any_of HT_.out (by kernel_rfl)) (fun _ _ _ h => h) (Or.inl ⟨by rfl, ?_⟩) ?_ ?_
                                  rotate_left
                                  · intro w'
                                    go_simp
                                    with_reducible rfl
                                  rotate_left
                                  · simp only [Act.put, List.setIfInBounds_toArray, List.set_cons_zero, List.set_cons_succ, i64_w, i32_w]
                                    rfl
                                  refine pure_ (i := 16) (N := some 97) (v := ?_) (a' := ?_) #[true, true, true, true, true, true, true, true, true, true, true, true, true, true, true, false, true, false, false, false, false, false, false, false, false, false, false, false, false, false, false, false, false, false, false, false, false, false, false, false, false, false, false, false] rfl rfl (any_of HT_.out (by kernel_rfl)) (fun _ _ _ h => h) (Or.inl ⟨by rfl, ?_⟩) ?_ ?_
                                  rotate_left
                                  · intro w'
                                    go_simp
                                    with_reducible rfl
                                  rotate_left
                                  · simp only [Act.put, List.setIfInBounds_toArray, List.set_cons_zero, List.set_cons_succ, i64_w, i32_w]
                                    rfl
                                  refine pure_ (i := 20) (N := some 101) (v := ?_) (a' := ?_) #[true, true, true, true, true, true, true, true, true, true, true, true, true, true, true, false, true, false, false, false, true, false, false, false, false, false, false, false, false, false, false, false, false, false, false, false, false, false, false, false, false, false, false, false] rfl rfl (any_of HT_.out (by kernel_rfl)) (fun _ _ _ h => h) (Or.inl ⟨by rfl, ?_⟩) ?_ ?_
                                  rotate_left
                                  · intro w'
                                    go_simp
                                    with_reducible rfl
                                  rotate_left
                                  · simp only [Act.put, List.setIfInBounds_toArray, List.set_cons_zero, List.set_cons_succ, i64_w, i32_w]
                                    rfl
                                  refine take_ (i := 15) (N := some 96) (v := ?_) (a' := ?_) #[true, true, true, true, true, true, true, true, true, true, true, true, true, true, true, true, true, false, false, false, true, false, false, false, false, false, false, false, false, false, false, false, false, false, false, false, false, false, false, false, false, false, false, false] rfl rfl (take_ofW HT_.out HW_.out (by kernel_rfl)) (fun _ _ _ h => h) (Or.inl ⟨by rfl, ?_⟩) hHeld ?_ ?_
                                  rotate_left
                                  · rintro w' ⟨s0, s1, s2, s3, s4, s5, s6, s7, s8, s9, s10, s11⟩
                                    go_simp
                                    with_reducible rfl
                                  rotate_left
                                  · simp only [Act.put, List.setIfInBounds_toArray, List.set_cons_zero, List.set_cons_succ, i64_w, i32_w]
                                    rfl
                                  refine pure_ (i := 17) (N := some 98) (v := ?_) (a' := ?_) #[true, true, true, true, true, true, true, true, true, true, true, true, true, true, true, true, true, true, false, false, true, false, false, false, false, false, false, false, false, false, false, false, false, false, false, false, false, false, false, false, false, false, false, false] rfl rfl (any_of HT_.out (by kernel_rfl)) (fun _ _ _ h => h) (Or.inl ⟨by rfl, ?_⟩) ?_ ?_
                                  rotate_left
                                  · intro w'
                                    go_simp
                                    with_reducible rfl
                                  rotate_left
                                  · simp only [Act.put, List.setIfInBounds_toArray, List.set_cons_zero, List.set_cons_succ, i64_w, i32_w]
                                    rfl
                                  refine take_ (i := 18) (N := some 99) (v := ?_) (a' := ?_) #[true, true, true, true, true, true, true, true, true, true, true, true, true, true, true, true, true, true, true, false, true, false, false, false, false, false, false, false, false, false, false, false, false, false, false, false, false, false, false, false, false, false, false, false] rfl rfl (take_ofW HT_.out HW_.out (by kernel_rfl)) (fun _ _ _ h => h) (Or.inl ⟨by rfl, ?_⟩) hHeld ?_ ?_
                                  rotate_left
                                  · rintro w' ⟨s0, s1, s2, s3, s4, s5, s6, s7, s8, s9, s10, s11⟩
                                    go_simp
                                    with_reducible rfl
                                  rotate_left
                                  · simp only [Act.put, List.setIfInBounds_toArray, List.set_cons_zero, List.set_cons_succ, i64_w, i32_w]
                                    rfl
                                  refine pure_ (i := 19) (N := some 100) (v := ?_) (a' := ?_) #[true, true, true, true, true, true, true, true, true, true, true, true, true, true, true, true, true, true, true, true, true, false, false, false, false, false, false, false, false, false, false, false, false, false, false, false, false, false, false, false, false, false, false, false] rfl rfl (any_of HT_.out (by kernel_rfl)) (fun _ _ _ h => h) (Or.inl ⟨by rfl, ?_⟩) ?_ ?_
                                  rotate_left
                                  · intro w'
                                    go_simp
                                    with_reducible rfl
                                  rotate_left
                                  · simp only [Act.put, List.setIfInBounds_toArray, List.set_cons_zero, List.set_cons_succ, i64_w, i32_w]
                                    rfl
                                  refine pure_ (i := 21) (N := some 102) (v := ?_) (a' := ?_) #[true, true, true, true, true, true, true, true, true, true, true, true, true, true, true, true, true, true, true, true, true, true, false, false, false, false, false, false, false, false, false, false, false, false, false, false, false, false, false, false, false, false, false, false] rfl rfl (any_of HT_.out (by kernel_rfl)) (fun _ _ _ h => h) (Or.inl ⟨by rfl, ?_⟩) ?_ ?_
                                  rotate_left
                                  · intro w'
                                    go_simp
                                    with_reducible rfl
                                  rotate_left
                                  · simp only [Act.put, List.setIfInBounds_toArray, List.set_cons_zero, List.set_cons_succ, i64_w, i32_w]
                                    rfl
                                  refine pure_ (i := 22) (N := some 103) (v := ?_) (a' := ?_) #[true, true, true, true, true, true, true, true, true, true, true, true, true, true, true, true, true, true, true, true, true, true, true, false, false, false, false, false, false, false, false, false, false, false, false, false, false, false, false, false, false, false, false, false] rfl rfl (any_of HT_.out (by kernel_rfl)) (fun _ _ _ h => h) (Or.inl ⟨by rfl, ?_⟩) ?_ ?_
                                  rotate_left
                                  · intro w'
                                    go_simp
                                    with_reducible rfl
                                  rotate_left
                                  · simp only [Act.put, List.setIfInBounds_toArray, List.set_cons_zero, List.set_cons_succ, i64_w, i32_w]
                                    rfl
                                  refine pure_ (i := 23) (N := some 104) (v := ?_) (a' := ?_) #[true, true, true, true, true, true, true, true, true, true, true, true, true, true, true, true, true, true, true, true, true, true, true, true, false, false, false, false, false, false, false, false, false, false, false, false, false, false, false, false, false, false, false, false] rfl rfl (any_of HT_.out (by kernel_rfl)) (fun _ _ _ h => h) (Or.inl ⟨by rfl, ?_⟩) ?_ ?_
                                  rotate_left
                                  · intro w'
                                    go_simp
                                    with_reducible rfl
                                  rotate_left
                                  · simp only [Act.put, List.setIfInBounds_toArray, List.set_cons_zero, List.set_cons_succ, i64_w, i32_w]
                                    rfl
                                  refine pure_ (i := 24) (N := some 105) (v := ?_) (a' := ?_) #[true, true, true, true, true, true, true, true, true, true, true, true, true, true, true, true, true, true, true, true, true, true, true, true, true, false, false, false, false, false, false, false, false, false, false, false, false, false, false, false, false, false, false, false] rfl rfl (any_of HT_.out (by kernel_rfl)) (fun _ _ _ h => h) (Or.inl ⟨by rfl, ?_⟩) ?_ ?_
                                  rotate_left
                                  · intro w'
                                    go_simp
                                    with_reducible rfl
                                  rotate_left
                                  · simp only [Act.put, List.setIfInBounds_toArray, List.set_cons_zero, List.set_cons_succ, i64_w, i32_w]
                                    rfl
                                  refine pure_ (i := 26) (N := some 107) (v := ?_) (a' := ?_) #[true, true, true, true, true, true, true, true, true, true, true, true, true, true, true, true, true, true, true, true, true, true, true, true, true, false, true, false, false, false, false, false, false, false, false, false, false, false, false, false, false, false, false, false] rfl rfl (any_of HT_.out (by kernel_rfl)) (fun _ _ _ h => h) (Or.inl ⟨by rfl, ?_⟩) ?_ ?_
                                  rotate_left
                                  · intro w'
                                    go_simp
                                    with_reducible rfl
                                  rotate_left
                                  · simp only [Act.put, List.setIfInBounds_toArray, List.set_cons_zero, List.set_cons_succ, i64_w, i32_w]
                                    rfl
                                  refine pure_ (i := 29) (N := some 110) (v := ?_) (a' := ?_) #[true, true, true, true, true, true, true, true, true, true, true, true, true, true, true, true, true, true, true, true, true, true, true, true, true, false, true, false, false, true, false, false, false, false, false, false, false, false, false, false, false, false, false, false] rfl rfl (any_of HT_.out (by kernel_rfl)) (fun _ _ _ h => h) (Or.inl ⟨by rfl, ?_⟩) ?_ ?_
                                  rotate_left
                                  · intro w'
                                    go_simp
                                    with_reducible rfl
                                  rotate_left
                                  · simp only [Act.put, List.setIfInBounds_toArray, List.set_cons_zero, List.set_cons_succ, i64_w, i32_w]
                                    rfl
                                  refine pure_ (i := 31) (N := some 112) (v := ?_) (a' := ?_) #[true, true, true, true, true, true, true, true, true, true, true, true, true, true, true, true, true, true, true, true, true, true, true, true, true, false, true, false, false, true, false, true, false, false, false, false, false, false, false, false, false, false, false, false] rfl rfl (any_of HT_.out (by kernel_rfl)) (fun _ _ _ h => h) (Or.inl ⟨by rfl, ?_⟩) ?_ ?_
                                  rotate_left
                                  · intro w'
                                    go_simp
                                    with_reducible rfl
                                  rotate_left
                                  · simp only [Act.put, List.setIfInBounds_toArray, List.set_cons_zero, List.set_cons_succ, i64_w, i32_w]
                                    rfl
                                  refine pure_ (i := 34) (N := some 115) (v := ?_) (a' := ?_) #[true, true, true, true, true, true, true, true, true, true, true, true, true, true, true, true, true, true, true, true, true, true, true, true, true, false, true, false, false, true, false, true, false, false, true, false, false, false, false, false, false, false, false, false] rfl rfl (any_of HT_.out (by kernel_rfl)) (fun _ _ _ h => h) (Or.inl ⟨by rfl, ?_⟩) ?_ ?_
                                  rotate_left
                                  · intro w'
                                    go_simp
                                    with_reducible rfl
                                  rotate_left
                                  · simp only [Act.put, List.setIfInBounds_toArray, List.set_cons_zero, List.set_cons_succ, i64_w, i32_w]
                                    rfl
                                  refine pure_ (i := 36) (N := some 117) (v := ?_) (a' := ?_) #[true, true, true, true, true, true, true, true, true, true, true, true, true, true, true, true, true, true, true, true, true, true, true, true, true, false, true, false, false, true, false, true, false, false, true, false, true, false, false, false, false, false, false, false] rfl rfl (any_of HT_.out (by kernel_rfl)) (fun _ _ _ h => h) (Or.inl ⟨by rfl, ?_⟩) ?_ ?_
                                  rotate_left
                                  · intro w'
                                    go_simp
                                    with_reducible rfl
                                  rotate_left
                                  · simp only [Act.put, List.setIfInBounds_toArray, List.set_cons_zero, List.set_cons_succ, i64_w, i32_w]
                                    rfl
                                  refine take_ (i := 25) (N := some 106) (v := ?_) (a' := ?_) #[true, true, true, true, true, true, true, true, true, true, true, true, true, true, true, true, true, true, true, true, true, true, true, true, true, true, true, false, false, true, false, true, false, false, true, false, true, false, false, false, false, false, false, false] rfl rfl (take_ofW HT_.out HW_.out (by kernel_rfl)) (fun _ _ _ h => h) (Or.inl ⟨by rfl, ?_⟩) hHeld ?_ ?_
                                  rotate_left
                                  · rintro w' ⟨s0, s1, s2, s3, s4, s5, s6, s7, s8, s9, s10, s11⟩
                                    go_simp
                                    with_reducible rfl
                                  rotate_left
                                  · simp only [Act.put, List.setIfInBounds_toArray, List.set_cons_zero, List.set_cons_succ, i64_w, i32_w]
                                    rfl
                                  refine pure_ (i := 27) (N := some 108) (v := ?_) (a' := ?_) #[true, true, true, true, true, true, true, true, true, true, true, true, true, true, true, true, true, true, true, true, true, true, true, true, true, true, true, true, false, true, false, true, false, false, true, false, true, false, false, false, false, false, false, false] rfl rfl (any_of HT_.out (by kernel_rfl)) (fun _ _ _ h => h) (Or.inl ⟨by rfl, ?_⟩) ?_ ?_
                                  rotate_left
                                  · intro w'
                                    go_simp
                                    with_reducible rfl
                                  rotate_left
                                  · simp only [Act.put, List.setIfInBounds_toArray, List.set_cons_zero, List.set_cons_succ, i64_w, i32_w]
                                    rfl
                                  refine take_ (i := 28) (N := some 109) (v := ?_) (a' := ?_) #[true, true, true, true, true, true, true, true, true, true, true, true, true, true, true, true, true, true, true, true, true, true, true, true, true, true, true, true, true, true, false, true, false, false, true, false, true, false, false, false, false, false, false, false] rfl rfl (take_ofW HT_.out HW_.out (by kernel_rfl)) (fun _ _ _ h => h) (Or.inl ⟨by rfl, ?_⟩) hHeld ?_ ?_
                                  rotate_left
                                  · rintro w' ⟨s0, s1, s2, s3, s4, s5, s6, s7, s8, s9, s10, s11⟩
                                    go_simp
                                    with_reducible rfl
                                  rotate_left
                                  · simp only [Act.put, List.setIfInBounds_toArray, List.set_cons_zero, List.set_cons_succ, i64_w, i32_w]
                                    rfl
                                  refine take_ (i := 30) (N := some 111) (v := ?_) (a' := ?_) #[true, true, true, true, true, true, true, true, true, true, true, true, true, true, true, true, true, true, true, true, true, true, true, true, true, true, true, true, true, true, true, true, false, false, true, false, true, false, false, false, false, false, false, false] rfl rfl (take_ofW HT_.out HW_.out (by kernel_rfl)) (fun _ _ _ h => h) (Or.inl ⟨by rfl, ?_⟩) hHeld ?_ ?_
                                  rotate_left
                                  · rintro w' ⟨s0, s1, s2, s3, s4, s5, s6, s7, s8, s9, s10, s11⟩
                                    go_simp
                                    with_reducible rfl
                                  rotate_left
                                  · simp only [Act.put, List.setIfInBounds_toArray, List.set_cons_zero, List.set_cons_succ, i64_w, i32_w]
                                    rfl
                                  refine pure_ (i := 32) (N := some 113) (v := ?_) (a' := ?_) #[true, true, true, true, true, true, true, true, true, true, true, true, true, true, true, true, true, true, true, true, true, true, true, true, true, true, true, true, true, true, true, true, true, false, true, false, true, false, false, false, false, false, false, false] rfl rfl (any_of HT_.out (by kernel_rfl)) (fun _ _ _ h => h) (Or.inl ⟨by rfl, ?_⟩) ?_ ?_
                                  rotate_left
                                  · intro w'
                                    go_simp
                                    with_reducible rfl
                                  rotate_left
                                  · simp only [Act.put, List.setIfInBounds_toArray, List.set_cons_zero, List.set_cons_succ, i64_w, i32_w]
                                    rfl
                                  refine take_ (i := 33) (N := some 114) (v := ?_) (a' := ?_) #[true, true, true, true, true, true, true, true, true, true, true, true, true, true, true, true, true, true, true, true, true, true, true, true, true, true, true, true, true, true, true, true, true, true, true, false, true, false, false, false, false, false, false, false] rfl rfl (take_ofW HT_.out HW_.out (by kernel_rfl)) (fun _ _ _ h => h) (Or.inl ⟨by rfl, ?_⟩) hHeld ?_ ?_
                                  rotate_left
                                  · rintro w' ⟨s0, s1, s2, s3, s4, s5, s6, s7, s8, s9, s10, s11⟩
                                    go_simp
                                    with_reducible rfl
                                  rotate_left
                                  · simp only [Act.put, List.setIfInBounds_toArray, List.set_cons_zero, List.set_cons_succ, i64_w, i32_w]
                                    rfl
                                  refine take_ (i := 35) (N := some 116) (v := ?_) (a' := ?_) #[true, true, true, true, true, true, true, true, true, true, true, true, true, true, true, true, true, true, true, true, true, true, true, true, true, true, true, true, true, true, true, true, true, true, true, true, true, false, false, false, false, false, false, false] rfl rfl (take_ofW HT_.out HW_.out (by kernel_rfl)) (fun _ _ _ h => h) (Or.inl ⟨by rfl, ?_⟩) hHeld ?_ ?_
                                  rotate_left
                                  · rintro w' ⟨s0, s1, s2, s3, s4, s5, s6, s7, s8, s9, s10, s11⟩
                                    go_simp
                                    with_reducible rfl
                                  rotate_left
                                  · simp only [Act.put, List.setIfInBounds_toArray, List.set_cons_zero, List.set_cons_succ, i64_w, i32_w]
                                    rfl
                                  refine pure_ (i := 37) (N := some 118) (v := ?_) (a' := ?_) #[true, true, true, true, true, true, true, true, true, true, true, true, true, true, true, true, true, true, true, true, true, true, true, true, true, true, true, true, true, true, true, true, true, true, true, true, true, true, false, false, false, false, false, false] rfl rfl (any_of HT_.out (by kernel_rfl)) (fun _ _ _ h => h) (Or.inl ⟨by rfl, ?_⟩) ?_ ?_
                                  rotate_left
                                  · intro w'
                                    go_simp
                                    with_reducible rfl
                                  rotate_left
                                  · simp only [Act.put, List.setIfInBounds_toArray, List.set_cons_zero, List.set_cons_succ, i64_w, i32_w]
                                    rfl
                                  refine take_ (i := 38) (N := some 119) (v := ?_) (a' := ?_) #[true, true, true, true, true, true, true, true, true, true, true, true, true, true, true, true, true, true, true, true, true, true, true, true, true, true, true, true, true, true, true, true, true, true, true, true, true, true, true, false, false, false, false, false] rfl rfl (take_ofW HT_.out HW_.out (by kernel_rfl)) (fun _ _ _ h => h) (Or.inl ⟨by rfl, ?_⟩) hHeld ?_ ?_
                                  rotate_left
                                  · rintro w' ⟨s0, s1, s2, s3, s4, s5, s6, s7, s8, s9, s10, s11⟩
                                    go_simp
                                    with_reducible rfl
                                  rotate_left
                                  · simp only [Act.put, List.setIfInBounds_toArray, List.set_cons_zero, List.set_cons_succ, i64_w, i32_w]
                                    rfl
                                  refine pure_ (i := 39) (N := some 120) (v := ?_) (a' := ?_) #[true, true, true, true, true, true, true, true, true, true, true, true, true, true, true, true, true, true, true, true, true, true, true, true, true, true, true, true, true, true, true, true, true, true, true, true, true, true, true, true, false, false, false, false] rfl rfl (any_of HT_.out (by kernel_rfl)) (fun _ _ _ h => h) (Or.inl ⟨by rfl, ?_⟩) ?_ ?_
                                  rotate_left
                                  · intro w'
                                    go_simp
                                    with_reducible rfl
                                  rotate_left
                                  · simp only [Act.put, List.setIfInBounds_toArray, List.set_cons_zero, List.set_cons_succ, i64_w, i32_w]
                                    rfl
                                  refine pure_ (i := 40) (N := some 121) (v := ?_) (a' := ?_) #[true, true, true, true, true, true, true, true, true, true, true, true, true, true, true, true, true, true, true, true, true, true, true, true, true, true, true, true, true, true, true, true, true, true, true, true, true, true, true, true, true, false, false, false] rfl rfl (any_of HT_.out (by kernel_rfl)) (fun _ _ _ h => h) (Or.inl ⟨by rfl, ?_⟩) ?_ ?_
                                  rotate_left
                                  · intro w'
                                    go_simp
                                    with_reducible rfl
                                  rotate_left
                                  · simp only [Act.put, List.setIfInBounds_toArray, List.set_cons_zero, List.set_cons_succ, i64_w, i32_w]
                                    rfl
                                  refine one_ (i := 41) (N := some 122) #[true, true, true, true, true, true, true, true, true, true, true, true, true, true, true, true, true, true, true, true, true, true, true, true, true, true, true, true, true, true, true, true, true, true, true, true, true, true, true, true, true, true, false, false] rfl rfl (one_of HT_.out (by kernel_rfl)) (by decide) (fun K hK => ?_)
                                  refine goes_ Try.func25 (by kernel_rfl) rfl #[.slice A580_0 (rd_L2 t565 x17_3).length c580_0, .slice A581_0 y586.length c581_0] (by rfl) rfl rfl (by (try simp only [List.map_toArray, List.map_cons, List.map_nil]); first | done | rfl | (simp only [List.length_drop, List.length_take]; rfl)) ?_
                                  with_reducible refine (antiquaryref08_SameRows.calls k3 _ _ (rd_L2 t565 x17_3) _ _ y586 true _ ?side1 ?side2 ?side3 ?side4 A50.out).mono ?_
                                  (case side1 => repeat (first | exact (by repeat (first | (with_reducible exact HR583_0.out) | (with_reducible refine Kd.C_alloc ?_ _) | (with_reducible refine Kd.C_drewN ?_ _) | (with_reducible refine Kd.C_drew ?_) | exact HR583_0.out)) | (with_reducible refine Kd.C_alloc ?_ _) | (with_reducible refine Kd.C_drewN ?_ _) | (with_reducible refine Kd.C_drew ?_)))
                                  (case side2 => exact HC583_0.out)
                                  (case side3 => repeat (first | exact (by repeat (first | (with_reducible exact HR589.out) | (with_reducible refine Kd.C_alloc ?_ _) | (with_reducible refine Kd.C_drewN ?_ _) | (with_reducible refine Kd.C_drew ?_) | exact HR589.out)) | (with_reducible refine Kd.C_alloc ?_ _) | (with_reducible refine Kd.C_drewN ?_ _) | (with_reducible refine Kd.C_drew ?_)))
                                  (case side4 => exact HC589.out)
                                  rintro e w' ⟨rfl, ⟨nd, rfl⟩⟩
                                  refine ⟨_, rfl, ?_⟩
                                  refine hK.out _ _ ⟨(blk_cell BK569.out 0).trans rfl, (blk_cell BK569.out 1).trans rfl, (blk_cell BK569.out 2).trans rfl, (blk_cell BK578.out 0).trans rfl, (blk_cell BK578.out 1).trans rfl, (blk_cell BK578.out 2).trans rfl, hHeld.2.2.2.2.2.2.1, hHeld.2.2.2.2.2.2.2.1, hHeld.2.2.2.2.2.2.2.2.1, hHeld.2.2.2.2.2.2.2.2.2.1, hHeld.2.2.2.2.2.2.2.2.2.2.1, hHeld.2.2.2.2.2.2.2.2.2.2.2⟩ (fun hHeld => ?_)
                                  clear hK K
                                  refine norm_ (a' := ?_) ?_ ?_
                                  rotate_left
                                  · show Act.put _ (some 122) _ = _
                                    simp only [Act.put, List.setIfInBounds_toArray, List.set_cons_zero, List.set_cons_succ, i64_w, i32_w]
                                    rfl
                                  refine pure_ (i := 42) (N := some 123) (v := ?_) (a' := ?_) #[true, true, true, true, true, true, true, true, true, true, true, true, true, true, true, true, true, true, true, true, true, true, true, true, true, true, true, true, true, true, true, true, true, true, true, true, true, true, true, true, true, true, true, false] rfl rfl (any_of HT_.out (by kernel_rfl)) (fun _ _ _ h => h) (Or.inl ⟨by rfl, ?_⟩) ?_ ?_
                                  rotate_left
                                  · intro w'
                                    go_simp
                                    with_reducible rfl
                                  rotate_left
                                  · simp only [Act.put, List.setIfInBounds_toArray, List.set_cons_zero, List.set_cons_succ, i64_w, i32_w]
                                    rfl
                                  refine pure_ (i := 43) (N := some 124) (v := ?_) (a' := ?_) #[true, true, true, true, true, true, true, true, true, true, true, true, true, true, true, true, true, true, true, true, true, true, true, true, true, true, true, true, true, true, true, true, true, true, true, true, true, true, true, true, true, true, true, true] rfl rfl (any_of HT_.out (by kernel_rfl)) (fun _ _ _ h => h) (Or.inl ⟨by rfl, ?_⟩) ?_ ?_
                                  rotate_left
                                  · intro w'
                                    go_simp
                                    with_reducible rfl
                                  rotate_left
                                  · simp only [Act.put, List.setIfInBounds_toArray, List.set_cons_zero, List.set_cons_succ, i64_w, i32_w]
                                    rfl
                                  refine done_ (done_of HT_.out (by kernel_rfl)) ?_
                                  try go_wp2
                                  go_roundg k3
                                  case measure => have := HJ6.out; have := HJ18.out; have := HK3.out; omega
                                  case rel => exact ⟨(wrap64 (x17_3 + 1)), (by first | rfl | (simp; done) | (simp [*]; done)), H', ⟨by have := HJ6.out; have := HJ18.out; have := HK3.out; omega⟩, ⟨by (with_reducible repeat (first | apply Kd.R_alloc | apply Kd.R_drewN | apply Kd.R_drew)); exact HO_570001.out⟩, ⟨by (with_reducible repeat (first | apply Kd.R_alloc | apply Kd.R_drewN | apply Kd.R_drew)); exact HO_570002.out⟩, ⟨by (with_reducible repeat (first | apply Kd.R_alloc | apply Kd.R_drewN | apply Kd.R_drew)); exact HO_579001.out⟩, ⟨by (with_reducible repeat (first | apply Kd.R_alloc | apply Kd.R_drewN | apply Kd.R_drew)); exact HO_579002.out⟩, ⟨by (with_reducible repeat (first | refine blk_drewN ?_ _ | refine blk_drew ?_ | refine blk_alloc ?_ _)); exact BK569.out⟩, ⟨by (with_reducible repeat (first | refine blk_drewN ?_ _ | refine blk_drew ?_ | refine blk_alloc ?_ _)); exact BK578.out⟩, ⟨by repeat (first | (with_reducible first | exact HB.out | apply below_alloc | apply pw_below_drewN | apply below_drew1 | refine below_set ?_ GE569.out | refine below_set ?_ GE578.out) | exact HB.out)⟩⟩
                                · replace c51 := Bool.eq_false_iff.mpr c51
                                  subst c51
                                  have H1 : (some false) = some r := by rw [if_neg (show ¬ (false = true) by decide)] at H; exact H
                                  clear H
                                  have H := H1
                                  clear H1
                                  exact absurd (Option.some.inj H) (by rw [HT.out]; decide)
                              · rw [if_neg c49] at H
                                exact absurd H (by simp)
                            · rw [if_neg c48] at H
                              exact absurd H (by simp)
                      · rw [if_neg c39] at H
                        exact absurd H (by simp)
                    · rw [if_neg c38] at H
                      exact absurd H (by simp)
                  · rw [if_neg c37] at H
                    have c37b0 : decide (x17_3 < (t565.length : Int)) = false := decide_eq_false c37
                    clear c37
                    replace H := Option.bind_eq_some_iff.mp H
                    obtain ⟨t591, A600, H⟩ := H
                    replace H : ((code_Worst.f k3 t570 t571 t574 a4 l0).bind fun t592 => ((antiquarylaw08_sanity.f k3).bind fun t593 => (if t593 = true then (if t592 ≤ t591 then (if (wrap64 (1 + (Int.tmod (wrap64 (ji14)) 50))) < (l0.length : Int) then (some true) else (some (t591 == 0))) else (some false)) else (some false)))) = some r := H
                    have A60 := Aside0.mk A600
                    clear A600
                    replace H := Option.bind_eq_some_iff.mp H
                    obtain ⟨t592, A610, H⟩ := H
                    replace H : ((antiquarylaw08_sanity.f k3).bind fun t593 => (if t593 = true then (if t592 ≤ t591 then (if (wrap64 (1 + (Int.tmod (wrap64 (ji14)) 50))) < (l0.length : Int) then (some true) else (some (t591 == 0))) else (some false)) else (some false))) = some r := H
                    have A61 := Aside0.mk A610
                    clear A610
                    replace H := Option.bind_eq_some_iff.mp H
                    obtain ⟨t593, A620, H⟩ := H
                    replace H : (if t593 = true then (if t592 ≤ t591 then (if (wrap64 (1 + (Int.tmod (wrap64 (ji14)) 50))) < (l0.length : Int) then (some true) else (some (t591 == 0))) else (some false)) else (some false)) = some r := H
                    have A62 := Aside0.mk A620
                    clear A620
                    by_cases c63 : t593 = true
                    · subst c63
                      have H1 : (if t592 ≤ t591 then (if (wrap64 (1 + (Int.tmod (wrap64 (ji14)) 50))) < (l0.length : Int) then (some true) else (some (t591 == 0))) else (some false)) = some r := by rw [if_pos rfl] at H; exact H
                      clear H
                      have H := H1
                      clear H1
                      by_cases c64 : t592 ≤ t591
                      · rw [if_pos c64] at H
                        have c64b0 : decide (t592 ≤ t591) = true := decide_eq_true c64
                        clear c64
                        by_cases c65 : (wrap64 (1 + (Int.tmod (wrap64 (ji14)) 50))) < (l0.length : Int)
                        · rw [if_pos c65] at H
                          have c65b0 : decide ((wrap64 (1 + (Int.tmod (wrap64 (ji14)) 50))) < (l0.length : Int)) = true := decide_eq_true c65
                          clear c65
                          obtain rfl := Option.some.inj H
                          have hnb66 := NB569_578.out
                          have hnc66 := NB578_569.out
                          have hcz67_0 : wr.cell? ⟨gb569, 0, none⟩ = some (.int .i64 t561) := (blk_cell BK569.out 0).trans rfl
                          have hcz67_1 : wr.cell? ⟨gb569, 1, none⟩ = some (.slice Ao23 t562.length co23) := (blk_cell BK569.out 1).trans rfl
                          have hcz67_2 : wr.cell? ⟨gb569, 2, none⟩ = some (.slice Ao24 t565.length co24) := (blk_cell BK569.out 2).trans rfl
                          have hfz67_0 := blk_frozen BK569.out 0
                          have hfz67_1 := blk_frozen BK569.out 1
                          have hfz67_2 := blk_frozen BK569.out 2
                          go_wp2_with (first | ((with_reducible refine gate_callee (f := 35) rfl ?_); refine goesL_ (some 128) rfl rfl Try.func35 (by kernel_rfl) rfl #[.agg #[.int .i64 t561, .slice Ao23 t562.length co23, .slice Ao24 t565.length co24], .int .i64 a4, .slice A0 l0.length c0] rfl (by (try simp only [List.map_toArray, List.map_cons, List.map_nil]); first | done | rfl | (simp only [List.length_drop, List.length_take]; rfl)) ?_; (with_reducible refine (code_Worst.calls k3 t561 _ _ t562 _ _ t565 a4 _ _ l0 t591 _ ?side1 ?side2 ?side3 ?side4 ?side5 ?side6 A60.out).mono ?_); (case side1 => repeat (first | exact (Kd.R_reads' HO_570001.out).2.2 | (with_reducible refine Kd.C_alloc ?_ _) | (with_reducible refine Kd.C_drewN ?_ _) | (with_reducible refine Kd.C_drew ?_))); (case side2 => exact (Kd.R_reads' HO_570001.out).2.1); (case side3 => repeat (first | exact (Kd.R_reads' HO_570002.out).2.2 | (with_reducible refine Kd.C_alloc ?_ _) | (with_reducible refine Kd.C_drewN ?_ _) | (with_reducible refine Kd.C_drew ?_))); (case side4 => exact (Kd.R_reads' HO_570002.out).2.1); (case side5 => repeat (first | exact (Kd.C_below HR0.out HB.out) | (with_reducible refine Kd.C_alloc ?_ _) | (with_reducible refine Kd.C_drewN ?_ _) | (with_reducible refine Kd.C_drew ?_))); (case side6 => exact HC0.out); rintro e w68 ⟨rfl, hb⟩; refine ⟨_, rfl, ?_⟩; have n0_ := Aside0.mk (Kd.R_below (by (with_reducible repeat (first | apply Kd.R_alloc | apply Kd.R_drewN | apply Kd.R_drew)); exact HO_570001.out) hb); have n1_ := Aside0.mk (Kd.R_below (by (with_reducible repeat (first | apply Kd.R_alloc | apply Kd.R_drewN | apply Kd.R_drew)); exact HO_570002.out) hb); have n2_ := Aside0.mk (Kd.R_below (by (with_reducible repeat (first | apply Kd.R_alloc | apply Kd.R_drewN | apply Kd.R_drew)); exact HO_579001.out) hb); have n3_ := Aside0.mk (Kd.R_below (by (with_reducible repeat (first | apply Kd.R_alloc | apply Kd.R_drewN | apply Kd.R_drew)); exact HO_579002.out) hb); have n4_ := Aside0.mk (blk_below (g := gb569) (o := .cells #[.int .i64 t561, .slice Ao23 t562.length co23, .slice Ao24 t565.length co24] 25 (0, 0)) (by (with_reducible repeat (first | refine blk_drewN ?_ _ | refine blk_drew ?_ | refine blk_alloc ?_ _)); exact BK569.out) hb); have n5_ := Aside0.mk (blk_below (g := gb578) (o := .cells #[.int .i64 t570, .slice Ao29 t571.length co29, .slice Ao30 t574.length co30] 25 (0, 0)) (by (with_reducible repeat (first | refine blk_drewN ?_ _ | refine blk_drew ?_ | refine blk_alloc ?_ _)); exact BK578.out) hb); have n6_ := Aside0.mk (below_step (by repeat (first | (with_reducible first | exact HB.out | apply below_alloc | apply pw_below_drewN | apply below_drew1 | refine below_set ?_ GE569.out | refine below_set ?_ GE578.out) | exact HB.out)) hb); clear HO_570001; clear HO_570002; clear HO_579001; clear HO_579002; clear BK569; clear BK578; clear HB; have HO_570001 := n0_; have HO_570002 := n1_; have HO_579001 := n2_; have HO_579002 := n3_; have BK569 := n4_; have BK578 := n5_; have HB := n6_; clear n0_ n1_ n2_ n3_ n4_ n5_ n6_; (try clear hb); (try clear hb2); (try clear hk); (try clear hi); have hcz69_0 : w68.cell? ⟨gb578, 0, none⟩ = some (.int .i64 t570) := (blk_cell BK578.out 0).trans rfl; have hcz69_1 : w68.cell? ⟨gb578, 1, none⟩ = some (.slice Ao29 t571.length co29) := (blk_cell BK578.out 1).trans rfl; have hcz69_2 : w68.cell? ⟨gb578, 2, none⟩ = some (.slice Ao30 t574.length co30) := (blk_cell BK578.out 2).trans rfl; have hfz69_0 := blk_frozen BK578.out 0; have hfz69_1 := blk_frozen BK578.out 1; have hfz69_2 := blk_frozen BK578.out 2) | ((with_reducible refine gate_callee (f := 35) rfl ?_); refine goesL_ (some 132) rfl rfl Try.func35 (by kernel_rfl) rfl #[.agg #[.int .i64 t570, .slice Ao29 t571.length co29, .slice Ao30 t574.length co30], .int .i64 a4, .slice A0 l0.length c0] rfl (by (try simp only [List.map_toArray, List.map_cons, List.map_nil]); first | done | rfl | (simp only [List.length_drop, List.length_take]; rfl)) ?_; (with_reducible refine (code_Worst.calls k3 t570 _ _ t571 _ _ t574 a4 _ _ l0 t592 _ ?side1 ?side2 ?side3 ?side4 ?side5 ?side6 A61.out).mono ?_); (case side1 => repeat (first | exact (Kd.R_reads' HO_579001.out).2.2 | (with_reducible refine Kd.C_alloc ?_ _) | (with_reducible refine Kd.C_drewN ?_ _) | (with_reducible refine Kd.C_drew ?_))); (case side2 => exact (Kd.R_reads' HO_579001.out).2.1); (case side3 => repeat (first | exact (Kd.R_reads' HO_579002.out).2.2 | (with_reducible refine Kd.C_alloc ?_ _) | (with_reducible refine Kd.C_drewN ?_ _) | (with_reducible refine Kd.C_drew ?_))); (case side4 => exact (Kd.R_reads' HO_579002.out).2.1); (case side5 => repeat (first | exact (Kd.C_below HR0.out HB.out) | (with_reducible refine Kd.C_alloc ?_ _) | (with_reducible refine Kd.C_drewN ?_ _) | (with_reducible refine Kd.C_drew ?_))); (case side6 => exact HC0.out); rintro e w70 ⟨rfl, hb⟩; refine ⟨_, rfl, ?_⟩; have n0_ := Aside0.mk (Kd.R_below (by (with_reducible repeat (first | apply Kd.R_alloc | apply Kd.R_drewN | apply Kd.R_drew)); exact HO_570001.out) hb); have n1_ := Aside0.mk (Kd.R_below (by (with_reducible repeat (first | apply Kd.R_alloc | apply Kd.R_drewN | apply Kd.R_drew)); exact HO_570002.out) hb); have n2_ := Aside0.mk (Kd.R_below (by (with_reducible repeat (first | apply Kd.R_alloc | apply Kd.R_drewN | apply Kd.R_drew)); exact HO_579001.out) hb); have n3_ := Aside0.mk (Kd.R_below (by (with_reducible repeat (first | apply Kd.R_alloc | apply Kd.R_drewN | apply Kd.R_drew)); exact HO_579002.out) hb); have n4_ := Aside0.mk (blk_below (g := gb569) (o := .cells #[.int .i64 t561, .slice Ao23 t562.length co23, .slice Ao24 t565.length co24] 25 (0, 0)) (by (with_reducible repeat (first | refine blk_drewN ?_ _ | refine blk_drew ?_ | refine blk_alloc ?_ _)); exact BK569.out) hb); have n5_ := Aside0.mk (blk_below (g := gb578) (o := .cells #[.int .i64 t570, .slice Ao29 t571.length co29, .slice Ao30 t574.length co30] 25 (0, 0)) (by (with_reducible repeat (first | refine blk_drewN ?_ _ | refine blk_drew ?_ | refine blk_alloc ?_ _)); exact BK578.out) hb); have n6_ := Aside0.mk (below_step (by repeat (first | (with_reducible first | exact HB.out | apply below_alloc | apply pw_below_drewN | apply below_drew1 | refine below_set ?_ GE569.out | refine below_set ?_ GE578.out) | exact HB.out)) hb); clear HO_570001; clear HO_570002; clear HO_579001; clear HO_579002; clear BK569; clear BK578; clear HB; have HO_570001 := n0_; have HO_570002 := n1_; have HO_579001 := n2_; have HO_579002 := n3_; have BK569 := n4_; have BK578 := n5_; have HB := n6_; clear n0_ n1_ n2_ n3_ n4_ n5_ n6_; (try clear hb); (try clear hb2); (try clear hk); (try clear hi)) | ((with_reducible refine gate_callee (f := 11) rfl ?_); refine goesL_ (some 133) rfl rfl Try.func11 (by kernel_rfl) rfl #[] rfl (by (try simp only [List.map_toArray, List.map_cons, List.map_nil]); first | done | rfl | (simp only [List.length_drop, List.length_take]; rfl)) ?_; (with_reducible refine (antiquarylaw08_sanity.calls k3  true _ A62.out (by first | rfl | exact HT.out)).mono ?_); rintro e w71 ⟨rfl, hb⟩; refine ⟨_, rfl, ?_⟩; have n0_ := Aside0.mk (Kd.R_below (by (with_reducible repeat (first | apply Kd.R_alloc | apply Kd.R_drewN | apply Kd.R_drew)); exact HO_570001.out) hb); have n1_ := Aside0.mk (Kd.R_below (by (with_reducible repeat (first | apply Kd.R_alloc | apply Kd.R_drewN | apply Kd.R_drew)); exact HO_570002.out) hb); have n2_ := Aside0.mk (Kd.R_below (by (with_reducible repeat (first | apply Kd.R_alloc | apply Kd.R_drewN | apply Kd.R_drew)); exact HO_579001.out) hb); have n3_ := Aside0.mk (Kd.R_below (by (with_reducible repeat (first | apply Kd.R_alloc | apply Kd.R_drewN | apply Kd.R_drew)); exact HO_579002.out) hb); have n4_ := Aside0.mk (blk_below (g := gb569) (o := .cells #[.int .i64 t561, .slice Ao23 t562.length co23, .slice Ao24 t565.length co24] 25 (0, 0)) (by (with_reducible repeat (first | refine blk_drewN ?_ _ | refine blk_drew ?_ | refine blk_alloc ?_ _)); exact BK569.out) hb); have n5_ := Aside0.mk (blk_below (g := gb578) (o := .cells #[.int .i64 t570, .slice Ao29 t571.length co29, .slice Ao30 t574.length co30] 25 (0, 0)) (by (with_reducible repeat (first | refine blk_drewN ?_ _ | refine blk_drew ?_ | refine blk_alloc ?_ _)); exact BK578.out) hb); have n6_ := Aside0.mk (below_step (by repeat (first | (with_reducible first | exact HB.out | apply below_alloc | apply pw_below_drewN | apply below_drew1 | refine below_set ?_ GE569.out | refine below_set ?_ GE578.out) | exact HB.out)) hb); clear HO_570001; clear HO_570002; clear HO_579001; clear HO_579002; clear BK569; clear BK578; clear HB; have HO_570001 := n0_; have HO_570002 := n1_; have HO_579001 := n2_; have HO_579002 := n3_; have BK569 := n4_; have BK578 := n5_; have HB := n6_; clear n0_ n1_ n2_ n3_ n4_ n5_ n6_; (try clear hb); (try clear hb2); (try clear hk); (try clear hi)))
                          go_ret
                          exact ⟨by first | rfl | (simp [errW_none, errW_some] <;> rfl) | (simp only [← hji14, ← hji16, ← hji17]; first | rfl | (simp [errW_none, errW_some] <;> rfl)) | (simp [*, errW_none, errW_some] <;> rfl), by repeat (first | (with_reducible first | exact HB.out | apply below_alloc | apply pw_below_drewN | apply below_drew1 | refine below_set ?_ GE569.out | refine below_set ?_ GE578.out) | exact HB.out)⟩
                        · rw [if_neg c65] at H
                          have c65b0 : decide ((wrap64 (1 + (Int.tmod (wrap64 (ji14)) 50))) < (l0.length : Int)) = false := decide_eq_false c65
                          clear c65
                          obtain rfl := Option.some.inj H
                          have hnb72 := NB569_578.out
                          have hnc72 := NB578_569.out
                          have hcz73_0 : wr.cell? ⟨gb569, 0, none⟩ = some (.int .i64 t561) := (blk_cell BK569.out 0).trans rfl
                          have hcz73_1 : wr.cell? ⟨gb569, 1, none⟩ = some (.slice Ao23 t562.length co23) := (blk_cell BK569.out 1).trans rfl
                          have hcz73_2 : wr.cell? ⟨gb569, 2, none⟩ = some (.slice Ao24 t565.length co24) := (blk_cell BK569.out 2).trans rfl
                          have hfz73_0 := blk_frozen BK569.out 0
                          have hfz73_1 := blk_frozen BK569.out 1
                          have hfz73_2 := blk_frozen BK569.out 2
                          go_wp2_with (first | ((with_reducible refine gate_callee (f := 35) rfl ?_); refine goesL_ (some 128) rfl rfl Try.func35 (by kernel_rfl) rfl #[.agg #[.int .i64 t561, .slice Ao23 t562.length co23, .slice Ao24 t565.length co24], .int .i64 a4, .slice A0 l0.length c0] rfl (by (try simp only [List.map_toArray, List.map_cons, List.map_nil]); first | done | rfl | (simp only [List.length_drop, List.length_take]; rfl)) ?_; (with_reducible refine (code_Worst.calls k3 t561 _ _ t562 _ _ t565 a4 _ _ l0 t591 _ ?side1 ?side2 ?side3 ?side4 ?side5 ?side6 A60.out).mono ?_); (case side1 => repeat (first | exact (Kd.R_reads' HO_570001.out).2.2 | (with_reducible refine Kd.C_alloc ?_ _) | (with_reducible refine Kd.C_drewN ?_ _) | (with_reducible refine Kd.C_drew ?_))); (case side2 => exact (Kd.R_reads' HO_570001.out).2.1); (case side3 => repeat (first | exact (Kd.R_reads' HO_570002.out).2.2 | (with_reducible refine Kd.C_alloc ?_ _) | (with_reducible refine Kd.C_drewN ?_ _) | (with_reducible refine Kd.C_drew ?_))); (case side4 => exact (Kd.R_reads' HO_570002.out).2.1); (case side5 => repeat (first | exact (Kd.C_below HR0.out HB.out) | (with_reducible refine Kd.C_alloc ?_ _) | (with_reducible refine Kd.C_drewN ?_ _) | (with_reducible refine Kd.C_drew ?_))); (case side6 => exact HC0.out); rintro e w74 ⟨rfl, hb⟩; refine ⟨_, rfl, ?_⟩; have n0_ := Aside0.mk (Kd.R_below (by (with_reducible repeat (first | apply Kd.R_alloc | apply Kd.R_drewN | apply Kd.R_drew)); exact HO_570001.out) hb); have n1_ := Aside0.mk (Kd.R_below (by (with_reducible repeat (first | apply Kd.R_alloc | apply Kd.R_drewN | apply Kd.R_drew)); exact HO_570002.out) hb); have n2_ := Aside0.mk (Kd.R_below (by (with_reducible repeat (first | apply Kd.R_alloc | apply Kd.R_drewN | apply Kd.R_drew)); exact HO_579001.out) hb); have n3_ := Aside0.mk (Kd.R_below (by (with_reducible repeat (first | apply Kd.R_alloc | apply Kd.R_drewN | apply Kd.R_drew)); exact HO_579002.out) hb); have n4_ := Aside0.mk (blk_below (g := gb569) (o := .cells #[.int .i64 t561, .slice Ao23 t562.length co23, .slice Ao24 t565.length co24] 25 (0, 0)) (by (with_reducible repeat (first | refine blk_drewN ?_ _ | refine blk_drew ?_ | refine blk_alloc ?_ _)); exact BK569.out) hb); have n5_ := Aside0.mk (blk_below (g := gb578) (o := .cells #[.int .i64 t570, .slice Ao29 t571.length co29, .slice Ao30 t574.length co30] 25 (0, 0)) (by (with_reducible repeat (first | refine blk_drewN ?_ _ | refine blk_drew ?_ | refine blk_alloc ?_ _)); exact BK578.out) hb); have n6_ := Aside0.mk (below_step (by repeat (first | (with_reducible first | exact HB.out | apply below_alloc | apply pw_below_drewN | apply below_drew1 | refine below_set ?_ GE569.out | refine below_set ?_ GE578.out) | exact HB.out)) hb); clear HO_570001; clear HO_570002; clear HO_579001; clear HO_579002; clear BK569; clear BK578; clear HB; have HO_570001 := n0_; have HO_570002 := n1_; have HO_579001 := n2_; have HO_579002 := n3_; have BK569 := n4_; have BK578 := n5_; have HB := n6_; clear n0_ n1_ n2_ n3_ n4_ n5_ n6_; (try clear hb); (try clear hb2); (try clear hk); (try clear hi); have hcz75_0 : w74.cell? ⟨gb578, 0, none⟩ = some (.int .i64 t570) := (blk_cell BK578.out 0).trans rfl; have hcz75_1 : w74.cell? ⟨gb578, 1, none⟩ = some (.slice Ao29 t571.length co29) := (blk_cell BK578.out 1).trans rfl; have hcz75_2 : w74.cell? ⟨gb578, 2, none⟩ = some (.slice Ao30 t574.length co30) := (blk_cell BK578.out 2).trans rfl; have hfz75_0 := blk_frozen BK578.out 0; have hfz75_1 := blk_frozen BK578.out 1; have hfz75_2 := blk_frozen BK578.out 2) | ((with_reducible refine gate_callee (f := 35) rfl ?_); refine goesL_ (some 132) rfl rfl Try.func35 (by kernel_rfl) rfl #[.agg #[.int .i64 t570, .slice Ao29 t571.length co29, .slice Ao30 t574.length co30], .int .i64 a4, .slice A0 l0.length c0] rfl (by (try simp only [List.map_toArray, List.map_cons, List.map_nil]); first | done | rfl | (simp only [List.length_drop, List.length_take]; rfl)) ?_; (with_reducible refine (code_Worst.calls k3 t570 _ _ t571 _ _ t574 a4 _ _ l0 t592 _ ?side1 ?side2 ?side3 ?side4 ?side5 ?side6 A61.out).mono ?_); (case side1 => repeat (first | exact (Kd.R_reads' HO_579001.out).2.2 | (with_reducible refine Kd.C_alloc ?_ _) | (with_reducible refine Kd.C_drewN ?_ _) | (with_reducible refine Kd.C_drew ?_))); (case side2 => exact (Kd.R_reads' HO_579001.out).2.1); (case side3 => repeat (first | exact (Kd.R_reads' HO_579002.out).2.2 | (with_reducible refine Kd.C_alloc ?_ _) | (with_reducible refine Kd.C_drewN ?_ _) | (with_reducible refine Kd.C_drew ?_))); (case side4 => exact (Kd.R_reads' HO_579002.out).2.1); (case side5 => repeat (first | exact (Kd.C_below HR0.out HB.out) | (with_reducible refine Kd.C_alloc ?_ _) | (with_reducible refine Kd.C_drewN ?_ _) | (with_reducible refine Kd.C_drew ?_))); (case side6 => exact HC0.out); rintro e w76 ⟨rfl, hb⟩; refine ⟨_, rfl, ?_⟩; have n0_ := Aside0.mk (Kd.R_below (by (with_reducible repeat (first | apply Kd.R_alloc | apply Kd.R_drewN | apply Kd.R_drew)); exact HO_570001.out) hb); have n1_ := Aside0.mk (Kd.R_below (by (with_reducible repeat (first | apply Kd.R_alloc | apply Kd.R_drewN | apply Kd.R_drew)); exact HO_570002.out) hb); have n2_ := Aside0.mk (Kd.R_below (by (with_reducible repeat (first | apply Kd.R_alloc | apply Kd.R_drewN | apply Kd.R_drew)); exact HO_579001.out) hb); have n3_ := Aside0.mk (Kd.R_below (by (with_reducible repeat (first | apply Kd.R_alloc | apply Kd.R_drewN | apply Kd.R_drew)); exact HO_579002.out) hb); have n4_ := Aside0.mk (blk_below (g := gb569) (o := .cells #[.int .i64 t561, .slice Ao23 t562.length co23, .slice Ao24 t565.length co24] 25 (0, 0)) (by (with_reducible repeat (first | refine blk_drewN ?_ _ | refine blk_drew ?_ | refine blk_alloc ?_ _)); exact BK569.out) hb); have n5_ := Aside0.mk (blk_below (g := gb578) (o := .cells #[.int .i64 t570, .slice Ao29 t571.length co29, .slice Ao30 t574.length co30] 25 (0, 0)) (by (with_reducible repeat (first | refine blk_drewN ?_ _ | refine blk_drew ?_ | refine blk_alloc ?_ _)); exact BK578.out) hb); have n6_ := Aside0.mk (below_step (by repeat (first | (with_reducible first | exact HB.out | apply below_alloc | apply pw_below_drewN | apply below_drew1 | refine below_set ?_ GE569.out | refine below_set ?_ GE578.out) | exact HB.out)) hb); clear HO_570001; clear HO_570002; clear HO_579001; clear HO_579002; clear BK569; clear BK578; clear HB; have HO_570001 := n0_; have HO_570002 := n1_; have HO_579001 := n2_; have HO_579002 := n3_; have BK569 := n4_; have BK578 := n5_; have HB := n6_; clear n0_ n1_ n2_ n3_ n4_ n5_ n6_; (try clear hb); (try clear hb2); (try clear hk); (try clear hi)) | ((with_reducible refine gate_callee (f := 11) rfl ?_); refine goesL_ (some 133) rfl rfl Try.func11 (by kernel_rfl) rfl #[] rfl (by (try simp only [List.map_toArray, List.map_cons, List.map_nil]); first | done | rfl | (simp only [List.length_drop, List.length_take]; rfl)) ?_; (with_reducible refine (antiquarylaw08_sanity.calls k3  true _ A62.out (by first | rfl | exact HT.out)).mono ?_); rintro e w77 ⟨rfl, hb⟩; refine ⟨_, rfl, ?_⟩; have n0_ := Aside0.mk (Kd.R_below (by (with_reducible repeat (first | apply Kd.R_alloc | apply Kd.R_drewN | apply Kd.R_drew)); exact HO_570001.out) hb); have n1_ := Aside0.mk (Kd.R_below (by (with_reducible repeat (first | apply Kd.R_alloc | apply Kd.R_drewN | apply Kd.R_drew)); exact HO_570002.out) hb); have n2_ := Aside0.mk (Kd.R_below (by (with_reducible repeat (first | apply Kd.R_alloc | apply Kd.R_drewN | apply Kd.R_drew)); exact HO_579001.out) hb); have n3_ := Aside0.mk (Kd.R_below (by (with_reducible repeat (first | apply Kd.R_alloc | apply Kd.R_drewN | apply Kd.R_drew)); exact HO_579002.out) hb); have n4_ := Aside0.mk (blk_below (g := gb569) (o := .cells #[.int .i64 t561, .slice Ao23 t562.length co23, .slice Ao24 t565.length co24] 25 (0, 0)) (by (with_reducible repeat (first | refine blk_drewN ?_ _ | refine blk_drew ?_ | refine blk_alloc ?_ _)); exact BK569.out) hb); have n5_ := Aside0.mk (blk_below (g := gb578) (o := .cells #[.int .i64 t570, .slice Ao29 t571.length co29, .slice Ao30 t574.length co30] 25 (0, 0)) (by (with_reducible repeat (first | refine blk_drewN ?_ _ | refine blk_drew ?_ | refine blk_alloc ?_ _)); exact BK578.out) hb); have n6_ := Aside0.mk (below_step (by repeat (first | (with_reducible first | exact HB.out | apply below_alloc | apply pw_below_drewN | apply below_drew1 | refine below_set ?_ GE569.out | refine below_set ?_ GE578.out) | exact HB.out)) hb); clear HO_570001; clear HO_570002; clear HO_579001; clear HO_579002; clear BK569; clear BK578; clear HB; have HO_570001 := n0_; have HO_570002 := n1_; have HO_579001 := n2_; have HO_579002 := n3_; have BK569 := n4_; have BK578 := n5_; have HB := n6_; clear n0_ n1_ n2_ n3_ n4_ n5_ n6_; (try clear hb); (try clear hb2); (try clear hk); (try clear hi)))
                          go_ret
                          exact ⟨by first | rfl | (simp [errW_none, errW_some] <;> rfl) | (simp only [← hji14, ← hji16, ← hji17]; first | rfl | (simp [errW_none, errW_some] <;> rfl)) | (simp [*, errW_none, errW_some] <;> rfl), by repeat (first | (with_reducible first | exact HB.out | apply below_alloc | apply pw_below_drewN | apply below_drew1 | refine below_set ?_ GE569.out | refine below_set ?_ GE578.out) | exact HB.out)⟩
                      · rw [if_neg c64] at H
                        have c64b0 : decide (t592 ≤ t591) = false := decide_eq_false c64
                        clear c64
                        exact absurd (Option.some.inj H) (by rw [HT.out]; decide)
                    · replace c63 := Bool.eq_false_iff.mpr c63
                      subst c63
                      have H1 : (some false) = some r := by rw [if_neg (show ¬ (false = true) by decide)] at H; exact H
                      clear H
                      have H := H1
                      clear H1
                      exact absurd (Option.some.inj H) (by rw [HT.out]; decide)
end Go.Proofs.Ytgpdfalopdhjlaa.Q
end
section
set_option linter.unusedVariables false
namespace Go.Proofs.Ytgpdfalopdhjlaa.Book
open Go.RowKit Go.Proofs.Ytgpdfalopdhjlaa.Q Go.Proofs.YtgpdfalopdhjlaaW.PrintWords Plain
theorem rdn (l : List Int) (k : Nat) (h : k < l.length) : rd l (k : Int) = l[k] := by unfold rd; rw [Int.toNat_natCast, List.getD_eq_getElem?_getD, List.getElem?_eq_getElem h]; rfl
theorem rdn_L1 (l : List (List Int)) (k : Nat) (h : k < l.length) : rd_L1 l (k : Int) = l[k] := by unfold rd_L1; rw [Int.toNat_natCast, List.getD_eq_getElem?_getD, List.getElem?_eq_getElem h]; rfl
theorem rd_mem_L1 (l : List (List Int)) {k : Int} (h0 : 0 ≤ k) (h : k < l.length) : rd_L1 l k ∈ l := by
  obtain ⟨n, rfl⟩ : ∃ n : Nat, k = n := ⟨k.toNat, by omega⟩
  rw [rdn_L1 l n (by omega)]
  exact List.getElem_mem _
theorem rd_L2_words (words : List (List (List Int))) (i : Nat) : rd_L2 words (i : Int) = wordsAt words i := by unfold rd_L2 wordsAt; rw [Int.toNat_natCast]
/-- keys put together, part by part -/
def joinUpTo (m : Int) (g : Nat → Int) : Nat → Int
  | 0 => 0
  | n + 1 => join m (joinUpTo m g n) (g n)
theorem joinUpTo_mono {m : Int} {g h : Nat → Int} : ∀ n, (∀ i, i < n → g i ≤ h i) → joinUpTo m g n ≤ joinUpTo m h n
  | 0, _ => Int.le_refl _
  | n + 1, e => join_mono m (joinUpTo_mono n (fun i hi => e i (by omega))) (e n (by omega))
theorem joinUpTo_zero {m : Int} {g : Nat → Int} : ∀ n, (∀ i, i < n → g i = 0) → joinUpTo m g n = 0
  | 0, _ => rfl
  | n + 1, e => by rw [joinUpTo, joinUpTo_zero n (fun i hi => e i (by omega)), e n (by omega), join_zero m (Int.le_refl _)]
theorem foldl_fin {m : Int} {g : Nat → Int} {N : Nat} : ∀ n, n ≤ N → ((List.finRange N).take n).foldl (fun a i => join m a (g i.val)) 0 = joinUpTo m g n
  | 0, _ => by simp [joinUpTo]
  | n + 1, h => by rw [fin_take (show n < N by omega), List.foldl_append, foldl_fin n (by omega)]; rfl
theorem residual_join (dims : Int) (cuts : List Int) (words : List (List (List Int))) (m : Int) (v : List Int) : residualOf dims cuts words m v (List.finRange cuts.length) = joinUpTo m (fun i => (encodeAt dims cuts words m v i).2) cuts.length := by
  have h := foldl_fin (m := m) (g := fun i => (encodeAt dims cuts words m v i).2) (N := cuts.length) cuts.length (Nat.le_refl _)
  rw [List.take_of_length_le (by simp)] at h
  exact h
def isCode (words : List (List (List Int))) (c : List Int) : Prop := c.length = words.length ∧ ∀ i, i < c.length → 0 ≤ rd c (i : Int) ∧ rd c (i : Int) < (wordsAt words i).length
instance (words : List (List (List Int))) (c : List Int) : Decidable (isCode words c) := by unfold isCode; infer_instance
/-- the nearest word: its place, its key, and no word is nearer -/
theorem nearW_spec (m : Int) (u : List Int) : ∀ (ws : List (List Int)) (i : Nat) (b : Int × Int), (nearW m u ws i b = b ∧ ∀ w ∈ ws, b.2 ≤ key m w u) ∨
    (∃ (j : Nat) (hj : j < ws.length), nearW m u ws i b = (((i + j : Nat) : Int), key m ws[j] u) ∧ key m ws[j] u < b.2 ∧ ∀ w ∈ ws, key m ws[j] u ≤ key m w u)
  | [], i, b => .inl ⟨rfl, by simp⟩
  | w :: ws, i, b => by
    unfold nearW
    by_cases h : key m w u < b.2
    · rw [if_pos h]
      rcases nearW_spec m u ws (i + 1) ((i : Int), key m w u) with ⟨h1, h2⟩ | ⟨j, hj, h1, h2, h3⟩
      · refine .inr ⟨0, by simp, by rw [h1]; rfl, h, ?_⟩
        intro x hx
        rcases List.mem_cons.1 hx with rfl | hx
        · exact Int.le_refl _
        · exact h2 x hx
      · refine .inr ⟨j + 1, by simpa using hj, ?_, ?_, ?_⟩
        · rw [h1, show i + 1 + j = i + (j + 1) by omega]; rfl
        · exact Int.lt_trans h2 h
        · intro x hx
          rcases List.mem_cons.1 hx with rfl | hx
          · exact Int.le_of_lt h2
          · exact h3 x hx
    · rw [if_neg h]
      rcases nearW_spec m u ws (i + 1) b with ⟨h1, h2⟩ | ⟨j, hj, h1, h2, h3⟩
      · refine .inl ⟨h1, ?_⟩
        intro x hx
        rcases List.mem_cons.1 hx with rfl | hx
        · omega
        · exact h2 x hx
      · refine .inr ⟨j + 1, by simpa using hj, ?_, h2, ?_⟩
        · rw [h1, show i + 1 + j = i + (j + 1) by omega]; rfl
        · intro x hx
          rcases List.mem_cons.1 hx with rfl | hx
          · show key m ws[j] u ≤ _
            omega
          · exact h3 x hx
theorem nearest_spec (m : Int) {u : List Int} {ws : List (List Int)} (h0 : 0 < ws.length) (ha : ∀ w ∈ ws, alike w u) : ∃ (j : Nat) (hj : j < ws.length), nearestOf m ws u = ((j : Int), key m ws[j] u) ∧ ∀ w ∈ ws, key m ws[j] u ≤ key m w u := by
  rcases nearW_spec m u ws 0 (0, 134217729) with ⟨_, h2⟩ | ⟨j, hj, h1, _, h3⟩
  · have hm := List.getElem_mem h0
    have h4 := h2 _ hm
    have h5 := key_isKey m (ha _ hm)
    unfold isKey at h5
    dsimp only at h4
    omega
  · exact ⟨j, hj, by rw [nearestOf, h1, Nat.zero_add], h3⟩
theorem encodeAt_spec {dims : Int} {cuts : List Int} {words : List (List (List Int))} {v : List Int} (m : Int) (hb : bookOk dims cuts words) (hs : isVec v) (hv : (v.length : Int) = dims) {i : Nat} (hi : i < cuts.length) :
    ∃ (j : Nat) (hj : j < (wordsAt words i).length), encodeAt dims cuts words m v i = ((j : Int), key m (wordsAt words i)[j] (partOf v (Q.partAt cuts dims i))) ∧ ∀ w ∈ wordsAt words i, key m (wordsAt words i)[j] (partOf v (Q.partAt cuts dims i)) ≤ key m w (partOf v (Q.partAt cuts dims i)) :=
  nearest_spec m (by have := (hb.2.2 i hi).1.1; omega) (book_alike hb hi hv hs)
end Go.Proofs.Ytgpdfalopdhjlaa.Book
end
section
set_option linter.unusedVariables false
namespace Go.Proofs.Ytgpdfalopdhjlaa.Ev08
open Go.RowKit Go.Proofs.Ytgpdfalopdhjlaa.Q Go.Proofs.YtgpdfalopdhjlaaW.PrintWords Plain Go.Proofs.Ytgpdfalopdhjlaa.Book
theorem same_ints (a : List Int) (ha : a.length ≤ 4611686018427387904) : Ev (fun k => antiquaryref04_Same.f k a a) true := by
  have h : Ev (fun k => antiquaryref04_Compare.f k a a) 0 := by
    refine ev_neg (by omega) (ev_neg (by omega) ?_)
    refine ev_count0 (G := fun i k => antiquaryref04_Compare.l0 k a a (i : Int)) (n := a.length) (fun i hi h => ?_) ?_
    · refine ev_succ ?_
      simp only [antiquaryref04_Compare.l0]
      refine ev_pos (by omega) (ev_pos (by omega) (ev_pos (by omega) (ev_neg (by omega) (ev_neg (by omega) ?_))))
      rw [wsuc i (by omega)]
      exact h
    · refine ev_succ ?_
      simp only [antiquaryref04_Compare.l0]
      exact ev_neg (by omega) (ev_some rfl)
  exact ev_bind h (ev_some rfl)
theorem same_rows (a : List (List Int)) (ha : a.length ≤ 4611686018427387904) (hv : ∀ v ∈ a, v.length ≤ 4611686018427387904) : Ev (fun k => antiquaryref08_SameRows.f k a a) true := by
  refine ev_pos rfl ?_
  refine ev_count0 (G := fun i k => antiquaryref08_SameRows.l0 k a a (i : Int)) (n := a.length) (fun i hi h => ?_) ?_
  · refine ev_succ ?_
    simp only [antiquaryref08_SameRows.l0]
    refine ev_pos (by omega) (ev_pos (by omega) (ev_pos (by omega) (ev_bind (same_ints _ (hv _ (rd_mem_L1 a (by omega) (by omega)))) (ev_pos rfl ?_))))
    rw [wsuc i (by omega)]
    exact h
  · refine ev_succ ?_
    simp only [antiquaryref08_SameRows.l0]
    exact ev_neg (by omega) (ev_some rfl)
theorem valid_any (v : List Int) (hl : v.length ≤ 9223372036854775807) : Ev (fun k => antiquaryref04_Valid.f k v) (decide (isVec v)) := by
  have bad : ∀ i, i < v.length → ¬ (-1000 ≤ rd v (i : Int) ∧ rd v (i : Int) ≤ 1000) → false = decide (isVec v) := fun i hi h => by
    symm
    rw [decide_eq_false_iff_not]
    intro h2
    rw [rdn v i hi] at h
    exact h (h2.1 _ (List.getElem_mem hi))
  refine ev_count (G := fun i k => antiquaryref04_Valid.l0 k v (i : Int)) (n := v.length) (fun i => ∀ j, j < i → -1000 ≤ rd v (j : Int) ∧ rd v (j : Int) ≤ 1000) (fun j hj => by omega) (fun i hi hI h => ?_) (fun hI => ?_)
  · refine ev_succ ?_
    simp only [antiquaryref04_Valid.l0]
    refine ev_pos (by omega) (ev_pos (by omega) ?_)
    by_cases c1 : rd v (i : Int) < -1000
    · exact ev_pos c1 (ev_some (bad i hi (by omega)))
    refine ev_neg c1 ?_
    by_cases c2 : rd v (i : Int) > 1000
    · exact ev_pos c2 (ev_some (bad i hi (by omega)))
    refine ev_neg c2 ?_
    rw [wsuc i (by omega)]
    exact h (fun j hj => by
      rcases Nat.lt_or_ge j i with h4 | h4
      · exact hI j h4
      · obtain rfl : j = i := by omega
        omega)
  · have hall : ∀ x ∈ v, -1000 ≤ x ∧ x ≤ 1000 := fun x hx => by
      obtain ⟨j, hj, rfl⟩ := List.mem_iff_getElem.1 hx
      have := hI j hj
      rwa [rdn v j hj] at this
    refine ev_succ ?_
    simp only [antiquaryref04_Valid.l0]
    refine ev_neg (by omega) ?_
    by_cases h1 : (v.length : Int) ≥ 1
    · refine ev_pos h1 (ev_some ?_)
      rw [decide_eq_decide]
      exact ⟨fun h => ⟨hall, by omega, by omega⟩, fun h => by have := h.2.2; omega⟩
    · refine ev_neg h1 (ev_some (decide_eq_false (fun h => by have := h.2.1; omega)).symm)
/-- a codebook with few words -/
def fewW (ws : List (List Int)) : Prop := (ws.length ≤ 30 ∨ (256 < ws.length ∧ ws.length ≤ 300)) ∧ ∀ j, j < ws.length → (rd_L1 ws (j : Int)).length ≤ 33
instance (ws : List (List Int)) : Decidable (fewW ws) := by unfold fewW; infer_instance
def few (cuts : List Int) (words : List (List (List Int))) : Prop := (words.length ≤ 9 ∧ cuts.length ≤ 9) ∧ ∀ i, i < words.length → fewW (wordsAt words i)
instance (cuts : List Int) (words : List (List (List Int))) : Decidable (few cuts words) := by unfold few; infer_instance
theorem metric_is (m : Int) : antiquaryref04_Metric.f m = some (decide (1 ≤ m ∧ m ≤ 3)) := by
  unfold antiquaryref04_Metric.f
  by_cases h : m ≥ 1
  · rw [if_pos h]
    congr 1
    rw [decide_eq_decide]
    omega
  · rw [if_neg h, decide_eq_false (by omega)]
/-- what the statements ask of a codebook, a metric and two vectors -/
def rightOk (d : Int) (cuts : List Int) (words : List (List (List Int))) (m : Int) (v q : List Int) : Prop := few cuts words ∧ bookOk d cuts words ∧ (1 ≤ m ∧ m ≤ 3) ∧ (isVec v ∧ isVec q) ∧ (v.length : Int) = d ∧ (q.length : Int) = d
instance (d : Int) (cuts : List Int) (words : List (List (List Int))) (m : Int) (v q : List Int) : Decidable (rightOk d cuts words m v q) := by unfold rightOk; infer_instance
end Go.Proofs.Ytgpdfalopdhjlaa.Ev08
end
section
set_option linter.unusedVariables false
namespace Go.Proofs.Ytgpdfalopdhjlaa.Train
open Go.RowKit Go.Proofs.Ytgpdfalopdhjlaa.Q Go.Proofs.YtgpdfalopdhjlaaW.PrintWords Go.Proofs.YtgpdfalopdhjlaaW.PrintMore Plain Go.Proofs.Ytgpdfalopdhjlaa.Book
theorem pigeon {α : Type} [DecidableEq α] : ∀ (out P : List α), out.Nodup → (∀ x ∈ out, x ∈ P) → out.length ≤ P.length
  | [], _, _, _ => Nat.zero_le _
  | x :: out, P, hn, hs => by
    have hx := hs x List.mem_cons_self
    have hn2 := List.nodup_cons.1 hn
    have := pigeon out (P.erase x) hn2.2 (fun y hy => (List.mem_erase_of_ne (show y ≠ x from fun e => hn2.1 (by rw [← e]; exact hy))).2 (hs y (List.mem_cons_of_mem _ hy)))
    rw [List.length_erase_of_mem hx] at this
    have := List.length_pos_of_mem hx
    simp only [List.length_cons]
    omega
theorem pigeon_all {α : Type} [DecidableEq α] {out P : List α} (hn : out.Nodup) (hs : ∀ x ∈ out, x ∈ P) (hl : P.length ≤ out.length) : ∀ p ∈ P, p ∈ out := by
  intro p hp
  by_cases h : p ∈ out
  · exact h
  · have := pigeon (p :: out) P (List.nodup_cons.2 ⟨h, hn⟩) (fun x hx => by
      rcases List.mem_cons.1 hx with rfl | hx
      · exact hp
      · exact hs x hx)
    simp only [List.length_cons] at this
    omega
theorem key2_zero : ∀ (p q : List Int), p.length = q.length → key 2 p q = 0 → p = q
  | [], [], _, _ => rfl
  | x :: p, y :: q, h, hk => by
    rw [key2_cons] at hk
    have h1 := sq_nonneg (x - y)
    have h2 := key_nonneg 2 p q
    have h3 : x - y = 0 := by
      rcases Int.mul_eq_zero.1 (show (x - y) * (x - y) = 0 by omega) with h | h <;> exact h
    rw [key2_zero p q (by simpa using h) (by omega), show x = y by omega]
theorem bestUpTo_max (far : List Int) : ∀ (k i : Nat), i < k → rd far (i : Int) ≤ rd far (bestUpTo far k : Int)
  | k + 1, i, hi => by
    have h0 := bestUpTo_max far k
    rw [bestUpTo]
    split
    · rename_i h
      rcases Nat.lt_or_ge i k with h2 | h2
      · have := h0 i h2; omega
      · obtain rfl : i = k := by omega
        exact Int.le_refl _
    · rename_i h
      rcases Nat.lt_or_ge i k with h2 | h2
      · exact h0 i h2
      · obtain rfl : i = k := by omega
        omega
/-- the parts of vectors -/
def partsOf (l : List (List Int)) (x : Int × Int × Int) : List (List Int) := l.map (fun v => partOf v x)
theorem parts_at {l : List (List Int)} {x : Int × Int × Int} {k : Nat} (h : k < l.length) : partOf (rd_L1 l (k : Int)) x ∈ partsOf l x := by
  rw [rdn_L1 l k h]
  exact List.mem_map.2 ⟨_, List.getElem_mem h, rfl⟩
/-- vectors whose parts are alike -/
def partsGood (l : List (List Int)) (x : Int × Int × Int) : Prop := ∃ n : Nat, ∀ p ∈ partsOf l x, isVec p ∧ p.length = n
/-- what is told of the distances: 0 exactly where a part is a word already -/
def farOk (l : List (List Int)) (x : Int × Int × Int) (out : List (List Int)) (far : List Int) : Prop := far.length = l.length ∧ ∀ k, k < l.length → 0 ≤ rd far (k : Int) ∧ (rd far (k : Int) = 0 ↔ partOf (rd_L1 l (k : Int)) x ∈ out)
theorem farOk_next {l : List (List Int)} {x : Int × Int × Int} {out : List (List Int)} {far : List Int} {w : List Int} (h : farOk l x out far) (hg : partsGood l x) (hw : w ∈ partsOf l x) : farOk l x (out ++ [w]) (nearer l x w far) := by
  obtain ⟨n, hg⟩ := hg
  refine ⟨nearer_length l x w far h.1, fun k hk => ?_⟩
  have ha := nearer_at l x w far k h.1 hk
  have hf := h.2 k hk
  have hlt : k < (nearer l x w far).length := by rw [nearer_length l x w far h.1]; exact hk
  rw [List.getElem?_eq_getElem hlt] at ha
  have e : rd (nearer l x w far) (k : Int) = mn (rd far (k : Int)) (key 2 w (partOf (rd_L1 l (k : Int)) x)) := by rw [rdn _ k hlt]; exact Option.some.inj ha
  have hkn := key_nonneg 2 w (partOf (rd_L1 l (k : Int)) x)
  have hl : w.length = (partOf (rd_L1 l (k : Int)) x).length := by rw [(hg _ hw).2, (hg _ (parts_at hk)).2]
  rw [e]
  refine ⟨by unfold mn; split <;> omega, ?_⟩
  rw [List.mem_append, List.mem_singleton, ← hf.2]
  constructor
  · intro h0
    unfold mn at h0
    split at h0
    · exact .inr (key2_zero _ _ hl h0).symm
    · exact .inl h0
  · rintro (h0 | h0)
    · unfold mn; split <;> omega
    · rw [h0, key_self]; unfold mn; split <;> omega
theorem run_prefix (l : List (List Int)) (x : Int × Int × Int) : ∀ n out far, out <+: trainRun l x n out far
  | 0, _, _ => List.prefix_refl _
  | n + 1, out, far => by
    rw [trainRun]
    split
    · exact List.prefix_refl _
    · exact (List.prefix_append _ _).trans (run_prefix l x n _ _)
theorem run_more (l : List (List Int)) (x : Int × Int × Int) : ∀ n d out far, trainRun l x n out far <+: trainRun l x (n + d) out far
  | 0, d, out, far => run_prefix l x (0 + d) out far
  | n + 1, d, out, far => by
    rw [show n + 1 + d = (n + d) + 1 by omega, trainRun, trainRun]
    split
    · exact List.prefix_refl _
    · exact run_more l x n d _ _
theorem run_length (l : List (List Int)) (x : Int × Int × Int) : ∀ n out far, (trainRun l x n out far).length ≤ out.length + n
  | 0, _, _ => Nat.le_refl _
  | n + 1, out, far => by
    rw [trainRun]
    split
    · omega
    · have := run_length l x n (out ++ [partOf (rd_L1 l (bestOf far : Int)) x]) (nearer l x (partOf (rd_L1 l (bestOf far : Int)) x) far)
      simp only [List.length_append, List.length_cons, List.length_nil] at this
      omega
theorem bestOf_lt {far : List Int} (h : 0 < far.length) : bestOf far < far.length := bestUpTo_lt far _ h
theorem run_parts {l : List (List Int)} {x : Int × Int × Int} (hl : 0 < l.length) : ∀ n out far, far.length = l.length → (∀ w ∈ out, w ∈ partsOf l x) → ∀ w ∈ trainRun l x n out far, w ∈ partsOf l x
  | 0, _, _, _, h => h
  | n + 1, out, far, hf, h => by
    rw [trainRun]
    split
    · exact h
    · refine run_parts hl n _ _ (nearer_length l x _ far hf) ?_
      intro w hw
      rcases List.mem_append.1 hw with hw | hw
      · exact h w hw
      · rw [List.mem_singleton.1 hw]
        exact parts_at (by have := bestOf_lt (far := far) (by omega); omega)
theorem run_covers {l : List (List Int)} {x : Int × Int × Int} (hl : 0 < l.length) (hg : partsGood l x) : ∀ n out far, farOk l x out far → out.Nodup → (∀ w ∈ out, w ∈ partsOf l x) → l.length ≤ out.length + n → ∀ p ∈ partsOf l x, p ∈ trainRun l x n out far
  | 0, out, far, _, hn, hs, h => pigeon_all hn hs (by unfold partsOf; rw [List.length_map]; exact h)
  | n + 1, out, far, hf, hn, hs, h => by
    have hb := bestOf_lt (far := far) (by have := hf.1; omega)
    rw [hf.1] at hb
    rw [trainRun]
    split
    · rename_i h0
      intro p hp
      obtain ⟨v, hv, rfl⟩ := List.mem_map.1 hp
      obtain ⟨k, hk, rfl⟩ := List.mem_iff_getElem.1 hv
      have hm := bestUpTo_max far far.length k (by have := hf.1; omega)
      have := hf.2 k hk
      unfold bestOf at h0
      rw [← rdn_L1 l k hk]
      exact this.2.1 (by omega)
    · rename_i h0
      have hw := parts_at (x := x) hb
      refine run_covers hl hg n _ _ (farOk_next hf hg hw) ?_ ?_ (by simp only [List.length_append, List.length_cons, List.length_nil]; omega)
      · rw [List.nodup_append]
        refine ⟨hn, by simp, ?_⟩
        intro a ha b hb2
        rw [List.mem_singleton.1 hb2]
        intro e
        exact h0 ((hf.2 _ hb).2.2 (e ▸ ha))
      · intro w hw2
        rcases List.mem_append.1 hw2 with hw2 | hw2
        · exact hs w hw2
        · rw [List.mem_singleton.1 hw2]; exact hw
theorem farOk_start (l : List (List Int)) (x : Int × Int × Int) : farOk l x [] (List.replicate l.length 134217729) := by
  refine ⟨by simp, fun k hk => ?_⟩
  rw [rdn _ k (by simpa using hk)]
  simp
theorem train_length (l : List (List Int)) (x : Int × Int × Int) (n : Nat) : (trainOf l x n).length ≤ n := by
  have := run_length l x n [] (List.replicate l.length 134217729)
  rw [List.length_nil, Nat.zero_add] at this
  exact this
theorem train_more (l : List (List Int)) (x : Int × Int × Int) {n n2 : Nat} (h : n ≤ n2) : trainOf l x n <+: trainOf l x n2 := by
  have := run_more l x n (n2 - n) [] (List.replicate l.length 134217729)
  rwa [show n + (n2 - n) = n2 by omega] at this
theorem train_parts {l : List (List Int)} {x : Int × Int × Int} (hl : 0 < l.length) (n : Nat) : ∀ w ∈ trainOf l x n, w ∈ partsOf l x := run_parts hl n [] _ (by simp) (by simp)
theorem train_pos {l : List (List Int)} {x : Int × Int × Int} (hl : 0 < l.length) {n : Nat} (hn : 1 ≤ n) : 1 ≤ (trainOf l x n).length := by
  obtain ⟨m, rfl⟩ : ∃ m, n = m + 1 := ⟨n - 1, by omega⟩
  unfold trainOf
  rw [trainRun]
  have hb := bestOf_lt (far := List.replicate l.length 134217729) (by simpa using hl)
  rw [if_neg (by rw [rdn _ _ hb]; simp)]
  have := (run_prefix l x m ([] ++ [partOf (rd_L1 l (bestOf (List.replicate l.length 134217729) : Int)) x]) (nearer l x (partOf (rd_L1 l (bestOf (List.replicate l.length 134217729) : Int)) x) (List.replicate l.length 134217729))).length_le
  simpa using this
theorem train_covers {l : List (List Int)} {x : Int × Int × Int} (hl : 0 < l.length) (hg : partsGood l x) {n : Nat} (h : l.length ≤ n) : ∀ p ∈ partsOf l x, p ∈ trainOf l x n :=
  run_covers hl hg n [] _ (farOk_start l x) List.nodup_nil (by simp) (by simpa using h)
/-- the parts of vectors that are alike -/
theorem parts_good {l : List (List Int)} {cuts : List Int} (hin : trainIn l cuts) (hcut : cutOk cuts ((rd_L1 l 0).length : Int)) {i : Nat} (hi : i < cuts.length) :
    ∀ p ∈ partsOf l (Q.partAt cuts ((rd_L1 l 0).length : Int) i), isVec p ∧ (p.length : Int) = (Q.partAt cuts ((rd_L1 l 0).length : Int) i).2.2 - (Q.partAt cuts ((rd_L1 l 0).length : Int) i).2.1 := by
  intro p hp
  obtain ⟨v, hv, rfl⟩ := List.mem_map.1 hp
  have hv := hin.2.2 v hv
  exact ⟨partOf_vec hcut hi (by omega) hv.1, partOf_length hcut hi (by omega)⟩
theorem words_length (l : List (List Int)) (cuts : List Int) (n : Int) : (trainWords l cuts n (List.finRange cuts.length)).length = cuts.length := by unfold trainWords; rw [List.length_map, List.length_finRange]
theorem words_at (l : List (List Int)) (cuts : List Int) (n : Int) {i : Nat} (hi : i < cuts.length) : wordsAt (trainWords l cuts n (List.finRange cuts.length)) i = trainOf l (Q.partAt cuts ((rd_L1 l 0).length : Int) i) n.toNat := by
  unfold wordsAt trainWords
  rw [List.getD_eq_getElem?_getD, List.getElem?_eq_getElem (by simpa using hi)]
  simp
theorem train_book {l : List (List Int)} {cuts : List Int} {n : Int} (hin : trainIn l cuts) (hcut : cutOk cuts ((rd_L1 l 0).length : Int)) (hn : 1 ≤ n ∧ n ≤ 256) : bookOk ((rd_L1 l 0).length : Int) cuts (trainWords l cuts n (List.finRange cuts.length)) := by
  refine ⟨hcut, words_length l cuts n, fun i hi => ?_⟩
  rw [words_at l cuts n hi]
  have h1 := train_length l (Q.partAt cuts ((rd_L1 l 0).length : Int) i) n.toNat
  exact ⟨⟨train_pos hin.1.1 (by omega), by omega⟩, fun w hw => parts_good hin hcut hi w (train_parts hin.1.1 _ w hw)⟩
/-- more words: the residual is not greater -/
theorem residual_more {d : Int} {cuts : List Int} {words words2 : List (List (List Int))} {v : List Int} (m : Int) (h1 : bookOk d cuts words) (h2 : bookOk d cuts words2) (hp : ∀ i, i < cuts.length → ∀ w ∈ wordsAt words i, w ∈ wordsAt words2 i) (hs : isVec v) (hv : (v.length : Int) = d) :
    residualOf d cuts words2 m v (List.finRange cuts.length) ≤ residualOf d cuts words m v (List.finRange cuts.length) := by
  rw [residual_join, residual_join]
  refine joinUpTo_mono _ (fun i hi => ?_)
  obtain ⟨j, hj, e1, _⟩ := encodeAt_spec m h1 hs hv hi
  obtain ⟨j2, hj2, e2, h3⟩ := encodeAt_spec m h2 hs hv hi
  rw [e1, e2]
  exact h3 _ (hp i hi _ (List.getElem_mem hj))
/-- all parts are words: the residual is 0 -/
theorem residual_none {d : Int} {cuts : List Int} {words : List (List (List Int))} {v : List Int} (m : Int) (h1 : bookOk d cuts words) (hp : ∀ i, i < cuts.length → partOf v (Q.partAt cuts d i) ∈ wordsAt words i) (hs : isVec v) (hv : (v.length : Int) = d) :
    residualOf d cuts words m v (List.finRange cuts.length) = 0 := by
  rw [residual_join]
  refine joinUpTo_zero _ (fun i hi => ?_)
  obtain ⟨j, hj, e1, h3⟩ := encodeAt_spec m h1 hs hv hi
  have := h3 _ (hp i hi)
  rw [key_self] at this
  have := key_nonneg m (wordsAt words i)[j] (partOf v (Q.partAt cuts d i))
  rw [e1]
  show key m _ _ = 0
  omega
/-- the greatest residual -/
def worstOf (d : Int) (cuts : List Int) (words : List (List (List Int))) (m : Int) (l : List (List Int)) : Nat → Int
  | 0 => 0
  | n + 1 => mx (worstOf d cuts words m l n) (residualOf d cuts words m (rd_L1 l (n : Int)) (List.finRange cuts.length))
theorem worst_mono {d : Int} {cuts : List Int} {words words2 : List (List (List Int))} {m : Int} {l : List (List Int)} : ∀ n, n ≤ l.length → (∀ v ∈ l, residualOf d cuts words2 m v (List.finRange cuts.length) ≤ residualOf d cuts words m v (List.finRange cuts.length)) → worstOf d cuts words2 m l n ≤ worstOf d cuts words m l n
  | 0, _, _ => Int.le_refl _
  | n + 1, hn, h => by
    have h1 := worst_mono n (by omega) h
    have h2 := h _ (rd_mem_L1 l (k := (n : Int)) (by omega) (by omega))
    unfold worstOf mx
    split <;> split <;> omega
theorem worst_zero {d : Int} {cuts : List Int} {words : List (List (List Int))} {m : Int} {l : List (List Int)} : ∀ n, n ≤ l.length → (∀ v ∈ l, residualOf d cuts words m v (List.finRange cuts.length) = 0) → worstOf d cuts words m l n = 0
  | 0, _, _ => rfl
  | n + 1, hn, h => by
    have h1 := worst_zero n (by omega) h
    have h2 := h _ (rd_mem_L1 l (k := (n : Int)) (by omega) (by omega))
    unfold worstOf mx
    split <;> omega
end Go.Proofs.Ytgpdfalopdhjlaa.Train
end
section
set_option linter.unusedVariables false
namespace Go.Proofs.Ytgpdfalopdhjlaa.EvRead
open Go.RowKit Go.Proofs.Ytgpdfalopdhjlaa.Q Go.Proofs.YtgpdfalopdhjlaaW.PrintWords Go.Proofs.YtgpdfalopdhjlaaW.PrintMore Plain Go.Proofs.Ytgpdfalopdhjlaa.Book Go.Proofs.Ytgpdfalopdhjlaa.Ev08 Go.Proofs.Ytgpdfalopdhjlaa.Train
theorem fin_step {P : Nat → Prop} {i : Nat} (h : ∀ j, j < i → P j) (hi : P i) : ∀ j, j < i + 1 → P j := fun j hj => by
  rcases Nat.lt_or_ge j i with h4 | h4
  · exact h j h4
  · obtain rfl : j = i := by omega
    exact hi
theorem worst_ev {d : Int} {cuts : List Int} {words : List (List (List Int))} {m : Int} {l : List (List Int)} (hm : 1 ≤ m ∧ m ≤ 3) (hb : bookOk d cuts words) (hl : l.length ≤ 4096) (hv : ∀ v ∈ l, isVec v ∧ (v.length : Int) = d) : Ev (fun k => code_Worst.f k d cuts words m l) (worstOf d cuts words m l l.length) := by
  refine ev_count0 (G := fun i k => code_Worst.l0 k m (worstOf d cuts words m l i) l (l.length : Int) (i : Int) d cuts words) (n := l.length) (fun i hi h => ?_) ?_
  · have hi2 := hv _ (rd_mem_L1 l (k := (i : Int)) (by omega) (by omega))
    refine ev_succ ?_
    simp only [code_Worst.l0]
    refine ev_pos (by omega) (ev_pos (by omega) (ev_pos (by omega) (ev_ob (show code_Residual.f d cuts words m (rd_L1 l (i : Int)) = some _ from if_pos ⟨hm, hb, hi2.1, hi2.2⟩) ?_)))
    rw [wsuc i (by omega)]
    exact h
  · refine ev_succ ?_
    simp only [code_Worst.l0]
    exact ev_neg (by omega) (ev_some rfl)
end Go.Proofs.Ytgpdfalopdhjlaa.EvRead
end
section
set_option linter.unusedVariables false
namespace Go.Proofs.Ytgpdfalopdhjlaa.Sane
open Go.RowKit Go.Proofs.Ytgpdfalopdhjlaa.Q Go.Proofs.YtgpdfalopdhjlaaW.PrintWords Plain
theorem sanity_is : antiquarylaw08_sanity.f 60 = some true := by decide +kernel
theorem sanity_ev : Ev (fun k => antiquarylaw08_sanity.f k) true := ev_ofx (fun k => antiquarylaw08_sanity.mono k) ⟨60, sanity_is⟩
end Go.Proofs.Ytgpdfalopdhjlaa.Sane
end
section
set_option linter.unusedVariables false
namespace Go.Proofs.Ytgpdfalopdhjlaa.Pure
open Go.RowKit Go.Proofs.Ytgpdfalopdhjlaa.Q Go.Proofs.YtgpdfalopdhjlaaW.PrintWords Go.Proofs.YtgpdfalopdhjlaaW.PrintMore Plain Go.Proofs.Ytgpdfalopdhjlaa.Book Go.Proofs.Ytgpdfalopdhjlaa.Ev08 Go.Proofs.Ytgpdfalopdhjlaa.EvRead Go.Proofs.Ytgpdfalopdhjlaa.Train
theorem byte_range {x : Int} (h : (Go.Lit.int .u8 x).wf = true) : 0 ≤ x ∧ x ≤ 255 := by
  simp [Go.Lit.wf, Go.IntKind.min, Go.IntKind.max, Go.IntKind.bits, Go.IntKind.signed] at h
  omega
/-- vectors that are alike, at most so many -/
def allOk (l : List (List Int)) (most : Int) : Prop := (1 ≤ l.length ∧ (l.length : Int) ≤ most) ∧ ∀ i, i < l.length → alike (rd_L1 l 0) (rd_L1 l (i : Int))
instance (l : List (List Int)) (most : Int) : Decidable (allOk l most) := by unfold allOk; infer_instance
theorem alike_any (p q : List Int) (hp : p.length ≤ 9223372036854775807) (hq : q.length ≤ 9223372036854775807) : Ev (fun k => antiquaryref04_Alike.f k p q) (decide (alike p q)) := by
  unfold antiquaryref04_Alike.f
  refine ev_bind (valid_any p hp) ?_
  by_cases h1 : isVec p
  · refine ev_pos (by simpa using h1) (ev_bind (valid_any q hq) ?_)
    by_cases h2 : isVec q
    · refine ev_pos (by simpa using h2) (ev_some ?_)
      rw [Bool.eq_iff_iff, beq_iff_eq, decide_eq_true_eq]
      exact ⟨fun h => ⟨h1, h2, by omega⟩, fun h => by have := h.2.2; omega⟩
    · exact ev_neg (by simpa using h2) (ev_some (decide_eq_false (fun h => h2 h.2.1)).symm)
  · exact ev_neg (by simpa using h1) (ev_some (decide_eq_false (fun h => h1 h.1)).symm)
theorem all_ev (l : List (List Int)) (most : Int) (hl : l.length ≤ 9223372036854775807) (hv : ∀ v ∈ l, v.length ≤ 9223372036854775807) : Ev (fun k => antiquaryref04_All.f k l most) (decide (allOk l most)) := by
  refine ev_count (G := fun i k => antiquaryref04_All.l0 k l most (i : Int)) (n := l.length) (fun i => ∀ j, j < i → alike (rd_L1 l 0) (rd_L1 l (j : Int))) (fun j hj => by omega) (fun i hi hI h => ?_) (fun hI => ?_)
  · refine ev_succ ?_
    simp only [antiquaryref04_All.l0]
    refine ev_pos (by omega) (ev_pos (by omega) (ev_pos (by omega) (ev_bind (alike_any _ _ (hv _ (rd_mem_L1 l (k := 0) (by omega) (by omega))) (hv _ (rd_mem_L1 l (k := (i : Int)) (by omega) (by omega)))) ?_)))
    by_cases h1 : alike (rd_L1 l 0) (rd_L1 l (i : Int))
    · refine ev_pos (by simpa using h1) ?_
      rw [wsuc i (by omega)]
      exact h (fin_step hI h1)
    · exact ev_neg (by simpa using h1) (ev_some (decide_eq_false (fun h => h1 (h.2 i hi))).symm)
  · refine ev_succ ?_
    simp only [antiquaryref04_All.l0]
    refine ev_neg (by omega) ?_
    by_cases h1 : (l.length : Int) ≥ 1
    · refine ev_pos h1 (ev_some ?_)
      rw [decide_eq_decide]
      exact ⟨fun h => ⟨⟨by omega, h⟩, hI⟩, fun h => h.1.2⟩
    · exact ev_neg h1 (ev_some (decide_eq_false (fun h => by have := h.1.1; omega)).symm)
theorem all_in {l : List (List Int)} {cuts : List Int} (h : allOk l 40) (hc : cuts.length ≤ 9) : trainIn l cuts := by
  have h1 := h.1
  refine ⟨⟨h1.1, by omega⟩, by omega, fun v hv => ?_⟩
  obtain ⟨i, hi, rfl⟩ := List.mem_iff_getElem.1 hv
  have h2 := h.2 i hi
  rw [rdn_L1 l i hi] at h2
  exact ⟨h2.2.1, h2.2.2.symm⟩
theorem CodeTrainingCovers (l : List (List Int)) (cuts : List Int) (one two m : Int) (hl : l.length ≤ Go.maxLen) (hv : ∀ v ∈ l, v.length ≤ Go.maxLen ∧ ∀ x ∈ v, (Go.Lit.int .i64 x).wf = true) (_ : cuts.length ≤ Go.maxLen) (_ : ∀ x ∈ cuts, (Go.Lit.int .i64 x).wf = true) (h1 : (Go.Lit.int .u8 one).wf = true) (h2 : (Go.Lit.int .u8 two).wf = true) (_ : (Go.Lit.int .i64 m).wf = true) :
    ∃ k, antiquarylaw08_CodeTrainingCovers.f k l cuts one two m = some true := by
  unfold Go.maxLen at hl hv
  have o1 := byte_range h1
  have o2 := byte_range h2
  refine ev_ex ?_
  have other : Ev (fun k => antiquarylaw08_CodeTrainingCovers.j0 k l cuts one two m true) true := by
    refine ev_succ ?_
    simp only [antiquarylaw08_CodeTrainingCovers.j0]
    exact ev_pos trivial (ev_bind Sane.sanity_ev (ev_some rfl))
  refine ev_bind (all_ev l 40 (by omega) (fun v h => by have := (hv v h).1; omega)) ?_
  by_cases h3 : allOk l 40
  rotate_left
  · exact ev_neg (by simpa using h3) other
  refine ev_pos (by simpa using h3) ?_
  by_cases h4 : (cuts.length : Int) > 9
  · exact ev_pos h4 other
  refine ev_neg h4 (ev_ob (metric_is m) ?_)
  by_cases hm : 1 ≤ m ∧ m ≤ 3
  rotate_left
  · rw [decide_eq_false hm]; exact other
  rw [decide_eq_true hm]
  have hin := all_in (cuts := cuts) h3 (by omega)
  obtain ⟨n, hn⟩ : ∃ n, wrap64 (1 + (Int.tmod (wrap64 (mn one two)) 50)) = n := ⟨_, rfl⟩
  obtain ⟨n2, hn2⟩ : ∃ n2, mx n (wrap64 (1 + (Int.tmod (wrap64 (mx one two)) 50))) = n2 := ⟨_, rfl⟩
  have r1 : 1 ≤ n ∧ n ≤ 50 := by
    have hx : 0 ≤ mn one two ∧ mn one two ≤ 255 := by unfold mn; split <;> omega
    rw [Plain.w64 (x := mn one two) (by omega) (by omega), Int.tmod_eq_emod_of_nonneg hx.1, Plain.w64 (by omega) (by omega)] at hn
    omega
  have r2 : n ≤ n2 ∧ n2 ≤ 50 := by
    have hx : 0 ≤ mx one two ∧ mx one two ≤ 255 := by unfold mx; split <;> omega
    rw [Plain.w64 (x := mx one two) (by omega) (by omega), Int.tmod_eq_emod_of_nonneg hx.1, Plain.w64 (by omega) (by omega)] at hn2
    unfold mx at hn2
    split at hn2 <;> omega
  refine ev_succ ?_
  simp only [antiquarylaw08_CodeTrainingCovers.j0]
  rw [hn, hn2]
  refine ev_neg (by simp) (ev_ob (show code_Train.f l cuts n = some _ from if_pos hin) (ev_ob (show code_Train.f l cuts n2 = some _ from if_pos hin) ?_))
  have e1 : ∀ z, 1 ≤ z ∧ z ≤ 50 → trainRes l cuts z = if cutOk cuts ((rd_L1 l 0).length : Int) then (((rd_L1 l 0).length : Int), cuts, trainWords l cuts z (List.finRange cuts.length), 0) else (0, [], [], 80) := fun z hz => by
    unfold trainRes
    rw [if_neg (by omega), if_neg (by omega)]
  rw [e1 n r1, e1 n2 ⟨by omega, r2.2⟩]
  by_cases hc : cutOk cuts ((rd_L1 l 0).length : Int)
  rotate_left
  · simp only [if_neg hc]
    refine ev_neg (by decide) (ev_succ ?_)
    simp only [antiquarylaw08_CodeTrainingCovers.j1]
    exact ev_pos trivial (ev_bind Sane.sanity_ev (ev_pos rfl (ev_some rfl)))
  simp only [if_pos hc]
  refine ev_pos (by first | rfl | trivial) ?_
  rw [show ((0 : Int) != 0) = false from rfl]
  refine ev_succ ?_
  simp only [antiquarylaw08_CodeTrainingCovers.j1]
  refine ev_neg (by simp) ?_
  have b1 := train_book hin hc (n := n) ⟨by omega, by omega⟩
  have b2 := train_book hin hc (n := n2) ⟨by omega, by omega⟩
  have w1 := words_length l cuts n
  have w2 := words_length l cuts n2
  have hcl := hc.2.1
  have hmore : ∀ i, i < cuts.length → wordsAt (trainWords l cuts n (List.finRange cuts.length)) i <+: wordsAt (trainWords l cuts n2 (List.finRange cuts.length)) i := fun i hi => by
    rw [words_at l cuts n hi, words_at l cuts n2 hi]
    exact train_more l _ (by omega)
  have hvec : ∀ v ∈ l, isVec v ∧ (v.length : Int) = ((rd_L1 l 0).length : Int) := fun v h => by
    have := hin.2.2 v h
    exact ⟨this.1, by omega⟩
  refine ev_count0 (G := fun i k => antiquarylaw08_CodeTrainingCovers.l0 k l m n (i : Int) ((rd_L1 l 0).length : Int) cuts (trainWords l cuts n (List.finRange cuts.length)) ((rd_L1 l 0).length : Int) cuts (trainWords l cuts n2 (List.finRange cuts.length))) (n := cuts.length) (fun i hi h => ?_) ?_
  · refine ev_succ ?_
    simp only [antiquarylaw08_CodeTrainingCovers.l0]
    rw [rd_L2_words, rd_L2_words]
    have hp := hmore i hi
    have hpl := hp.length_le
    have hb := b1.2.2 i hi
    have hle : (wordsAt (trainWords l cuts n (List.finRange cuts.length)) i).length ≤ n.toNat := by rw [words_at l cuts n hi]; exact train_length l _ _
    refine ev_pos (by omega) (ev_pos (by omega) (ev_pos (by omega) (ev_neg (by omega) (ev_neg (by omega) (ev_pos (by omega) (ev_pos (by omega) ?_))))))
    rw [Int.toNat_natCast, ← List.prefix_iff_eq_take.1 hp]
    refine ev_bind (same_rows _ (by omega) (fun w hw => by have := (hb.2 w hw).1.2.2; omega)) (ev_pos rfl ?_)
    rw [wsuc i (by omega)]
    exact h
  · refine ev_succ ?_
    simp only [antiquarylaw08_CodeTrainingCovers.l0]
    refine ev_neg (by omega) (ev_bind (worst_ev hm b1 hin.1.2 hvec) (ev_bind (worst_ev hm b2 hin.1.2 hvec) (ev_bind Sane.sanity_ev (ev_pos rfl ?_))))
    refine ev_pos (worst_mono _ (Nat.le_refl _) (fun v h => residual_more m b1 b2 (fun i hi w hw => (hmore i hi).subset hw) (hvec v h).1 (hvec v h).2)) ?_
    by_cases c1 : n < (l.length : Int)
    · exact ev_pos c1 (ev_some rfl)
    · refine ev_neg c1 (ev_some ?_)
      rw [worst_zero _ (Nat.le_refl _) (fun v h => residual_none m b1 (fun i hi => by
        rw [words_at l cuts n hi]
        exact train_covers hin.1.1 ⟨((Q.partAt cuts ((rd_L1 l 0).length : Int) i).2.2 - (Q.partAt cuts ((rd_L1 l 0).length : Int) i).2.1).toNat, fun p hp => by
          have := parts_good hin hc hi p hp
          exact ⟨this.1, by omega⟩⟩ (by omega) _ (List.mem_map.2 ⟨v, h, rfl⟩)) (hvec v h).1 (hvec v h).2)]
      rfl
end Go.Proofs.Ytgpdfalopdhjlaa.Pure
end
section
set_option linter.unusedVariables false
namespace Go.Proofs.Ytgpdfalopdhjlaa.Open
open Go.RowKit Go.Proofs.Ytgpdfalopdhjlaa.Q Go.Proofs.YtgpdfalopdhjlaaW.PrintWords Go.Deep
theorem open_rows {H : Type} {enc : TypeId × Value → H} {P : Program} {w : World} {base : Nat} {held : Bool} {t e q : TypeId} {a : Option Addr} {len cap : Nat} {d : DataW H} {ps : List MemPlace}
    (ht : P.underlying t = some (.slice e)) (he : P.underlying e = some (.slice q)) (hq : P.underlying q = some (.int .i64)) (ce : P.cellsOf e = 1) (cq : P.cellsOf q = 1) (h : DataW.Trod enc P w base (fun _ => true) held t (.slice a len cap) d ps) (ty : Nat) :
    ∃ l : List (List Int), l.length = len ∧ len ≤ cap ∧ cap ≤ maxLen ∧ Kd.C (Kd.slice ty (Kd.int .i64)) w a len l ∧ ∀ v ∈ l, v.length ≤ maxLen ∧ ∀ x ∈ v, (Lit.int .i64 x).wf = true := by
  obtain ⟨fuel, hf⟩ := h
  rcases open_int_rows ht he hq ce cq hf with ⟨hcs, _⟩ | ⟨x, len', cap', A, L, C, Z, hcs, _, hl, hm, _, hx⟩
  · simp [Value.cells] at hcs
    obtain ⟨rfl, rfl, rfl⟩ := hcs
    exact ⟨[], rfl, Nat.le_refl _, Nat.zero_le _, Kd.C_nil _ _, by simp⟩
  · simp [Value.cells] at hcs
    obtain ⟨rfl, rfl, rfl⟩ := hcs
    have hlen : ∀ r, r < cap → ((Z r).take (L r)).length = L r := fun r hr => by
      have := hx r hr
      rw [List.length_take]; omega
    refine ⟨(List.range len).map (fun r => (Z r).take (L r)), by simp, hl, hm, ⟨by simp, by have := hm; unfold maxLen at this; omega, fun _ => ⟨x, rfl, fun j p hp => ?_⟩⟩, ?_⟩
    · have hj : j < len := by
        rcases Nat.lt_or_ge j len with h | h
        · exact h
        · rw [List.getElem?_eq_none (by simp; omega)] at hp; cases hp
      rw [List.getElem?_map, List.getElem?_range hj] at hp
      cases hp
      obtain ⟨hc, hLC, hCm, hZ, hwf, hnone, hsome⟩ := hx j (by omega)
      have hL := hlen j (by omega)
      refine ⟨[.slice (A j) (L j) (C j)], rfl, ⟨A j, C j, by rw [hL], by rw [hL]; exact hLC, ?_⟩, fun i u hu => ?_⟩
      · refine ⟨rfl, by rw [hL]; unfold maxLen at hCm; omega, fun hpos => ?_⟩
        cases hA : A j with
        | none =>
          have hp2 : 0 < L j := by rw [← hL]; exact hpos
          have := hnone hA
          omega
        | some a' =>
          refine ⟨a', rfl, fun c p hp => ⟨[.int .i64 p], rfl, ?_, fun i u hu => ?_⟩⟩
          · exact rfl
          · have hc2 : c < L j := by
              have h6 : c < (List.take (L j) (Z j)).length := (List.getElem?_eq_some_iff.1 hp).1
              omega
            match i, hu with
            | 0, hu =>
              cases hu
              have h3 := (hsome a' hA).2 c (by omega)
              have h4 : (Z j).getD c 0 = p := by
                rw [List.getElem?_take, if_pos hc2] at hp
                rw [List.getD_eq_getElem?_getD, hp]; rfl
              rw [h4] at h3
              show w.cell? (a'.add (c * 1 + 0)) = _
              rw [Nat.mul_one]
              exact h3
            | i + 1, hu => simp at hu
      · match i, hu with
        | 0, hu => cases hu; simpa [Kd.slice] using hc
        | i + 1, hu => simp at hu
    · intro v hv
      obtain ⟨r, hr, rfl⟩ := List.mem_map.1 hv
      have hr := List.mem_range.1 hr
      obtain ⟨_, hLC, hCm, hZ, hwf, _⟩ := hx r (by omega)
      exact ⟨by rw [hlen r (by omega)]; omega, fun y hy => hwf y (List.mem_of_mem_take hy)⟩
end Go.Proofs.Ytgpdfalopdhjlaa.Open
end
