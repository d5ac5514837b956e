/- A part of the proof of PivotShellsJoin: what the row's text reaches (packed by a program of this claim out of its texts). -/
import Derived.Test.YtoidpkpgeeeggaaKPivotShellsJoind
import Derived.Deep.Matrix
import Derived.Deep.SlicePairs
import Derived.ChangeShapes
section
namespace Go.Proofs.Ytoidpkpgeeeggaa.Q
open Go.RowKit Go.Proofs.YtoidpkpgeeeggaaW.PrintWords Go.Proofs.YtoidpkpgeeeggaaW.PrintLast Go.Proofs.YtoidpkpgeeeggaaW.PrintMore
attribute [local go_sem] max2_int min2_int max_two min_two max_three min_three max_four min_four   -- for this text's walks alone
set_option linter.unusedVariables false
set_option linter.unusedSimpArgs false
mutual
def antiquarylaw09_PivotShellsJoin.j0 : Nat → Int → List (S57) → List (S57) → List Int → List Int → Bool → Option (Bool)
  | 0, _, _, _, _, _, _ => none
  | k + 1, x0, x1, x2, x3, x4, x57 => if x57 = true then ((antiquarylaw09_sanity.f k).bind fun t546 => (some t546)) else ((pivot_Join.f k x1 x2).bind fun bt547 => ((pivot_Join.f k x2 x1).bind fun bt551 => (if bt547.2 = 0 then (if bt551.2 = 0 then ((antiquaryref09_SameShells.f k bt547.1 bt551.1).bind fun t555 => (if t555 = true then ((pivot_Valid.f k bt547.1).bind fun t556 => (antiquarylaw09_PivotShellsJoin.j1 k x0 x1 x2 x3 x4 bt547.1 (!t556))) else (antiquarylaw09_PivotShellsJoin.j1 k x0 x1 x2 x3 x4 bt547.1 true))) else (antiquarylaw09_PivotShellsJoin.j1 k x0 x1 x2 x3 x4 bt547.1 true)) else (antiquarylaw09_PivotShellsJoin.j1 k x0 x1 x2 x3 x4 bt547.1 true))))
def antiquarylaw09_PivotShellsJoin.j1 : Nat → Int → List (S57) → List (S57) → List Int → List Int → List (S57) → Bool → Option (Bool)
  | 0, _, _, _, _, _, _, _ => none
  | k + 1, x0, x1, x2, x3, x4, x11, x87 => if x87 = true then (some false) else ((pivot_In.f k x1 x4).bind fun t557 => (if t557 = true then ((pivot_In.f k x11 x4).bind fun t558 => (antiquarylaw09_PivotShellsJoin.j2 k x0 x1 x2 x3 x11 (!t558))) else ((pivot_In.f k x2 x4).bind fun t559 => (if t559 = true then ((pivot_In.f k x11 x4).bind fun t560 => (antiquarylaw09_PivotShellsJoin.j2 k x0 x1 x2 x3 x11 (!t560))) else (antiquarylaw09_PivotShellsJoin.j2 k x0 x1 x2 x3 x11 false)))))
def antiquarylaw09_PivotShellsJoin.j2 : Nat → Int → List (S57) → List (S57) → List Int → List (S57) → Bool → Option (Bool)
  | 0, _, _, _, _, _, _ => none
  | k + 1, x0, x1, x2, x3, x11, x101 => if x101 = true then (some false) else ((pivot_Low.f x0 x11 x3).bind fun bt561 => (if bt561.2 = 0 then ((pivot_Low.f x0 x1 x3).bind fun bt564 => ((pivot_Low.f x0 x2 x3).bind fun bt566 => ((pivot_High.f x0 x11 x3).bind fun bt568 => ((pivot_High.f x0 x1 x3).bind fun bt570 => ((pivot_High.f x0 x2 x3).bind fun bt572 => (if bt564.2 = 0 then (if bt566.2 = 0 then (if bt568.2 = 0 then (if bt570.2 = 0 then ((antiquarylaw09_sanity.f k).bind fun t574 => (if t574 = true then (if bt572.2 = 0 then (if bt561.1 ≤ (mn bt564.1 bt566.1) then (some (decide (bt568.1 ≥ (mx bt570.1 bt572.1)))) else (some false)) else (some false)) else (some false))) else ((antiquarylaw09_sanity.f k).bind fun t575 => (if t575 = true then (some false) else (some false)))) else ((antiquarylaw09_sanity.f k).bind fun t576 => (if t576 = true then (some false) else (some false)))) else ((antiquarylaw09_sanity.f k).bind fun t577 => (if t577 = true then (some false) else (some false)))) else ((antiquarylaw09_sanity.f k).bind fun t578 => (if t578 = true then (some false) else (some false))))))))) else ((antiquarylaw09_sanity.f k).bind fun t563 => (some t563))))
end
def antiquarylaw09_PivotShellsJoin.f (k : Nat) (a0 : Int) (l1 : List (S57)) (l2 : List (S57)) (l3 : List Int) (l4 : List Int) : Option (Bool) := (antiquaryref09_Metric.f a0).bind fun t543 => (if t543 = true then ((antiquaryref09_Valid.f k l1).bind fun t544 => (if t544 = true then ((antiquaryref09_Valid.f k l2).bind fun t545 => (if t545 = true then (if (l1.length : Int) = (l2.length : Int) then (if (l3.length : Int) > 12 then (antiquarylaw09_PivotShellsJoin.j0 k a0 l1 l2 l3 l4 true) else (antiquarylaw09_PivotShellsJoin.j0 k a0 l1 l2 l3 l4 (decide ((l4.length : Int) > 12)))) else (antiquarylaw09_PivotShellsJoin.j0 k a0 l1 l2 l3 l4 true)) else (antiquarylaw09_PivotShellsJoin.j0 k a0 l1 l2 l3 l4 true))) else (antiquarylaw09_PivotShellsJoin.j0 k a0 l1 l2 l3 l4 true))) else (antiquarylaw09_PivotShellsJoin.j0 k a0 l1 l2 l3 l4 true))
set_option maxHeartbeats 8000000 in
set_option maxRecDepth 100000 in
theorem antiquarylaw09_PivotShellsJoin.calls (k : Nat) (a0 : Int) (A1 : Option Addr) (c1 : Nat) (l1 : List (S57)) (A2 : Option Addr) (c2 : Nat) (l2 : List (S57)) (A3 : Option Addr) (c3 : Nat) (l3 : List Int) (A4 : Option Addr) (c4 : Nat) (l4 : List Int) (r : Bool) (w : World) (hr1 : Kd.C k57 w A1 l1.length l1) (hc1 : l1.length ≤ c1) (hr2 : Kd.C k57 w A2 l2.length l2) (hc2 : l2.length ≤ c2) (hr3 : Kd.C (Kd.int .i64) w A3 l3.length l3) (hc3 : l3.length ≤ c3) (hr4 : Kd.C (Kd.int .i64) w A4 l4.length l4) (hc4 : l4.length ≤ c4) (h : antiquarylaw09_PivotShellsJoin.f k a0 l1 l2 l3 l4 = some r) (hT : r = true) :
    Calls Try.prog 8 #[.int .i64 a0, .slice A1 l1.length c1, .slice A2 l2.length c2, .slice A3 l3.length c3, .slice A4 l4.length c4] w fun e w' => e = .returned (.bool r) ∧ Below w.heap.size w w' := by
  have HT := Aside0.mk hT
  clear hT
  have HR1 := Aside0.mk hr1
  have HC1 := Aside0.mk hc1
  clear hr1 hc1
  have HR2 := Aside0.mk hr2
  have HC2 := Aside0.mk hc2
  clear hr2 hc2
  have HR3 := Aside0.mk hr3
  have HC3 := Aside0.mk hc3
  clear hr3 hc3
  have HR4 := Aside0.mk hr4
  have HC4 := Aside0.mk hc4
  clear hr4 hc4
  have HB := Aside0.mk (Below.refl w.heap.size w)
  have H : ((antiquaryref09_Metric.f a0).bind fun t543 => (if t543 = true then ((antiquaryref09_Valid.f k l1).bind fun t544 => (if t544 = true then ((antiquaryref09_Valid.f k l2).bind fun t545 => (if t545 = true then (if (l1.length : Int) = (l2.length : Int) then (if (l3.length : Int) > 12 then (antiquarylaw09_PivotShellsJoin.j0 k a0 l1 l2 l3 l4 true) else (antiquarylaw09_PivotShellsJoin.j0 k a0 l1 l2 l3 l4 (decide ((l4.length : Int) > 12)))) else (antiquarylaw09_PivotShellsJoin.j0 k a0 l1 l2 l3 l4 true)) else (antiquarylaw09_PivotShellsJoin.j0 k a0 l1 l2 l3 l4 true))) else (antiquarylaw09_PivotShellsJoin.j0 k a0 l1 l2 l3 l4 true))) else (antiquarylaw09_PivotShellsJoin.j0 k a0 l1 l2 l3 l4 true))) = some r := h
  clear h
  have HC6 := Aside0.mk H
  clear H
  go_enter Try.func8, Try.ntmps8
  go_upto_region 1 with (fail)
  go_cut [57] (fun v57 wc => ∃ (kq : Nat) (x57_5 : Bool), v57 = .bool x57_5 ∧ Aside0 (antiquarylaw09_PivotShellsJoin.j0 kq a0 l1 l2 l3 l4 x57_5 = some r) ∧ Aside0 (kq ≤ k) ∧ Aside0 (Below w.heap.size w wc))
  case first =>
    have H := HC6.out
    clear HC6
    replace H := Option.bind_eq_some_iff.mp H
    obtain ⟨t543, A70, H⟩ := H
    replace H : (if t543 = true then ((antiquaryref09_Valid.f k l1).bind fun t544 => (if t544 = true then ((antiquaryref09_Valid.f k l2).bind fun t545 => (if t545 = true then (if (l1.length : Int) = (l2.length : Int) then (if (l3.length : Int) > 12 then (antiquarylaw09_PivotShellsJoin.j0 k a0 l1 l2 l3 l4 true) else (antiquarylaw09_PivotShellsJoin.j0 k a0 l1 l2 l3 l4 (decide ((l4.length : Int) > 12)))) else (antiquarylaw09_PivotShellsJoin.j0 k a0 l1 l2 l3 l4 true)) else (antiquarylaw09_PivotShellsJoin.j0 k a0 l1 l2 l3 l4 true))) else (antiquarylaw09_PivotShellsJoin.j0 k a0 l1 l2 l3 l4 true))) else (antiquarylaw09_PivotShellsJoin.j0 k a0 l1 l2 l3 l4 true)) = some r := H
    have A7 := Aside0.mk A70
    clear A70
    by_cases c8 : t543 = true
    · subst c8
      have H1 : ((antiquaryref09_Valid.f k l1).bind fun t544 => (if t544 = true then ((antiquaryref09_Valid.f k l2).bind fun t545 => (if t545 = true then (if (l1.length : Int) = (l2.length : Int) then (if (l3.length : Int) > 12 then (antiquarylaw09_PivotShellsJoin.j0 k a0 l1 l2 l3 l4 true) else (antiquarylaw09_PivotShellsJoin.j0 k a0 l1 l2 l3 l4 (decide ((l4.length : Int) > 12)))) else (antiquarylaw09_PivotShellsJoin.j0 k a0 l1 l2 l3 l4 true)) else (antiquarylaw09_PivotShellsJoin.j0 k a0 l1 l2 l3 l4 true))) else (antiquarylaw09_PivotShellsJoin.j0 k a0 l1 l2 l3 l4 true))) = some r := by rw [if_pos rfl] at H; exact H
      clear H
      have H := H1
      clear H1
      replace H := Option.bind_eq_some_iff.mp H
      obtain ⟨t544, A90, H⟩ := H
      replace H : (if t544 = true then ((antiquaryref09_Valid.f k l2).bind fun t545 => (if t545 = true then (if (l1.length : Int) = (l2.length : Int) then (if (l3.length : Int) > 12 then (antiquarylaw09_PivotShellsJoin.j0 k a0 l1 l2 l3 l4 true) else (antiquarylaw09_PivotShellsJoin.j0 k a0 l1 l2 l3 l4 (decide ((l4.length : Int) > 12)))) else (antiquarylaw09_PivotShellsJoin.j0 k a0 l1 l2 l3 l4 true)) else (antiquarylaw09_PivotShellsJoin.j0 k a0 l1 l2 l3 l4 true))) else (antiquarylaw09_PivotShellsJoin.j0 k a0 l1 l2 l3 l4 true)) = some r := H
      have A9 := Aside0.mk A90
      clear A90
      by_cases c10 : t544 = true
      · subst c10
        have H1 : ((antiquaryref09_Valid.f k l2).bind fun t545 => (if t545 = true then (if (l1.length : Int) = (l2.length : Int) then (if (l3.length : Int) > 12 then (antiquarylaw09_PivotShellsJoin.j0 k a0 l1 l2 l3 l4 true) else (antiquarylaw09_PivotShellsJoin.j0 k a0 l1 l2 l3 l4 (decide ((l4.length : Int) > 12)))) else (antiquarylaw09_PivotShellsJoin.j0 k a0 l1 l2 l3 l4 true)) else (antiquarylaw09_PivotShellsJoin.j0 k a0 l1 l2 l3 l4 true))) = some r := by rw [if_pos rfl] at H; exact H
        clear H
        have H := H1
        clear H1
        replace H := Option.bind_eq_some_iff.mp H
        obtain ⟨t545, A110, H⟩ := H
        replace H : (if t545 = true then (if (l1.length : Int) = (l2.length : Int) then (if (l3.length : Int) > 12 then (antiquarylaw09_PivotShellsJoin.j0 k a0 l1 l2 l3 l4 true) else (antiquarylaw09_PivotShellsJoin.j0 k a0 l1 l2 l3 l4 (decide ((l4.length : Int) > 12)))) else (antiquarylaw09_PivotShellsJoin.j0 k a0 l1 l2 l3 l4 true)) else (antiquarylaw09_PivotShellsJoin.j0 k a0 l1 l2 l3 l4 true)) = some r := H
        have A11 := Aside0.mk A110
        clear A110
        by_cases c12 : t545 = true
        · subst c12
          have H1 : (if (l1.length : Int) = (l2.length : Int) then (if (l3.length : Int) > 12 then (antiquarylaw09_PivotShellsJoin.j0 k a0 l1 l2 l3 l4 true) else (antiquarylaw09_PivotShellsJoin.j0 k a0 l1 l2 l3 l4 (decide ((l4.length : Int) > 12)))) else (antiquarylaw09_PivotShellsJoin.j0 k a0 l1 l2 l3 l4 true)) = some r := by rw [if_pos rfl] at H; exact H
          clear H
          have H := H1
          clear H1
          by_cases c13 : (l1.length : Int) = (l2.length : Int)
          · rw [if_pos c13] at H
            have c13b0 : ((l1.length : Int) == (l2.length : Int)) = true := beq_iff_eq.mpr c13
            have c13b1 : ((l1.length : Int) != (l2.length : Int)) = false := bne_eq_false_iff_eq.mpr c13
            have c13b2 : (l1.length == l2.length) = true := by first | simpa using c13 | (simp at c13 ⊢; omega)
            clear c13
            (first | rw [c13b0] | (simp only [i64_w, i32_w]; rw [c13b0]) | skip)
            by_cases c14 : (l3.length : Int) > 12
            · rw [if_pos c14] at H
              have c14b0 : decide (12 < (l3.length : Int)) = true := decide_eq_true c14
              have c14b1 : decide (12 < l3.length) = true := decide_eq_true (by omega)
              clear c14
              have H' := Aside0.mk H
              clear H
              go_wp2_with (first | ((with_reducible refine gate_callee (f := 29) rfl ?_); refine goesL_ (some 29) rfl rfl Try.func29 (by kernel_rfl) rfl #[.int .i64 a0] rfl (by (try simp only [List.map_toArray, List.map_cons, List.map_nil]); first | done | rfl | (simp only [List.length_drop, List.length_take]; rfl)) ?_; (with_reducible refine (antiquaryref09_Metric.calls a0 true _ A7.out).mono ?_); rintro e w' ⟨rfl, ⟨nd, rfl⟩⟩; refine ⟨_, rfl, ?_⟩) | (go_at_call 39; (with_reducible refine (antiquaryref09_Valid.calls k _ _ l1 true _ ?side1 ?side2 A9.out).mono ?_); (case side1 => repeat (first | exact (Kd.C_below HR1.out (by repeat (first | (with_reducible first | exact HB.out | apply below_alloc | apply pw_below_drewN | apply below_drew1) | exact HB.out))) | (with_reducible refine Kd.C_alloc ?_ _) | (with_reducible refine Kd.C_drewN ?_ _) | (with_reducible refine Kd.C_drew ?_))); (case side2 => exact HC1.out); rintro e w' ⟨rfl, ⟨nd, rfl⟩⟩) | (go_at_call 39; (with_reducible refine (antiquaryref09_Valid.calls k _ _ l2 true _ ?side1 ?side2 A11.out).mono ?_); (case side1 => repeat (first | exact (Kd.C_below HR2.out (by repeat (first | (with_reducible first | exact HB.out | apply below_alloc | apply pw_below_drewN | apply below_drew1) | exact HB.out))) | (with_reducible refine Kd.C_alloc ?_ _) | (with_reducible refine Kd.C_drewN ?_ _) | (with_reducible refine Kd.C_drew ?_))); (case side2 => exact HC2.out); rintro e w' ⟨rfl, ⟨nd, rfl⟩⟩))
              go_meet
              case rel => exact ⟨_, (true), (by first | rfl | (simp; done) | (simp [*]; done)), H', ⟨by first | omega | exact Nat.le_refl _⟩, ⟨by repeat (first | (with_reducible first | exact HB.out | apply below_alloc | apply pw_below_drewN | apply below_drew1) | exact HB.out)⟩⟩
            · rw [if_neg c14] at H
              have c14b0 : decide (12 < (l3.length : Int)) = false := decide_eq_false c14
              have c14b1 : decide (12 < l3.length) = false := decide_eq_false (by omega)
              clear c14
              have H' := Aside0.mk H
              clear H
              go_wp2_with (first | ((with_reducible refine gate_callee (f := 29) rfl ?_); refine goesL_ (some 29) rfl rfl Try.func29 (by kernel_rfl) rfl #[.int .i64 a0] rfl (by (try simp only [List.map_toArray, List.map_cons, List.map_nil]); first | done | rfl | (simp only [List.length_drop, List.length_take]; rfl)) ?_; (with_reducible refine (antiquaryref09_Metric.calls a0 true _ A7.out).mono ?_); rintro e w' ⟨rfl, ⟨nd, rfl⟩⟩; refine ⟨_, rfl, ?_⟩) | (go_at_call 39; (with_reducible refine (antiquaryref09_Valid.calls k _ _ l1 true _ ?side1 ?side2 A9.out).mono ?_); (case side1 => repeat (first | exact (Kd.C_below HR1.out (by repeat (first | (with_reducible first | exact HB.out | apply below_alloc | apply pw_below_drewN | apply below_drew1) | exact HB.out))) | (with_reducible refine Kd.C_alloc ?_ _) | (with_reducible refine Kd.C_drewN ?_ _) | (with_reducible refine Kd.C_drew ?_))); (case side2 => exact HC1.out); rintro e w' ⟨rfl, ⟨nd, rfl⟩⟩) | (go_at_call 39; (with_reducible refine (antiquaryref09_Valid.calls k _ _ l2 true _ ?side1 ?side2 A11.out).mono ?_); (case side1 => repeat (first | exact (Kd.C_below HR2.out (by repeat (first | (with_reducible first | exact HB.out | apply below_alloc | apply pw_below_drewN | apply below_drew1) | exact HB.out))) | (with_reducible refine Kd.C_alloc ?_ _) | (with_reducible refine Kd.C_drewN ?_ _) | (with_reducible refine Kd.C_drew ?_))); (case side2 => exact HC2.out); rintro e w' ⟨rfl, ⟨nd, rfl⟩⟩))
              go_meet
              case rel => exact ⟨_, (decide ((l4.length : Int) > 12)), (by first | rfl | (simp; done) | (simp [*]; done)), H', ⟨by first | omega | exact Nat.le_refl _⟩, ⟨by repeat (first | (with_reducible first | exact HB.out | apply below_alloc | apply pw_below_drewN | apply below_drew1) | exact HB.out)⟩⟩
          · rw [if_neg c13] at H
            have c13b0 : ((l1.length : Int) == (l2.length : Int)) = false := beq_eq_false_iff_ne.mpr c13
            have c13b1 : ((l1.length : Int) != (l2.length : Int)) = true := bne_iff_ne.mpr c13
            have c13b2 : (l1.length == l2.length) = false := by first | simpa using c13 | (simp at c13 ⊢; omega)
            (first | rw [c13b0] | (simp only [i64_w, i32_w]; rw [c13b0]) | skip)
            have H' := Aside0.mk H
            clear H
            go_wp2_with (first | ((with_reducible refine gate_callee (f := 29) rfl ?_); refine goesL_ (some 29) rfl rfl Try.func29 (by kernel_rfl) rfl #[.int .i64 a0] rfl (by (try simp only [List.map_toArray, List.map_cons, List.map_nil]); first | done | rfl | (simp only [List.length_drop, List.length_take]; rfl)) ?_; (with_reducible refine (antiquaryref09_Metric.calls a0 true _ A7.out).mono ?_); rintro e w' ⟨rfl, ⟨nd, rfl⟩⟩; refine ⟨_, rfl, ?_⟩) | (go_at_call 39; (with_reducible refine (antiquaryref09_Valid.calls k _ _ l1 true _ ?side1 ?side2 A9.out).mono ?_); (case side1 => repeat (first | exact (Kd.C_below HR1.out (by repeat (first | (with_reducible first | exact HB.out | apply below_alloc | apply pw_below_drewN | apply below_drew1) | exact HB.out))) | (with_reducible refine Kd.C_alloc ?_ _) | (with_reducible refine Kd.C_drewN ?_ _) | (with_reducible refine Kd.C_drew ?_))); (case side2 => exact HC1.out); rintro e w' ⟨rfl, ⟨nd, rfl⟩⟩) | (go_at_call 39; (with_reducible refine (antiquaryref09_Valid.calls k _ _ l2 true _ ?side1 ?side2 A11.out).mono ?_); (case side1 => repeat (first | exact (Kd.C_below HR2.out (by repeat (first | (with_reducible first | exact HB.out | apply below_alloc | apply pw_below_drewN | apply below_drew1) | exact HB.out))) | (with_reducible refine Kd.C_alloc ?_ _) | (with_reducible refine Kd.C_drewN ?_ _) | (with_reducible refine Kd.C_drew ?_))); (case side2 => exact HC2.out); rintro e w' ⟨rfl, ⟨nd, rfl⟩⟩))
            go_meet
            case rel => exact ⟨_, (true), (by first | rfl | (simp; done) | (simp [*]; done)), H', ⟨by first | omega | exact Nat.le_refl _⟩, ⟨by repeat (first | (with_reducible first | exact HB.out | apply below_alloc | apply pw_below_drewN | apply below_drew1) | exact HB.out)⟩⟩
        · replace c12 := Bool.eq_false_iff.mpr c12
          subst c12
          have H1 : (antiquarylaw09_PivotShellsJoin.j0 k a0 l1 l2 l3 l4 true) = some r := by rw [if_neg (show ¬ (false = true) by decide)] at H; exact H
          clear H
          have H := H1
          clear H1
          have H' := Aside0.mk H
          clear H
          go_wp2_with (first | ((with_reducible refine gate_callee (f := 29) rfl ?_); refine goesL_ (some 29) rfl rfl Try.func29 (by kernel_rfl) rfl #[.int .i64 a0] rfl (by (try simp only [List.map_toArray, List.map_cons, List.map_nil]); first | done | rfl | (simp only [List.length_drop, List.length_take]; rfl)) ?_; (with_reducible refine (antiquaryref09_Metric.calls a0 true _ A7.out).mono ?_); rintro e w' ⟨rfl, ⟨nd, rfl⟩⟩; refine ⟨_, rfl, ?_⟩) | (go_at_call 39; (with_reducible refine (antiquaryref09_Valid.calls k _ _ l1 true _ ?side1 ?side2 A9.out).mono ?_); (case side1 => repeat (first | exact (Kd.C_below HR1.out (by repeat (first | (with_reducible first | exact HB.out | apply below_alloc | apply pw_below_drewN | apply below_drew1) | exact HB.out))) | (with_reducible refine Kd.C_alloc ?_ _) | (with_reducible refine Kd.C_drewN ?_ _) | (with_reducible refine Kd.C_drew ?_))); (case side2 => exact HC1.out); rintro e w' ⟨rfl, ⟨nd, rfl⟩⟩) | (go_at_call 39; (with_reducible refine (antiquaryref09_Valid.calls k _ _ l2 false _ ?side1 ?side2 A11.out).mono ?_); (case side1 => repeat (first | exact (Kd.C_below HR2.out (by repeat (first | (with_reducible first | exact HB.out | apply below_alloc | apply pw_below_drewN | apply below_drew1) | exact HB.out))) | (with_reducible refine Kd.C_alloc ?_ _) | (with_reducible refine Kd.C_drewN ?_ _) | (with_reducible refine Kd.C_drew ?_))); (case side2 => exact HC2.out); rintro e w' ⟨rfl, ⟨nd, rfl⟩⟩))
          go_meet
          case rel => exact ⟨_, (true), (by first | rfl | (simp; done) | (simp [*]; done)), H', ⟨by first | omega | exact Nat.le_refl _⟩, ⟨by repeat (first | (with_reducible first | exact HB.out | apply below_alloc | apply pw_below_drewN | apply below_drew1) | exact HB.out)⟩⟩
      · replace c10 := Bool.eq_false_iff.mpr c10
        subst c10
        have H1 : (antiquarylaw09_PivotShellsJoin.j0 k a0 l1 l2 l3 l4 true) = some r := by rw [if_neg (show ¬ (false = true) by decide)] at H; exact H
        clear H
        have H := H1
        clear H1
        have H' := Aside0.mk H
        clear H
        go_wp2_with (first | ((with_reducible refine gate_callee (f := 29) rfl ?_); refine goesL_ (some 29) rfl rfl Try.func29 (by kernel_rfl) rfl #[.int .i64 a0] rfl (by (try simp only [List.map_toArray, List.map_cons, List.map_nil]); first | done | rfl | (simp only [List.length_drop, List.length_take]; rfl)) ?_; (with_reducible refine (antiquaryref09_Metric.calls a0 true _ A7.out).mono ?_); rintro e w' ⟨rfl, ⟨nd, rfl⟩⟩; refine ⟨_, rfl, ?_⟩) | (go_at_call 39; (with_reducible refine (antiquaryref09_Valid.calls k _ _ l1 false _ ?side1 ?side2 A9.out).mono ?_); (case side1 => repeat (first | exact (Kd.C_below HR1.out (by repeat (first | (with_reducible first | exact HB.out | apply below_alloc | apply pw_below_drewN | apply below_drew1) | exact HB.out))) | (with_reducible refine Kd.C_alloc ?_ _) | (with_reducible refine Kd.C_drewN ?_ _) | (with_reducible refine Kd.C_drew ?_))); (case side2 => exact HC1.out); rintro e w' ⟨rfl, ⟨nd, rfl⟩⟩))
        go_meet
        case rel => exact ⟨_, (true), (by first | rfl | (simp; done) | (simp [*]; done)), H', ⟨by first | omega | exact Nat.le_refl _⟩, ⟨by repeat (first | (with_reducible first | exact HB.out | apply below_alloc | apply pw_below_drewN | apply below_drew1) | exact HB.out)⟩⟩
    · replace c8 := Bool.eq_false_iff.mpr c8
      subst c8
      have H1 : (antiquarylaw09_PivotShellsJoin.j0 k a0 l1 l2 l3 l4 true) = some r := by rw [if_neg (show ¬ (false = true) by decide)] at H; exact H
      clear H
      have H := H1
      clear H1
      have H' := Aside0.mk H
      clear H
      go_wp2_with (first | ((with_reducible refine gate_callee (f := 29) rfl ?_); refine goesL_ (some 29) rfl rfl Try.func29 (by kernel_rfl) rfl #[.int .i64 a0] rfl (by (try simp only [List.map_toArray, List.map_cons, List.map_nil]); first | done | rfl | (simp only [List.length_drop, List.length_take]; rfl)) ?_; (with_reducible refine (antiquaryref09_Metric.calls a0 false _ A7.out).mono ?_); rintro e w' ⟨rfl, ⟨nd, rfl⟩⟩; refine ⟨_, rfl, ?_⟩))
      go_meet
      case rel => exact ⟨_, (true), (by first | rfl | (simp; done) | (simp [*]; done)), H', ⟨by first | omega | exact Nat.le_refl _⟩, ⟨by repeat (first | (with_reducible first | exact HB.out | apply below_alloc | apply pw_below_drewN | apply below_drew1) | exact HB.out)⟩⟩
  case rest =>
    clear HC6
    try clear c1
    try clear c2
    try clear p2
    try clear c3
    try clear c4
    try clear c8
    try clear c10
    try clear c12
    try clear c13
    try clear c13b0
    try clear c13b1
    try clear c13b2
    try clear c14
    try clear c14b0
    try clear c14b1
    obtain ⟨kq, x57_5, rfl, HA, HJ5, HB⟩ := hcut
    cases kq with
    | zero => exact absurd HA.out (by simp [antiquarylaw09_PivotShellsJoin.j0])
    | succ kj5 =>
      have H := HA.out
      clear HA
      simp only [antiquarylaw09_PivotShellsJoin.j0] at H
      by_cases c15 : x57_5 = true
      · subst c15
        have H1 : ((antiquarylaw09_sanity.f kj5).bind fun t546 => (some t546)) = some r := by rw [if_pos rfl] at H; exact H
        clear H
        have H := H1
        clear H1
        replace H := Option.bind_eq_some_iff.mp H
        obtain ⟨t546, A160, H⟩ := H
        replace H : (some t546) = some r := H
        have A16 := Aside0.mk A160
        clear A160
        obtain rfl := Option.some.inj H
        go_wp2_with (first | ((with_reducible refine gate_callee (f := 10) rfl ?_); refine goesL_ (some 58) rfl rfl Try.func10 (by kernel_rfl) rfl #[] rfl (by (try simp only [List.map_toArray, List.map_cons, List.map_nil]); first | done | rfl | (simp only [List.length_drop, List.length_take]; rfl)) ?_; (with_reducible refine (antiquarylaw09_sanity.calls kj5  t546 _ A16.out (by first | rfl | exact HT.out)).mono ?_); rintro e w17 ⟨rfl, hb⟩; refine ⟨_, rfl, ?_⟩; have n0_ := Aside0.mk (below_step (by repeat (first | (with_reducible first | exact HB.out | apply below_alloc | apply pw_below_drewN | apply below_drew1) | exact HB.out)) hb); clear HB; have HB := n0_; clear n0_; (try clear hb); (try clear hb2); (try clear hk); (try clear hi)))
        go_ret
        exact ⟨by first | rfl | (simp [errW_none, errW_some] <;> rfl) | (simp [*, errW_none, errW_some] <;> rfl), by repeat (first | (with_reducible first | exact HB.out | apply below_alloc | apply pw_below_drewN | apply below_drew1) | exact HB.out)⟩
      · replace c15 := Bool.eq_false_iff.mpr c15
        subst c15
        have H1 : ((pivot_Join.f kj5 l1 l2).bind fun bt547 => ((pivot_Join.f kj5 l2 l1).bind fun bt551 => (if bt547.2 = 0 then (if bt551.2 = 0 then ((antiquaryref09_SameShells.f kj5 bt547.1 bt551.1).bind fun t555 => (if t555 = true then ((pivot_Valid.f kj5 bt547.1).bind fun t556 => (antiquarylaw09_PivotShellsJoin.j1 kj5 a0 l1 l2 l3 l4 bt547.1 (!t556))) else (antiquarylaw09_PivotShellsJoin.j1 kj5 a0 l1 l2 l3 l4 bt547.1 true))) else (antiquarylaw09_PivotShellsJoin.j1 kj5 a0 l1 l2 l3 l4 bt547.1 true)) else (antiquarylaw09_PivotShellsJoin.j1 kj5 a0 l1 l2 l3 l4 bt547.1 true)))) = some r := by rw [if_neg (show ¬ (false = true) by decide)] at H; exact H
        clear H
        have H := H1
        clear H1
        replace H := Option.bind_eq_some_iff.mp H
        obtain ⟨⟨t547, t548⟩, A180, H⟩ := H
        replace H : ((pivot_Join.f kj5 l2 l1).bind fun bt551 => (if t548 = 0 then (if bt551.2 = 0 then ((antiquaryref09_SameShells.f kj5 t547 bt551.1).bind fun t555 => (if t555 = true then ((pivot_Valid.f kj5 t547).bind fun t556 => (antiquarylaw09_PivotShellsJoin.j1 kj5 a0 l1 l2 l3 l4 t547 (!t556))) else (antiquarylaw09_PivotShellsJoin.j1 kj5 a0 l1 l2 l3 l4 t547 true))) else (antiquarylaw09_PivotShellsJoin.j1 kj5 a0 l1 l2 l3 l4 t547 true)) else (antiquarylaw09_PivotShellsJoin.j1 kj5 a0 l1 l2 l3 l4 t547 true))) = some r := H
        have A18 := Aside0.mk A180
        clear A180
        replace H := Option.bind_eq_some_iff.mp H
        obtain ⟨⟨t551, t552⟩, A190, H⟩ := H
        replace H : (if t548 = 0 then (if t552 = 0 then ((antiquaryref09_SameShells.f kj5 t547 t551).bind fun t555 => (if t555 = true then ((pivot_Valid.f kj5 t547).bind fun t556 => (antiquarylaw09_PivotShellsJoin.j1 kj5 a0 l1 l2 l3 l4 t547 (!t556))) else (antiquarylaw09_PivotShellsJoin.j1 kj5 a0 l1 l2 l3 l4 t547 true))) else (antiquarylaw09_PivotShellsJoin.j1 kj5 a0 l1 l2 l3 l4 t547 true)) else (antiquarylaw09_PivotShellsJoin.j1 kj5 a0 l1 l2 l3 l4 t547 true)) = some r := H
        have A19 := Aside0.mk A190
        clear A190
        have HC20 := Aside0.mk H
        clear H
        go_upto_region 5 with (first | ((with_reducible refine gate_callee (f := 33) rfl ?_); refine goesL_ (some 62) rfl rfl Try.func33 (by kernel_rfl) rfl #[.slice A1 l1.length c1, .slice A2 l2.length c2] rfl (by (try simp only [List.map_toArray, List.map_cons, List.map_nil]); first | done | rfl | (simp only [List.length_drop, List.length_take]; rfl)) ?_; (with_reducible refine (pivot_Join.calls kj5 _ _ l1 _ _ l2 t547 t548 _ ?side1 ?side2 ?side3 ?side4 A18.out).mono ?_); (case side1 => repeat (first | exact (Kd.C_below HR1.out HB.out) | (with_reducible refine Kd.C_alloc ?_ _) | (with_reducible refine Kd.C_drewN ?_ _) | (with_reducible refine Kd.C_drew ?_))); (case side2 => exact HC1.out); (case side3 => repeat (first | exact (Kd.C_below HR2.out HB.out) | (with_reducible refine Kd.C_alloc ?_ _) | (with_reducible refine Kd.C_drewN ?_ _) | (with_reducible refine Kd.C_drew ?_))); (case side4 => exact HC2.out); rintro e w21 ⟨v549, rfl, ho0, hb⟩; refine ⟨_, rfl, ?_⟩; have n0_ := Aside0.mk (Kd.R_lower ho0 (below_size (by repeat (first | (with_reducible first | exact HB.out | apply below_alloc | apply pw_below_drewN | apply below_drew1) | exact HB.out)))); have n1_ := Aside0.mk (below_step (by repeat (first | (with_reducible first | exact HB.out | apply below_alloc | apply pw_below_drewN | apply below_drew1) | exact HB.out)) hb); clear HB; have HO550 := n0_; have HB := n1_; clear n0_ n1_; (try clear hb); (try clear hb2); (try clear hk); (try clear hi); (try clear ho0)) | ((with_reducible refine gate_callee (f := 33) rfl ?_); refine goesL_ (some 68) rfl rfl Try.func33 (by kernel_rfl) rfl #[.slice A2 l2.length c2, .slice A1 l1.length c1] rfl (by (try simp only [List.map_toArray, List.map_cons, List.map_nil]); first | done | rfl | (simp only [List.length_drop, List.length_take]; rfl)) ?_; (with_reducible refine (pivot_Join.calls kj5 _ _ l2 _ _ l1 t551 t552 _ ?side1 ?side2 ?side3 ?side4 A19.out).mono ?_); (case side1 => repeat (first | exact (Kd.C_below HR2.out HB.out) | (with_reducible refine Kd.C_alloc ?_ _) | (with_reducible refine Kd.C_drewN ?_ _) | (with_reducible refine Kd.C_drew ?_))); (case side2 => exact HC2.out); (case side3 => repeat (first | exact (Kd.C_below HR1.out HB.out) | (with_reducible refine Kd.C_alloc ?_ _) | (with_reducible refine Kd.C_drewN ?_ _) | (with_reducible refine Kd.C_drew ?_))); (case side4 => exact HC1.out); rintro e w22 ⟨v553, rfl, ho0, hb⟩; refine ⟨_, rfl, ?_⟩; have n0_ := Aside0.mk (Kd.R_elder' (by (with_reducible repeat (first | apply Kd.R_alloc | apply Kd.R_drewN | apply Kd.R_drew)); exact HO550.out) (Kd.R_base ho0) hb); have n1_ := Aside0.mk (Kd.R_lower (Kd.R_new' ho0 (Kd.R_lt (by (with_reducible repeat (first | apply Kd.R_alloc | apply Kd.R_drewN | apply Kd.R_drew)); exact HO550.out))) (below_size (by repeat (first | (with_reducible first | exact HB.out | apply below_alloc | apply pw_below_drewN | apply below_drew1) | exact HB.out)))); have n2_ := Aside0.mk (below_step (by repeat (first | (with_reducible first | exact HB.out | apply below_alloc | apply pw_below_drewN | apply below_drew1) | exact HB.out)) hb); clear HO550; clear HB; have HO550 := n0_; have HO554 := n1_; have HB := n2_; clear n0_ n1_ n2_; (try clear hb); (try clear hb2); (try clear hk); (try clear hi); (try clear ho0)))
        (try simp only [Act.put, List.setIfInBounds_toArray, List.set_cons_zero, List.set_cons_succ])
        go_cut [87] (fun v87 wc => ∃ (kq : Nat) (x87_19 : Bool), v87 = .bool x87_19 ∧ Aside0 (antiquarylaw09_PivotShellsJoin.j1 kq a0 l1 l2 l3 l4 t547 x87_19 = some r) ∧ Aside0 (kq ≤ kj5) ∧ Aside0 (Kd.R k57 57 wc w.heap.size (fun _ => True) v549 t547) ∧ Aside0 (Below w.heap.size w wc))
        case first =>
          have H := HC20.out
          clear HC20
          by_cases c23 : t548 = 0
          · rw [if_pos c23] at H
            have c23b0 : (t548 == 0) = true := beq_iff_eq.mpr c23
            have c23b1 : (t548 != 0) = false := bne_eq_false_iff_eq.mpr c23
            clear c23
            (first | rw [c23b0] | (simp only [i64_w, i32_w]; rw [c23b0]) | skip)
            by_cases c24 : t552 = 0
            · rw [if_pos c24] at H
              have c24b0 : (t552 == 0) = true := beq_iff_eq.mpr c24
              have c24b1 : (t552 != 0) = false := bne_eq_false_iff_eq.mpr c24
              clear c24
              replace H := Option.bind_eq_some_iff.mp H
              obtain ⟨t555, A250, H⟩ := H
              replace H : (if t555 = true then ((pivot_Valid.f kj5 t547).bind fun t556 => (antiquarylaw09_PivotShellsJoin.j1 kj5 a0 l1 l2 l3 l4 t547 (!t556))) else (antiquarylaw09_PivotShellsJoin.j1 kj5 a0 l1 l2 l3 l4 t547 true)) = some r := H
              have A25 := Aside0.mk A250
              clear A250
              by_cases c26 : t555 = true
              · subst c26
                have H1 : ((pivot_Valid.f kj5 t547).bind fun t556 => (antiquarylaw09_PivotShellsJoin.j1 kj5 a0 l1 l2 l3 l4 t547 (!t556))) = some r := by rw [if_pos rfl] at H; exact H
                clear H
                have H := H1
                clear H1
                replace H := Option.bind_eq_some_iff.mp H
                obtain ⟨t556, A270, H⟩ := H
                replace H : (antiquarylaw09_PivotShellsJoin.j1 kj5 a0 l1 l2 l3 l4 t547 (!t556)) = some r := H
                have A27 := Aside0.mk A270
                clear A270
                have H' := Aside0.mk H
                clear H
                obtain ⟨Ao28, co28, eo28⟩ := Kd.R_slice HO550.out
                subst eo28
                obtain ⟨Ao29, co29, eo29⟩ := Kd.R_slice HO554.out
                subst eo29
                go_wp2_with (first | (go_at_call 38; (with_reducible refine (antiquaryref09_SameShells.calls kj5 _ _ t547 _ _ t551 true _ ?side1 ?side2 ?side3 ?side4 A25.out).mono ?_); (case side1 => repeat (first | exact (Kd.R_reads' HO550.out).2.2 | (with_reducible refine Kd.C_alloc ?_ _) | (with_reducible refine Kd.C_drewN ?_ _) | (with_reducible refine Kd.C_drew ?_))); (case side2 => exact (Kd.R_reads' HO550.out).2.1); (case side3 => repeat (first | exact (Kd.R_reads' HO554.out).2.2 | (with_reducible refine Kd.C_alloc ?_ _) | (with_reducible refine Kd.C_drewN ?_ _) | (with_reducible refine Kd.C_drew ?_))); (case side4 => exact (Kd.R_reads' HO554.out).2.1); rintro e w' ⟨rfl, ⟨nd, rfl⟩⟩) | (go_at_call 24; (with_reducible refine (pivot_Valid.calls kj5 _ _ t547 t556 _ ?side1 ?side2 A27.out).mono ?_); (case side1 => repeat (first | exact (Kd.R_reads' HO550.out).2.2 | (with_reducible refine Kd.C_alloc ?_ _) | (with_reducible refine Kd.C_drewN ?_ _) | (with_reducible refine Kd.C_drew ?_))); (case side2 => exact (Kd.R_reads' HO550.out).2.1); rintro e w30 ⟨rfl, hb⟩; have n0_ := Aside0.mk (Kd.R_below (by (with_reducible repeat (first | apply Kd.R_alloc | apply Kd.R_drewN | apply Kd.R_drew)); exact HO550.out) hb); have n1_ := Aside0.mk (Kd.R_below (by (with_reducible repeat (first | apply Kd.R_alloc | apply Kd.R_drewN | apply Kd.R_drew)); exact HO554.out) hb); have n2_ := Aside0.mk (below_step (by repeat (first | (with_reducible first | exact HB.out | apply below_alloc | apply pw_below_drewN | apply below_drew1) | exact HB.out)) hb); clear HO550; clear HO554; clear HB; have HO550 := n0_; have HO554 := n1_; have HB := n2_; clear n0_ n1_ n2_; (try clear hb); (try clear hb2); (try clear hk); (try clear hi)))
                go_meet
                case rel => exact ⟨_, (!t556), (by first | rfl | (simp; done) | (simp [*]; done)), H', ⟨by have := HJ5.out; first | omega | exact Nat.le_refl _⟩, ⟨by (with_reducible repeat (first | apply Kd.R_alloc | apply Kd.R_drewN | apply Kd.R_drew)); exact Kd.R_mono HO550.out (fun _ hk => trivial)⟩, ⟨by repeat (first | (with_reducible first | exact HB.out | apply below_alloc | apply pw_below_drewN | apply below_drew1) | exact HB.out)⟩⟩
              · replace c26 := Bool.eq_false_iff.mpr c26
                subst c26
                have H1 : (antiquarylaw09_PivotShellsJoin.j1 kj5 a0 l1 l2 l3 l4 t547 true) = some r := by rw [if_neg (show ¬ (false = true) by decide)] at H; exact H
                clear H
                have H := H1
                clear H1
                have H' := Aside0.mk H
                clear H
                obtain ⟨Ao31, co31, eo31⟩ := Kd.R_slice HO550.out
                subst eo31
                obtain ⟨Ao32, co32, eo32⟩ := Kd.R_slice HO554.out
                subst eo32
                go_wp2_with (first | (go_at_call 38; (with_reducible refine (antiquaryref09_SameShells.calls kj5 _ _ t547 _ _ t551 false _ ?side1 ?side2 ?side3 ?side4 A25.out).mono ?_); (case side1 => repeat (first | exact (Kd.R_reads' HO550.out).2.2 | (with_reducible refine Kd.C_alloc ?_ _) | (with_reducible refine Kd.C_drewN ?_ _) | (with_reducible refine Kd.C_drew ?_))); (case side2 => exact (Kd.R_reads' HO550.out).2.1); (case side3 => repeat (first | exact (Kd.R_reads' HO554.out).2.2 | (with_reducible refine Kd.C_alloc ?_ _) | (with_reducible refine Kd.C_drewN ?_ _) | (with_reducible refine Kd.C_drew ?_))); (case side4 => exact (Kd.R_reads' HO554.out).2.1); rintro e w' ⟨rfl, ⟨nd, rfl⟩⟩))
                go_meet
                case rel => exact ⟨_, (true), (by first | rfl | (simp; done) | (simp [*]; done)), H', ⟨by have := HJ5.out; first | omega | exact Nat.le_refl _⟩, ⟨by (with_reducible repeat (first | apply Kd.R_alloc | apply Kd.R_drewN | apply Kd.R_drew)); exact Kd.R_mono HO550.out (fun _ hk => trivial)⟩, ⟨by repeat (first | (with_reducible first | exact HB.out | apply below_alloc | apply pw_below_drewN | apply below_drew1) | exact HB.out)⟩⟩
            · rw [if_neg c24] at H
              have c24b0 : (t552 == 0) = false := beq_eq_false_iff_ne.mpr c24
              have c24b1 : (t552 != 0) = true := bne_iff_ne.mpr c24
              have H' := Aside0.mk H
              clear H
              go_wp2
              go_meet
              case rel => exact ⟨_, (true), (by first | rfl | (simp; done) | (simp [*]; done)), H', ⟨by have := HJ5.out; first | omega | exact Nat.le_refl _⟩, ⟨by (with_reducible repeat (first | apply Kd.R_alloc | apply Kd.R_drewN | apply Kd.R_drew)); exact Kd.R_mono HO550.out (fun _ hk => trivial)⟩, ⟨by repeat (first | (with_reducible first | exact HB.out | apply below_alloc | apply pw_below_drewN | apply below_drew1) | exact HB.out)⟩⟩
          · rw [if_neg c23] at H
            have c23b0 : (t548 == 0) = false := beq_eq_false_iff_ne.mpr c23
            have c23b1 : (t548 != 0) = true := bne_iff_ne.mpr c23
            (first | rw [c23b0] | (simp only [i64_w, i32_w]; rw [c23b0]) | skip)
            have H' := Aside0.mk H
            clear H
            go_wp2
            go_meet
            case rel => exact ⟨_, (true), (by first | rfl | (simp; done) | (simp [*]; done)), H', ⟨by have := HJ5.out; first | omega | exact Nat.le_refl _⟩, ⟨by (with_reducible repeat (first | apply Kd.R_alloc | apply Kd.R_drewN | apply Kd.R_drew)); exact Kd.R_mono HO550.out (fun _ hk => trivial)⟩, ⟨by repeat (first | (with_reducible first | exact HB.out | apply below_alloc | apply pw_below_drewN | apply below_drew1) | exact HB.out)⟩⟩
        case rest =>
          clear HC20
          try clear c1
          try clear c2
          try clear p2
          try clear c3
          try clear c4
          try clear c8
          try clear c10
          try clear c12
          try clear c13
          try clear c13b0
          try clear c13b1
          try clear c13b2
          try clear c14
          try clear c14b0
          try clear c14b1
          try clear c15
          try clear c23
          try clear c23b0
          try clear c23b1
          try clear c24
          try clear c24b0
          try clear c24b1
          try clear c26
          try clear c29
          try clear p2
          obtain ⟨kq, x87_19, rfl, HA, HJ19, HO_11, HB⟩ := hcut
          cases kq with
          | zero => exact absurd HA.out (by simp [antiquarylaw09_PivotShellsJoin.j1])
          | succ kj19 =>
            have H := HA.out
            clear HA
            simp only [antiquarylaw09_PivotShellsJoin.j1] at H
            by_cases c33 : x87_19 = true
            · subst c33
              have H1 : (some false) = some r := by rw [if_pos rfl] at H; exact H
              clear H
              have H := H1
              clear H1
              exact absurd (Option.some.inj H) (by rw [HT.out]; decide)
            · replace c33 := Bool.eq_false_iff.mpr c33
              subst c33
              have H1 : ((pivot_In.f kj19 l1 l4).bind fun t557 => (if t557 = true then ((pivot_In.f kj19 t547 l4).bind fun t558 => (antiquarylaw09_PivotShellsJoin.j2 kj19 a0 l1 l2 l3 t547 (!t558))) else ((pivot_In.f kj19 l2 l4).bind fun t559 => (if t559 = true then ((pivot_In.f kj19 t547 l4).bind fun t560 => (antiquarylaw09_PivotShellsJoin.j2 kj19 a0 l1 l2 l3 t547 (!t560))) else (antiquarylaw09_PivotShellsJoin.j2 kj19 a0 l1 l2 l3 t547 false))))) = some r := by rw [if_neg (show ¬ (false = true) by decide)] at H; exact H
              clear H
              have H := H1
              clear H1
              have HC34 := Aside0.mk H
              clear H
              go_upto_region 7 with (fail)
              go_cut [101] (fun v101 wc => ∃ (kq : Nat) (x101_33 : Bool), v101 = .bool x101_33 ∧ Aside0 (antiquarylaw09_PivotShellsJoin.j2 kq a0 l1 l2 l3 t547 x101_33 = some r) ∧ Aside0 (kq ≤ kj19) ∧ Aside0 (Kd.R k57 57 wc w.heap.size (fun _ => True) v549 t547) ∧ Aside0 (Below w.heap.size w wc))
              case first =>
                have H := HC34.out
                clear HC34
                replace H := Option.bind_eq_some_iff.mp H
                obtain ⟨t557, A350, H⟩ := H
                replace H : (if t557 = true then ((pivot_In.f kj19 t547 l4).bind fun t558 => (antiquarylaw09_PivotShellsJoin.j2 kj19 a0 l1 l2 l3 t547 (!t558))) else ((pivot_In.f kj19 l2 l4).bind fun t559 => (if t559 = true then ((pivot_In.f kj19 t547 l4).bind fun t560 => (antiquarylaw09_PivotShellsJoin.j2 kj19 a0 l1 l2 l3 t547 (!t560))) else (antiquarylaw09_PivotShellsJoin.j2 kj19 a0 l1 l2 l3 t547 false)))) = some r := H
                have A35 := Aside0.mk A350
                clear A350
                by_cases c36 : t557 = true
                · subst c36
                  have H1 : ((pivot_In.f kj19 t547 l4).bind fun t558 => (antiquarylaw09_PivotShellsJoin.j2 kj19 a0 l1 l2 l3 t547 (!t558))) = some r := by rw [if_pos rfl] at H; exact H
                  clear H
                  have H := H1
                  clear H1
                  replace H := Option.bind_eq_some_iff.mp H
                  obtain ⟨t558, A370, H⟩ := H
                  replace H : (antiquarylaw09_PivotShellsJoin.j2 kj19 a0 l1 l2 l3 t547 (!t558)) = some r := H
                  have A37 := Aside0.mk A370
                  clear A370
                  have H' := Aside0.mk H
                  clear H
                  go_wp2_with (first | ((with_reducible refine gate_callee (f := 28) rfl ?_); refine goesL_ (some 90) rfl rfl Try.func28 (by kernel_rfl) rfl #[.slice A1 l1.length c1, .slice A4 l4.length c4] rfl (by (try simp only [List.map_toArray, List.map_cons, List.map_nil]); first | done | rfl | (simp only [List.length_drop, List.length_take]; rfl)) ?_; (with_reducible refine (pivot_In.calls kj19 _ _ l1 _ _ l4 true _ ?side1 ?side2 ?side3 ?side4 A35.out).mono ?_); (case side1 => repeat (first | exact (Kd.C_below HR1.out HB.out) | (with_reducible refine Kd.C_alloc ?_ _) | (with_reducible refine Kd.C_drewN ?_ _) | (with_reducible refine Kd.C_drew ?_))); (case side2 => exact HC1.out); (case side3 => repeat (first | exact (Kd.C_below HR4.out HB.out) | (with_reducible refine Kd.C_alloc ?_ _) | (with_reducible refine Kd.C_drewN ?_ _) | (with_reducible refine Kd.C_drew ?_))); (case side4 => exact HC4.out); rintro e w38 ⟨rfl, hb⟩; refine ⟨_, rfl, ?_⟩; have n0_ := Aside0.mk (Kd.R_below (by (with_reducible repeat (first | apply Kd.R_alloc | apply Kd.R_drewN | apply Kd.R_drew)); exact HO_11.out) hb); have n1_ := Aside0.mk (below_step (by repeat (first | (with_reducible first | exact HB.out | apply below_alloc | apply pw_below_drewN | apply below_drew1) | exact HB.out)) hb); clear HO_11; clear HB; have HO_11 := n0_; have HB := n1_; clear n0_ n1_; (try clear hb); (try clear hb2); (try clear hk); (try clear hi); obtain ⟨Ao39, co39, eo39⟩ := Kd.R_slice HO_11.out; subst eo39) | (go_at_call 28; (with_reducible refine (pivot_In.calls kj19 _ _ t547 _ _ l4 t558 _ ?side1 ?side2 ?side3 ?side4 A37.out).mono ?_); (case side1 => repeat (first | exact (Kd.R_reads' HO_11.out).2.2 | (with_reducible refine Kd.C_alloc ?_ _) | (with_reducible refine Kd.C_drewN ?_ _) | (with_reducible refine Kd.C_drew ?_))); (case side2 => exact (Kd.R_reads' HO_11.out).2.1); (case side3 => repeat (first | exact (Kd.C_below HR4.out HB.out) | (with_reducible refine Kd.C_alloc ?_ _) | (with_reducible refine Kd.C_drewN ?_ _) | (with_reducible refine Kd.C_drew ?_))); (case side4 => exact HC4.out); rintro e w40 ⟨rfl, hb⟩; have n0_ := Aside0.mk (Kd.R_below (by (with_reducible repeat (first | apply Kd.R_alloc | apply Kd.R_drewN | apply Kd.R_drew)); exact HO_11.out) hb); have n1_ := Aside0.mk (below_step (by repeat (first | (with_reducible first | exact HB.out | apply below_alloc | apply pw_below_drewN | apply below_drew1) | exact HB.out)) hb); clear HO_11; clear HB; have HO_11 := n0_; have HB := n1_; clear n0_ n1_; (try clear hb); (try clear hb2); (try clear hk); (try clear hi)))
                  go_meet
                  case rel => exact ⟨_, (!t558), (by first | rfl | (simp; done) | (simp [*]; done)), H', ⟨by have := HJ5.out; have := HJ19.out; first | omega | exact Nat.le_refl _⟩, ⟨by (with_reducible repeat (first | apply Kd.R_alloc | apply Kd.R_drewN | apply Kd.R_drew)); exact HO_11.out⟩, ⟨by repeat (first | (with_reducible first | exact HB.out | apply below_alloc | apply pw_below_drewN | apply below_drew1) | exact HB.out)⟩⟩
                · replace c36 := Bool.eq_false_iff.mpr c36
                  subst c36
                  have H1 : ((pivot_In.f kj19 l2 l4).bind fun t559 => (if t559 = true then ((pivot_In.f kj19 t547 l4).bind fun t560 => (antiquarylaw09_PivotShellsJoin.j2 kj19 a0 l1 l2 l3 t547 (!t560))) else (antiquarylaw09_PivotShellsJoin.j2 kj19 a0 l1 l2 l3 t547 false))) = some r := by rw [if_neg (show ¬ (false = true) by decide)] at H; exact H
                  clear H
                  have H := H1
                  clear H1
                  replace H := Option.bind_eq_some_iff.mp H
                  obtain ⟨t559, A410, H⟩ := H
                  replace H : (if t559 = true then ((pivot_In.f kj19 t547 l4).bind fun t560 => (antiquarylaw09_PivotShellsJoin.j2 kj19 a0 l1 l2 l3 t547 (!t560))) else (antiquarylaw09_PivotShellsJoin.j2 kj19 a0 l1 l2 l3 t547 false)) = some r := H
                  have A41 := Aside0.mk A410
                  clear A410
                  by_cases c42 : t559 = true
                  · subst c42
                    have H1 : ((pivot_In.f kj19 t547 l4).bind fun t560 => (antiquarylaw09_PivotShellsJoin.j2 kj19 a0 l1 l2 l3 t547 (!t560))) = some r := by rw [if_pos rfl] at H; exact H
                    clear H
                    have H := H1
                    clear H1
                    replace H := Option.bind_eq_some_iff.mp H
                    obtain ⟨t560, A430, H⟩ := H
                    replace H : (antiquarylaw09_PivotShellsJoin.j2 kj19 a0 l1 l2 l3 t547 (!t560)) = some r := H
                    have A43 := Aside0.mk A430
                    clear A430
                    have H' := Aside0.mk H
                    clear H
                    go_wp2_with (first | ((with_reducible refine gate_callee (f := 28) rfl ?_); refine goesL_ (some 90) rfl rfl Try.func28 (by kernel_rfl) rfl #[.slice A1 l1.length c1, .slice A4 l4.length c4] rfl (by (try simp only [List.map_toArray, List.map_cons, List.map_nil]); first | done | rfl | (simp only [List.length_drop, List.length_take]; rfl)) ?_; (with_reducible refine (pivot_In.calls kj19 _ _ l1 _ _ l4 false _ ?side1 ?side2 ?side3 ?side4 A35.out).mono ?_); (case side1 => repeat (first | exact (Kd.C_below HR1.out HB.out) | (with_reducible refine Kd.C_alloc ?_ _) | (with_reducible refine Kd.C_drewN ?_ _) | (with_reducible refine Kd.C_drew ?_))); (case side2 => exact HC1.out); (case side3 => repeat (first | exact (Kd.C_below HR4.out HB.out) | (with_reducible refine Kd.C_alloc ?_ _) | (with_reducible refine Kd.C_drewN ?_ _) | (with_reducible refine Kd.C_drew ?_))); (case side4 => exact HC4.out); rintro e w44 ⟨rfl, hb⟩; refine ⟨_, rfl, ?_⟩; have n0_ := Aside0.mk (Kd.R_below (by (with_reducible repeat (first | apply Kd.R_alloc | apply Kd.R_drewN | apply Kd.R_drew)); exact HO_11.out) hb); have n1_ := Aside0.mk (below_step (by repeat (first | (with_reducible first | exact HB.out | apply below_alloc | apply pw_below_drewN | apply below_drew1) | exact HB.out)) hb); clear HO_11; clear HB; have HO_11 := n0_; have HB := n1_; clear n0_ n1_; (try clear hb); (try clear hb2); (try clear hk); (try clear hi)) | (go_at_call 28; (with_reducible refine (pivot_In.calls kj19 _ _ l2 _ _ l4 true _ ?side1 ?side2 ?side3 ?side4 A41.out).mono ?_); (case side1 => repeat (first | exact (Kd.C_below HR2.out HB.out) | (with_reducible refine Kd.C_alloc ?_ _) | (with_reducible refine Kd.C_drewN ?_ _) | (with_reducible refine Kd.C_drew ?_))); (case side2 => exact HC2.out); (case side3 => repeat (first | exact (Kd.C_below HR4.out HB.out) | (with_reducible refine Kd.C_alloc ?_ _) | (with_reducible refine Kd.C_drewN ?_ _) | (with_reducible refine Kd.C_drew ?_))); (case side4 => exact HC4.out); rintro e w45 ⟨rfl, hb⟩; have n0_ := Aside0.mk (Kd.R_below (by (with_reducible repeat (first | apply Kd.R_alloc | apply Kd.R_drewN | apply Kd.R_drew)); exact HO_11.out) hb); have n1_ := Aside0.mk (below_step (by repeat (first | (with_reducible first | exact HB.out | apply below_alloc | apply pw_below_drewN | apply below_drew1) | exact HB.out)) hb); clear HO_11; clear HB; have HO_11 := n0_; have HB := n1_; clear n0_ n1_; (try clear hb); (try clear hb2); (try clear hk); (try clear hi); obtain ⟨Ao46, co46, eo46⟩ := Kd.R_slice HO_11.out; subst eo46) | (go_at_call 28; (with_reducible refine (pivot_In.calls kj19 _ _ t547 _ _ l4 t560 _ ?side1 ?side2 ?side3 ?side4 A43.out).mono ?_); (case side1 => repeat (first | exact (Kd.R_reads' HO_11.out).2.2 | (with_reducible refine Kd.C_alloc ?_ _) | (with_reducible refine Kd.C_drewN ?_ _) | (with_reducible refine Kd.C_drew ?_))); (case side2 => exact (Kd.R_reads' HO_11.out).2.1); (case side3 => repeat (first | exact (Kd.C_below HR4.out HB.out) | (with_reducible refine Kd.C_alloc ?_ _) | (with_reducible refine Kd.C_drewN ?_ _) | (with_reducible refine Kd.C_drew ?_))); (case side4 => exact HC4.out); rintro e w47 ⟨rfl, hb⟩; have n0_ := Aside0.mk (Kd.R_below (by (with_reducible repeat (first | apply Kd.R_alloc | apply Kd.R_drewN | apply Kd.R_drew)); exact HO_11.out) hb); have n1_ := Aside0.mk (below_step (by repeat (first | (with_reducible first | exact HB.out | apply below_alloc | apply pw_below_drewN | apply below_drew1) | exact HB.out)) hb); clear HO_11; clear HB; have HO_11 := n0_; have HB := n1_; clear n0_ n1_; (try clear hb); (try clear hb2); (try clear hk); (try clear hi)))
                    go_meet
                    case rel => exact ⟨_, (!t560), (by first | rfl | (simp; done) | (simp [*]; done)), H', ⟨by have := HJ5.out; have := HJ19.out; first | omega | exact Nat.le_refl _⟩, ⟨by (with_reducible repeat (first | apply Kd.R_alloc | apply Kd.R_drewN | apply Kd.R_drew)); exact HO_11.out⟩, ⟨by repeat (first | (with_reducible first | exact HB.out | apply below_alloc | apply pw_below_drewN | apply below_drew1) | exact HB.out)⟩⟩
                  · replace c42 := Bool.eq_false_iff.mpr c42
                    subst c42
                    have H1 : (antiquarylaw09_PivotShellsJoin.j2 kj19 a0 l1 l2 l3 t547 false) = some r := by rw [if_neg (show ¬ (false = true) by decide)] at H; exact H
                    clear H
                    have H := H1
                    clear H1
                    have H' := Aside0.mk H
                    clear H
                    go_wp2_with (first | ((with_reducible refine gate_callee (f := 28) rfl ?_); refine goesL_ (some 90) rfl rfl Try.func28 (by kernel_rfl) rfl #[.slice A1 l1.length c1, .slice A4 l4.length c4] rfl (by (try simp only [List.map_toArray, List.map_cons, List.map_nil]); first | done | rfl | (simp only [List.length_drop, List.length_take]; rfl)) ?_; (with_reducible refine (pivot_In.calls kj19 _ _ l1 _ _ l4 false _ ?side1 ?side2 ?side3 ?side4 A35.out).mono ?_); (case side1 => repeat (first | exact (Kd.C_below HR1.out HB.out) | (with_reducible refine Kd.C_alloc ?_ _) | (with_reducible refine Kd.C_drewN ?_ _) | (with_reducible refine Kd.C_drew ?_))); (case side2 => exact HC1.out); (case side3 => repeat (first | exact (Kd.C_below HR4.out HB.out) | (with_reducible refine Kd.C_alloc ?_ _) | (with_reducible refine Kd.C_drewN ?_ _) | (with_reducible refine Kd.C_drew ?_))); (case side4 => exact HC4.out); rintro e w48 ⟨rfl, hb⟩; refine ⟨_, rfl, ?_⟩; have n0_ := Aside0.mk (Kd.R_below (by (with_reducible repeat (first | apply Kd.R_alloc | apply Kd.R_drewN | apply Kd.R_drew)); exact HO_11.out) hb); have n1_ := Aside0.mk (below_step (by repeat (first | (with_reducible first | exact HB.out | apply below_alloc | apply pw_below_drewN | apply below_drew1) | exact HB.out)) hb); clear HO_11; clear HB; have HO_11 := n0_; have HB := n1_; clear n0_ n1_; (try clear hb); (try clear hb2); (try clear hk); (try clear hi)) | (go_at_call 28; (with_reducible refine (pivot_In.calls kj19 _ _ l2 _ _ l4 false _ ?side1 ?side2 ?side3 ?side4 A41.out).mono ?_); (case side1 => repeat (first | exact (Kd.C_below HR2.out HB.out) | (with_reducible refine Kd.C_alloc ?_ _) | (with_reducible refine Kd.C_drewN ?_ _) | (with_reducible refine Kd.C_drew ?_))); (case side2 => exact HC2.out); (case side3 => repeat (first | exact (Kd.C_below HR4.out HB.out) | (with_reducible refine Kd.C_alloc ?_ _) | (with_reducible refine Kd.C_drewN ?_ _) | (with_reducible refine Kd.C_drew ?_))); (case side4 => exact HC4.out); rintro e w49 ⟨rfl, hb⟩; have n0_ := Aside0.mk (Kd.R_below (by (with_reducible repeat (first | apply Kd.R_alloc | apply Kd.R_drewN | apply Kd.R_drew)); exact HO_11.out) hb); have n1_ := Aside0.mk (below_step (by repeat (first | (with_reducible first | exact HB.out | apply below_alloc | apply pw_below_drewN | apply below_drew1) | exact HB.out)) hb); clear HO_11; clear HB; have HO_11 := n0_; have HB := n1_; clear n0_ n1_; (try clear hb); (try clear hb2); (try clear hk); (try clear hi)))
                    go_meet
                    case rel => exact ⟨_, (false), (by first | rfl | (simp; done) | (simp [*]; done)), H', ⟨by have := HJ5.out; have := HJ19.out; first | omega | exact Nat.le_refl _⟩, ⟨by (with_reducible repeat (first | apply Kd.R_alloc | apply Kd.R_drewN | apply Kd.R_drew)); exact HO_11.out⟩, ⟨by repeat (first | (with_reducible first | exact HB.out | apply below_alloc | apply pw_below_drewN | apply below_drew1) | exact HB.out)⟩⟩
              case rest =>
                clear HC34
                try clear c1
                try clear c2
                try clear p2
                try clear c3
                try clear c4
                try clear c8
                try clear c10
                try clear c12
                try clear c13
                try clear c13b0
                try clear c13b1
                try clear c13b2
                try clear c14
                try clear c14b0
                try clear c14b1
                try clear c15
                try clear c23
                try clear c23b0
                try clear c23b1
                try clear c24
                try clear c24b0
                try clear c24b1
                try clear c26
                try clear c28
                try clear c29
                try clear c33
                try clear c36
                try clear c42
                try clear p2
                obtain ⟨kq, x101_33, rfl, HA, HJ33, HO_11, HB⟩ := hcut
                cases kq with
                | zero => exact absurd HA.out (by simp [antiquarylaw09_PivotShellsJoin.j2])
                | succ kj33 =>
                  have H := HA.out
                  clear HA
                  simp only [antiquarylaw09_PivotShellsJoin.j2] at H
                  by_cases c50 : x101_33 = true
                  · subst c50
                    have H1 : (some false) = some r := by rw [if_pos rfl] at H; exact H
                    clear H
                    have H := H1
                    clear H1
                    exact absurd (Option.some.inj H) (by rw [HT.out]; decide)
                  · replace c50 := Bool.eq_false_iff.mpr c50
                    subst c50
                    have H1 : ((pivot_Low.f a0 t547 l3).bind fun bt561 => (if bt561.2 = 0 then ((pivot_Low.f a0 l1 l3).bind fun bt564 => ((pivot_Low.f a0 l2 l3).bind fun bt566 => ((pivot_High.f a0 t547 l3).bind fun bt568 => ((pivot_High.f a0 l1 l3).bind fun bt570 => ((pivot_High.f a0 l2 l3).bind fun bt572 => (if bt564.2 = 0 then (if bt566.2 = 0 then (if bt568.2 = 0 then (if bt570.2 = 0 then ((antiquarylaw09_sanity.f kj33).bind fun t574 => (if t574 = true then (if bt572.2 = 0 then (if bt561.1 ≤ (mn bt564.1 bt566.1) then (some (decide (bt568.1 ≥ (mx bt570.1 bt572.1)))) else (some false)) else (some false)) else (some false))) else ((antiquarylaw09_sanity.f kj33).bind fun t575 => (if t575 = true then (some false) else (some false)))) else ((antiquarylaw09_sanity.f kj33).bind fun t576 => (if t576 = true then (some false) else (some false)))) else ((antiquarylaw09_sanity.f kj33).bind fun t577 => (if t577 = true then (some false) else (some false)))) else ((antiquarylaw09_sanity.f kj33).bind fun t578 => (if t578 = true then (some false) else (some false))))))))) else ((antiquarylaw09_sanity.f kj33).bind fun t563 => (some t563)))) = some r := by rw [if_neg (show ¬ (false = true) by decide)] at H; exact H
                    clear H
                    have H := H1
                    clear H1
                    replace H := Option.bind_eq_some_iff.mp H
                    obtain ⟨⟨t561, t562⟩, A510, H⟩ := H
                    replace H : (if t562 = 0 then ((pivot_Low.f a0 l1 l3).bind fun bt564 => ((pivot_Low.f a0 l2 l3).bind fun bt566 => ((pivot_High.f a0 t547 l3).bind fun bt568 => ((pivot_High.f a0 l1 l3).bind fun bt570 => ((pivot_High.f a0 l2 l3).bind fun bt572 => (if bt564.2 = 0 then (if bt566.2 = 0 then (if bt568.2 = 0 then (if bt570.2 = 0 then ((antiquarylaw09_sanity.f kj33).bind fun t574 => (if t574 = true then (if bt572.2 = 0 then (if t561 ≤ (mn bt564.1 bt566.1) then (some (decide (bt568.1 ≥ (mx bt570.1 bt572.1)))) else (some false)) else (some false)) else (some false))) else ((antiquarylaw09_sanity.f kj33).bind fun t575 => (if t575 = true then (some false) else (some false)))) else ((antiquarylaw09_sanity.f kj33).bind fun t576 => (if t576 = true then (some false) else (some false)))) else ((antiquarylaw09_sanity.f kj33).bind fun t577 => (if t577 = true then (some false) else (some false)))) else ((antiquarylaw09_sanity.f kj33).bind fun t578 => (if t578 = true then (some false) else (some false))))))))) else ((antiquarylaw09_sanity.f kj33).bind fun t563 => (some t563))) = some r := H
                    have A51 := Aside0.mk A510
                    clear A510
                    by_cases c52 : t562 = 0
                    · rw [if_pos c52] at H
                      have c52b0 : (t562 == 0) = true := beq_iff_eq.mpr c52
                      have c52b1 : (t562 != 0) = false := bne_eq_false_iff_eq.mpr c52
                      clear c52
                      replace H := Option.bind_eq_some_iff.mp H
                      obtain ⟨⟨t564, t565⟩, A530, H⟩ := H
                      replace H : ((pivot_Low.f a0 l2 l3).bind fun bt566 => ((pivot_High.f a0 t547 l3).bind fun bt568 => ((pivot_High.f a0 l1 l3).bind fun bt570 => ((pivot_High.f a0 l2 l3).bind fun bt572 => (if t565 = 0 then (if bt566.2 = 0 then (if bt568.2 = 0 then (if bt570.2 = 0 then ((antiquarylaw09_sanity.f kj33).bind fun t574 => (if t574 = true then (if bt572.2 = 0 then (if t561 ≤ (mn t564 bt566.1) then (some (decide (bt568.1 ≥ (mx bt570.1 bt572.1)))) else (some false)) else (some false)) else (some false))) else ((antiquarylaw09_sanity.f kj33).bind fun t575 => (if t575 = true then (some false) else (some false)))) else ((antiquarylaw09_sanity.f kj33).bind fun t576 => (if t576 = true then (some false) else (some false)))) else ((antiquarylaw09_sanity.f kj33).bind fun t577 => (if t577 = true then (some false) else (some false)))) else ((antiquarylaw09_sanity.f kj33).bind fun t578 => (if t578 = true then (some false) else (some false)))))))) = some r := H
                      have A53 := Aside0.mk A530
                      clear A530
                      replace H := Option.bind_eq_some_iff.mp H
                      obtain ⟨⟨t566, t567⟩, A540, H⟩ := H
                      replace H : ((pivot_High.f a0 t547 l3).bind fun bt568 => ((pivot_High.f a0 l1 l3).bind fun bt570 => ((pivot_High.f a0 l2 l3).bind fun bt572 => (if t565 = 0 then (if t567 = 0 then (if bt568.2 = 0 then (if bt570.2 = 0 then ((antiquarylaw09_sanity.f kj33).bind fun t574 => (if t574 = true then (if bt572.2 = 0 then (if t561 ≤ (mn t564 t566) then (some (decide (bt568.1 ≥ (mx bt570.1 bt572.1)))) else (some false)) else (some false)) else (some false))) else ((antiquarylaw09_sanity.f kj33).bind fun t575 => (if t575 = true then (some false) else (some false)))) else ((antiquarylaw09_sanity.f kj33).bind fun t576 => (if t576 = true then (some false) else (some false)))) else ((antiquarylaw09_sanity.f kj33).bind fun t577 => (if t577 = true then (some false) else (some false)))) else ((antiquarylaw09_sanity.f kj33).bind fun t578 => (if t578 = true then (some false) else (some false))))))) = some r := H
                      have A54 := Aside0.mk A540
                      clear A540
                      replace H := Option.bind_eq_some_iff.mp H
                      obtain ⟨⟨t568, t569⟩, A550, H⟩ := H
                      replace H : ((pivot_High.f a0 l1 l3).bind fun bt570 => ((pivot_High.f a0 l2 l3).bind fun bt572 => (if t565 = 0 then (if t567 = 0 then (if t569 = 0 then (if bt570.2 = 0 then ((antiquarylaw09_sanity.f kj33).bind fun t574 => (if t574 = true then (if bt572.2 = 0 then (if t561 ≤ (mn t564 t566) then (some (decide (t568 ≥ (mx bt570.1 bt572.1)))) else (some false)) else (some false)) else (some false))) else ((antiquarylaw09_sanity.f kj33).bind fun t575 => (if t575 = true then (some false) else (some false)))) else ((antiquarylaw09_sanity.f kj33).bind fun t576 => (if t576 = true then (some false) else (some false)))) else ((antiquarylaw09_sanity.f kj33).bind fun t577 => (if t577 = true then (some false) else (some false)))) else ((antiquarylaw09_sanity.f kj33).bind fun t578 => (if t578 = true then (some false) else (some false)))))) = some r := H
                      have A55 := Aside0.mk A550
                      clear A550
                      replace H := Option.bind_eq_some_iff.mp H
                      obtain ⟨⟨t570, t571⟩, A560, H⟩ := H
                      replace H : ((pivot_High.f a0 l2 l3).bind fun bt572 => (if t565 = 0 then (if t567 = 0 then (if t569 = 0 then (if t571 = 0 then ((antiquarylaw09_sanity.f kj33).bind fun t574 => (if t574 = true then (if bt572.2 = 0 then (if t561 ≤ (mn t564 t566) then (some (decide (t568 ≥ (mx t570 bt572.1)))) else (some false)) else (some false)) else (some false))) else ((antiquarylaw09_sanity.f kj33).bind fun t575 => (if t575 = true then (some false) else (some false)))) else ((antiquarylaw09_sanity.f kj33).bind fun t576 => (if t576 = true then (some false) else (some false)))) else ((antiquarylaw09_sanity.f kj33).bind fun t577 => (if t577 = true then (some false) else (some false)))) else ((antiquarylaw09_sanity.f kj33).bind fun t578 => (if t578 = true then (some false) else (some false))))) = some r := H
                      have A56 := Aside0.mk A560
                      clear A560
                      replace H := Option.bind_eq_some_iff.mp H
                      obtain ⟨⟨t572, t573⟩, A570, H⟩ := H
                      replace H : (if t565 = 0 then (if t567 = 0 then (if t569 = 0 then (if t571 = 0 then ((antiquarylaw09_sanity.f kj33).bind fun t574 => (if t574 = true then (if t573 = 0 then (if t561 ≤ (mn t564 t566) then (some (decide (t568 ≥ (mx t570 t572)))) else (some false)) else (some false)) else (some false))) else ((antiquarylaw09_sanity.f kj33).bind fun t575 => (if t575 = true then (some false) else (some false)))) else ((antiquarylaw09_sanity.f kj33).bind fun t576 => (if t576 = true then (some false) else (some false)))) else ((antiquarylaw09_sanity.f kj33).bind fun t577 => (if t577 = true then (some false) else (some false)))) else ((antiquarylaw09_sanity.f kj33).bind fun t578 => (if t578 = true then (some false) else (some false)))) = some r := H
                      have A57 := Aside0.mk A570
                      clear A570
                      by_cases c58 : t565 = 0
                      · rw [if_pos c58] at H
                        have c58b0 : (t565 == 0) = true := beq_iff_eq.mpr c58
                        have c58b1 : (t565 != 0) = false := bne_eq_false_iff_eq.mpr c58
                        clear c58
                        by_cases c59 : t567 = 0
                        · rw [if_pos c59] at H
                          have c59b0 : (t567 == 0) = true := beq_iff_eq.mpr c59
                          have c59b1 : (t567 != 0) = false := bne_eq_false_iff_eq.mpr c59
                          clear c59
                          by_cases c60 : t569 = 0
                          · rw [if_pos c60] at H
                            have c60b0 : (t569 == 0) = true := beq_iff_eq.mpr c60
                            have c60b1 : (t569 != 0) = false := bne_eq_false_iff_eq.mpr c60
                            clear c60
                            by_cases c61 : t571 = 0
                            · rw [if_pos c61] at H
                              have c61b0 : (t571 == 0) = true := beq_iff_eq.mpr c61
                              have c61b1 : (t571 != 0) = false := bne_eq_false_iff_eq.mpr c61
                              clear c61
                              replace H := Option.bind_eq_some_iff.mp H
                              obtain ⟨t574, A620, H⟩ := H
                              replace H : (if t574 = true then (if t573 = 0 then (if t561 ≤ (mn t564 t566) then (some (decide (t568 ≥ (mx t570 t572)))) else (some false)) else (some false)) else (some false)) = some r := H
                              have A62 := Aside0.mk A620
                              clear A620
                              by_cases c63 : t574 = true
                              · subst c63
                                have H1 : (if t573 = 0 then (if t561 ≤ (mn t564 t566) then (some (decide (t568 ≥ (mx t570 t572)))) else (some false)) else (some false)) = some r := by rw [if_pos rfl] at H; exact H
                                clear H
                                have H := H1
                                clear H1
                                by_cases c64 : t573 = 0
                                · rw [if_pos c64] at H
                                  have c64b0 : (t573 == 0) = true := beq_iff_eq.mpr c64
                                  have c64b1 : (t573 != 0) = false := bne_eq_false_iff_eq.mpr c64
                                  clear c64
                                  obtain ⟨ji65, hji65⟩ : ∃ j_ : Int, (mn t564 t566) = j_ := ⟨_, rfl⟩
                                  replace H : (if t561 ≤ (ji65) then (some (decide (t568 ≥ (mx t570 t572)))) else (some false)) = some r := by first | (rw [hji65] at H; exact H) | (simp only [hji65] at H ⊢; exact H)
                                  (try rw [hji65] at A51)
                                  (try rw [hji65] at A53)
                                  (try rw [hji65] at A54)
                                  (try rw [hji65] at A55)
                                  (try rw [hji65] at A56)
                                  (try rw [hji65] at A57)
                                  (try rw [hji65] at A62)
                                  have hji65_ : (if t566 < t564 then t566 else t564) = ji65 := hji65
                                  by_cases c66 : t561 ≤ (ji65)
                                  · rw [if_pos c66] at H
                                    have c66b0 : decide (t561 ≤ (ji65)) = true := decide_eq_true c66
                                    clear c66
                                    obtain ⟨ji67, hji67⟩ : ∃ j_ : Int, (mx t570 t572) = j_ := ⟨_, rfl⟩
                                    replace H : (some (decide (t568 ≥ (ji67)))) = some r := by first | (rw [hji67] at H; exact H) | (simp only [hji67] at H ⊢; exact H)
                                    (try rw [hji67] at A51)
                                    (try rw [hji67] at A53)
                                    (try rw [hji67] at A54)
                                    (try rw [hji67] at A55)
                                    (try rw [hji67] at A56)
                                    (try rw [hji67] at A57)
                                    (try rw [hji67] at A62)
                                    have hji67_ : (if t570 < t572 then t572 else t570) = ji67 := hji67
                                    obtain rfl := Option.some.inj H
                                    obtain ⟨Ao68, co68, eo68⟩ := Kd.R_slice HO_11.out
                                    subst eo68
                                    go_wp2_with (first | ((with_reducible refine gate_callee (f := 25) rfl ?_); refine goesL_ (some 106) rfl rfl Try.func25 (by kernel_rfl) rfl #[.int .i64 a0, .slice Ao68 t547.length co68, .slice A3 l3.length c3] rfl (by (try simp only [List.map_toArray, List.map_cons, List.map_nil]); first | done | rfl | (simp only [List.length_drop, List.length_take]; rfl)) ?_; (with_reducible refine (pivot_Low.calls a0 _ _ t547 _ _ l3 t561 t562 _ ?side1 ?side2 ?side3 ?side4 A51.out).mono ?_); (case side1 => repeat (first | exact (Kd.R_reads' HO_11.out).2.2 | (with_reducible refine Kd.C_alloc ?_ _) | (with_reducible refine Kd.C_drewN ?_ _) | (with_reducible refine Kd.C_drew ?_))); (case side2 => exact (Kd.R_reads' HO_11.out).2.1); (case side3 => repeat (first | exact (Kd.C_below HR3.out HB.out) | (with_reducible refine Kd.C_alloc ?_ _) | (with_reducible refine Kd.C_drewN ?_ _) | (with_reducible refine Kd.C_drew ?_))); (case side4 => exact HC3.out); rintro e w69 ⟨rfl, hb⟩; refine ⟨_, rfl, ?_⟩; have n0_ := Aside0.mk (Kd.R_below (by (with_reducible repeat (first | apply Kd.R_alloc | apply Kd.R_drewN | apply Kd.R_drew)); exact HO_11.out) hb); have n1_ := Aside0.mk (below_step (by repeat (first | (with_reducible first | exact HB.out | apply below_alloc | apply pw_below_drewN | apply below_drew1) | exact HB.out)) hb); clear HO_11; clear HB; have HO_11 := n0_; have HB := n1_; clear n0_ n1_; (try clear hb); (try clear hb2); (try clear hk); (try clear hi)) | ((with_reducible refine gate_callee (f := 25) rfl ?_); refine goesL_ (some 116) rfl rfl Try.func25 (by kernel_rfl) rfl #[.int .i64 a0, .slice A1 l1.length c1, .slice A3 l3.length c3] rfl (by (try simp only [List.map_toArray, List.map_cons, List.map_nil]); first | done | rfl | (simp only [List.length_drop, List.length_take]; rfl)) ?_; (with_reducible refine (pivot_Low.calls a0 _ _ l1 _ _ l3 t564 t565 _ ?side1 ?side2 ?side3 ?side4 A53.out).mono ?_); (case side1 => repeat (first | exact (Kd.C_below HR1.out HB.out) | (with_reducible refine Kd.C_alloc ?_ _) | (with_reducible refine Kd.C_drewN ?_ _) | (with_reducible refine Kd.C_drew ?_))); (case side2 => exact HC1.out); (case side3 => repeat (first | exact (Kd.C_below HR3.out HB.out) | (with_reducible refine Kd.C_alloc ?_ _) | (with_reducible refine Kd.C_drewN ?_ _) | (with_reducible refine Kd.C_drew ?_))); (case side4 => exact HC3.out); rintro e w70 ⟨rfl, hb⟩; refine ⟨_, rfl, ?_⟩; have n0_ := Aside0.mk (Kd.R_below (by (with_reducible repeat (first | apply Kd.R_alloc | apply Kd.R_drewN | apply Kd.R_drew)); exact HO_11.out) hb); have n1_ := Aside0.mk (below_step (by repeat (first | (with_reducible first | exact HB.out | apply below_alloc | apply pw_below_drewN | apply below_drew1) | exact HB.out)) hb); clear HO_11; clear HB; have HO_11 := n0_; have HB := n1_; clear n0_ n1_; (try clear hb); (try clear hb2); (try clear hk); (try clear hi)) | ((with_reducible refine gate_callee (f := 25) rfl ?_); refine goesL_ (some 123) rfl rfl Try.func25 (by kernel_rfl) rfl #[.int .i64 a0, .slice A2 l2.length c2, .slice A3 l3.length c3] rfl (by (try simp only [List.map_toArray, List.map_cons, List.map_nil]); first | done | rfl | (simp only [List.length_drop, List.length_take]; rfl)) ?_; (with_reducible refine (pivot_Low.calls a0 _ _ l2 _ _ l3 t566 t567 _ ?side1 ?side2 ?side3 ?side4 A54.out).mono ?_); (case side1 => repeat (first | exact (Kd.C_below HR2.out HB.out) | (with_reducible refine Kd.C_alloc ?_ _) | (with_reducible refine Kd.C_drewN ?_ _) | (with_reducible refine Kd.C_drew ?_))); (case side2 => exact HC2.out); (case side3 => repeat (first | exact (Kd.C_below HR3.out HB.out) | (with_reducible refine Kd.C_alloc ?_ _) | (with_reducible refine Kd.C_drewN ?_ _) | (with_reducible refine Kd.C_drew ?_))); (case side4 => exact HC3.out); rintro e w71 ⟨rfl, hb⟩; refine ⟨_, rfl, ?_⟩; have n0_ := Aside0.mk (Kd.R_below (by (with_reducible repeat (first | apply Kd.R_alloc | apply Kd.R_drewN | apply Kd.R_drew)); exact HO_11.out) hb); have n1_ := Aside0.mk (below_step (by repeat (first | (with_reducible first | exact HB.out | apply below_alloc | apply pw_below_drewN | apply below_drew1) | exact HB.out)) hb); clear HO_11; clear HB; have HO_11 := n0_; have HB := n1_; clear n0_ n1_; (try clear hb); (try clear hb2); (try clear hk); (try clear hi)) | ((with_reducible refine gate_callee (f := 26) rfl ?_); refine goesL_ (some 130) rfl rfl Try.func26 (by kernel_rfl) rfl #[.int .i64 a0, .slice Ao68 t547.length co68, .slice A3 l3.length c3] rfl (by (try simp only [List.map_toArray, List.map_cons, List.map_nil]); first | done | rfl | (simp only [List.length_drop, List.length_take]; rfl)) ?_; (with_reducible refine (pivot_High.calls a0 _ _ t547 _ _ l3 t568 t569 _ ?side1 ?side2 ?side3 ?side4 A55.out).mono ?_); (case side1 => repeat (first | exact (Kd.R_reads' HO_11.out).2.2 | (with_reducible refine Kd.C_alloc ?_ _) | (with_reducible refine Kd.C_drewN ?_ _) | (with_reducible refine Kd.C_drew ?_))); (case side2 => exact (Kd.R_reads' HO_11.out).2.1); (case side3 => repeat (first | exact (Kd.C_below HR3.out HB.out) | (with_reducible refine Kd.C_alloc ?_ _) | (with_reducible refine Kd.C_drewN ?_ _) | (with_reducible refine Kd.C_drew ?_))); (case side4 => exact HC3.out); rintro e w72 ⟨rfl, hb⟩; refine ⟨_, rfl, ?_⟩; have n0_ := Aside0.mk (Kd.R_below (by (with_reducible repeat (first | apply Kd.R_alloc | apply Kd.R_drewN | apply Kd.R_drew)); exact HO_11.out) hb); have n1_ := Aside0.mk (below_step (by repeat (first | (with_reducible first | exact HB.out | apply below_alloc | apply pw_below_drewN | apply below_drew1) | exact HB.out)) hb); clear HO_11; clear HB; have HO_11 := n0_; have HB := n1_; clear n0_ n1_; (try clear hb); (try clear hb2); (try clear hk); (try clear hi)) | ((with_reducible refine gate_callee (f := 26) rfl ?_); refine goesL_ (some 137) rfl rfl Try.func26 (by kernel_rfl) rfl #[.int .i64 a0, .slice A1 l1.length c1, .slice A3 l3.length c3] rfl (by (try simp only [List.map_toArray, List.map_cons, List.map_nil]); first | done | rfl | (simp only [List.length_drop, List.length_take]; rfl)) ?_; (with_reducible refine (pivot_High.calls a0 _ _ l1 _ _ l3 t570 t571 _ ?side1 ?side2 ?side3 ?side4 A56.out).mono ?_); (case side1 => repeat (first | exact (Kd.C_below HR1.out HB.out) | (with_reducible refine Kd.C_alloc ?_ _) | (with_reducible refine Kd.C_drewN ?_ _) | (with_reducible refine Kd.C_drew ?_))); (case side2 => exact HC1.out); (case side3 => repeat (first | exact (Kd.C_below HR3.out HB.out) | (with_reducible refine Kd.C_alloc ?_ _) | (with_reducible refine Kd.C_drewN ?_ _) | (with_reducible refine Kd.C_drew ?_))); (case side4 => exact HC3.out); rintro e w73 ⟨rfl, hb⟩; refine ⟨_, rfl, ?_⟩; have n0_ := Aside0.mk (Kd.R_below (by (with_reducible repeat (first | apply Kd.R_alloc | apply Kd.R_drewN | apply Kd.R_drew)); exact HO_11.out) hb); have n1_ := Aside0.mk (below_step (by repeat (first | (with_reducible first | exact HB.out | apply below_alloc | apply pw_below_drewN | apply below_drew1) | exact HB.out)) hb); clear HO_11; clear HB; have HO_11 := n0_; have HB := n1_; clear n0_ n1_; (try clear hb); (try clear hb2); (try clear hk); (try clear hi)) | ((with_reducible refine gate_callee (f := 26) rfl ?_); refine goesL_ (some 144) rfl rfl Try.func26 (by kernel_rfl) rfl #[.int .i64 a0, .slice A2 l2.length c2, .slice A3 l3.length c3] rfl (by (try simp only [List.map_toArray, List.map_cons, List.map_nil]); first | done | rfl | (simp only [List.length_drop, List.length_take]; rfl)) ?_; (with_reducible refine (pivot_High.calls a0 _ _ l2 _ _ l3 t572 t573 _ ?side1 ?side2 ?side3 ?side4 A57.out).mono ?_); (case side1 => repeat (first | exact (Kd.C_below HR2.out HB.out) | (with_reducible refine Kd.C_alloc ?_ _) | (with_reducible refine Kd.C_drewN ?_ _) | (with_reducible refine Kd.C_drew ?_))); (case side2 => exact HC2.out); (case side3 => repeat (first | exact (Kd.C_below HR3.out HB.out) | (with_reducible refine Kd.C_alloc ?_ _) | (with_reducible refine Kd.C_drewN ?_ _) | (with_reducible refine Kd.C_drew ?_))); (case side4 => exact HC3.out); rintro e w74 ⟨rfl, hb⟩; refine ⟨_, rfl, ?_⟩; have n0_ := Aside0.mk (Kd.R_below (by (with_reducible repeat (first | apply Kd.R_alloc | apply Kd.R_drewN | apply Kd.R_drew)); exact HO_11.out) hb); have n1_ := Aside0.mk (below_step (by repeat (first | (with_reducible first | exact HB.out | apply below_alloc | apply pw_below_drewN | apply below_drew1) | exact HB.out)) hb); clear HO_11; clear HB; have HO_11 := n0_; have HB := n1_; clear n0_ n1_; (try clear hb); (try clear hb2); (try clear hk); (try clear hi)) | ((with_reducible refine gate_callee (f := 10) rfl ?_); refine goesL_ (some 165) rfl rfl Try.func10 (by kernel_rfl) rfl #[] rfl (by (try simp only [List.map_toArray, List.map_cons, List.map_nil]); first | done | rfl | (simp only [List.length_drop, List.length_take]; rfl)) ?_; (with_reducible refine (antiquarylaw09_sanity.calls kj33  true _ A62.out (by first | rfl | exact HT.out)).mono ?_); rintro e w75 ⟨rfl, hb⟩; refine ⟨_, rfl, ?_⟩; have n0_ := Aside0.mk (Kd.R_below (by (with_reducible repeat (first | apply Kd.R_alloc | apply Kd.R_drewN | apply Kd.R_drew)); exact HO_11.out) hb); have n1_ := Aside0.mk (below_step (by repeat (first | (with_reducible first | exact HB.out | apply below_alloc | apply pw_below_drewN | apply below_drew1) | exact HB.out)) hb); clear HO_11; clear HB; have HO_11 := n0_; have HB := n1_; clear n0_ n1_; (try clear hb); (try clear hb2); (try clear hk); (try clear hi)))
                                    go_ret
                                    exact ⟨by first | rfl | (simp [errW_none, errW_some] <;> rfl) | (simp only [← hji65, ← hji67]; first | rfl | (simp [errW_none, errW_some] <;> rfl)) | (simp [*, errW_none, errW_some] <;> rfl), by repeat (first | (with_reducible first | exact HB.out | apply below_alloc | apply pw_below_drewN | apply below_drew1) | exact HB.out)⟩
                                  · rw [if_neg c66] at H
                                    have c66b0 : decide (t561 ≤ (ji65)) = false := decide_eq_false c66
                                    clear c66
                                    exact absurd (Option.some.inj H) (by rw [HT.out]; decide)
                                · rw [if_neg c64] at H
                                  have c64b0 : (t573 == 0) = false := beq_eq_false_iff_ne.mpr c64
                                  have c64b1 : (t573 != 0) = true := bne_iff_ne.mpr c64
                                  exact absurd (Option.some.inj H) (by rw [HT.out]; decide)
                              · replace c63 := Bool.eq_false_iff.mpr c63
                                subst c63
                                have H1 : (some false) = some r := by rw [if_neg (show ¬ (false = true) by decide)] at H; exact H
                                clear H
                                have H := H1
                                clear H1
                                exact absurd (Option.some.inj H) (by rw [HT.out]; decide)
                            · rw [if_neg c61] at H
                              have c61b0 : (t571 == 0) = false := beq_eq_false_iff_ne.mpr c61
                              have c61b1 : (t571 != 0) = true := bne_iff_ne.mpr c61
                              replace H := Option.bind_eq_some_iff.mp H
                              obtain ⟨t575, A1000, H⟩ := H
                              replace H : (if t575 = true then (some false) else (some false)) = some r := H
                              have A100 := Aside0.mk A1000
                              clear A1000
                              by_cases c101 : t575 = true
                              · subst c101
                                have H1 : (some false) = some r := by rw [if_pos rfl] at H; exact H
                                clear H
                                have H := H1
                                clear H1
                                exact absurd (Option.some.inj H) (by rw [HT.out]; decide)
                              · replace c101 := Bool.eq_false_iff.mpr c101
                                subst c101
                                have H1 : (some false) = some r := by rw [if_neg (show ¬ (false = true) by decide)] at H; exact H
                                clear H
                                have H := H1
                                clear H1
                                exact absurd (Option.some.inj H) (by rw [HT.out]; decide)
                          · rw [if_neg c60] at H
                            have c60b0 : (t569 == 0) = false := beq_eq_false_iff_ne.mpr c60
                            have c60b1 : (t569 != 0) = true := bne_iff_ne.mpr c60
                            replace H := Option.bind_eq_some_iff.mp H
                            obtain ⟨t576, A1180, H⟩ := H
                            replace H : (if t576 = true then (some false) else (some false)) = some r := H
                            have A118 := Aside0.mk A1180
                            clear A1180
                            by_cases c119 : t576 = true
                            · subst c119
                              have H1 : (some false) = some r := by rw [if_pos rfl] at H; exact H
                              clear H
                              have H := H1
                              clear H1
                              exact absurd (Option.some.inj H) (by rw [HT.out]; decide)
                            · replace c119 := Bool.eq_false_iff.mpr c119
                              subst c119
                              have H1 : (some false) = some r := by rw [if_neg (show ¬ (false = true) by decide)] at H; exact H
                              clear H
                              have H := H1
                              clear H1
                              exact absurd (Option.some.inj H) (by rw [HT.out]; decide)
                        · rw [if_neg c59] at H
                          have c59b0 : (t567 == 0) = false := beq_eq_false_iff_ne.mpr c59
                          have c59b1 : (t567 != 0) = true := bne_iff_ne.mpr c59
                          replace H := Option.bind_eq_some_iff.mp H
                          obtain ⟨t577, A1360, H⟩ := H
                          replace H : (if t577 = true then (some false) else (some false)) = some r := H
                          have A136 := Aside0.mk A1360
                          clear A1360
                          by_cases c137 : t577 = true
                          · subst c137
                            have H1 : (some false) = some r := by rw [if_pos rfl] at H; exact H
                            clear H
                            have H := H1
                            clear H1
                            exact absurd (Option.some.inj H) (by rw [HT.out]; decide)
                          · replace c137 := Bool.eq_false_iff.mpr c137
                            subst c137
                            have H1 : (some false) = some r := by rw [if_neg (show ¬ (false = true) by decide)] at H; exact H
                            clear H
                            have H := H1
                            clear H1
                            exact absurd (Option.some.inj H) (by rw [HT.out]; decide)
                      · rw [if_neg c58] at H
                        have c58b0 : (t565 == 0) = false := beq_eq_false_iff_ne.mpr c58
                        have c58b1 : (t565 != 0) = true := bne_iff_ne.mpr c58
                        replace H := Option.bind_eq_some_iff.mp H
                        obtain ⟨t578, A1540, H⟩ := H
                        replace H : (if t578 = true then (some false) else (some false)) = some r := H
                        have A154 := Aside0.mk A1540
                        clear A1540
                        by_cases c155 : t578 = true
                        · subst c155
                          have H1 : (some false) = some r := by rw [if_pos rfl] at H; exact H
                          clear H
                          have H := H1
                          clear H1
                          exact absurd (Option.some.inj H) (by rw [HT.out]; decide)
                        · replace c155 := Bool.eq_false_iff.mpr c155
                          subst c155
                          have H1 : (some false) = some r := by rw [if_neg (show ¬ (false = true) by decide)] at H; exact H
                          clear H
                          have H := H1
                          clear H1
                          exact absurd (Option.some.inj H) (by rw [HT.out]; decide)
                    · rw [if_neg c52] at H
                      have c52b0 : (t562 == 0) = false := beq_eq_false_iff_ne.mpr c52
                      have c52b1 : (t562 != 0) = true := bne_iff_ne.mpr c52
                      replace H := Option.bind_eq_some_iff.mp H
                      obtain ⟨t563, A1720, H⟩ := H
                      replace H : (some t563) = some r := H
                      have A172 := Aside0.mk A1720
                      clear A1720
                      obtain rfl := Option.some.inj H
                      obtain ⟨Ao173, co173, eo173⟩ := Kd.R_slice HO_11.out
                      subst eo173
                      go_wp2_with (first | ((with_reducible refine gate_callee (f := 25) rfl ?_); refine goesL_ (some 106) rfl rfl Try.func25 (by kernel_rfl) rfl #[.int .i64 a0, .slice Ao173 t547.length co173, .slice A3 l3.length c3] rfl (by (try simp only [List.map_toArray, List.map_cons, List.map_nil]); first | done | rfl | (simp only [List.length_drop, List.length_take]; rfl)) ?_; (with_reducible refine (pivot_Low.calls a0 _ _ t547 _ _ l3 t561 t562 _ ?side1 ?side2 ?side3 ?side4 A51.out).mono ?_); (case side1 => repeat (first | exact (Kd.R_reads' HO_11.out).2.2 | (with_reducible refine Kd.C_alloc ?_ _) | (with_reducible refine Kd.C_drewN ?_ _) | (with_reducible refine Kd.C_drew ?_))); (case side2 => exact (Kd.R_reads' HO_11.out).2.1); (case side3 => repeat (first | exact (Kd.C_below HR3.out HB.out) | (with_reducible refine Kd.C_alloc ?_ _) | (with_reducible refine Kd.C_drewN ?_ _) | (with_reducible refine Kd.C_drew ?_))); (case side4 => exact HC3.out); rintro e w174 ⟨rfl, hb⟩; refine ⟨_, rfl, ?_⟩; have n0_ := Aside0.mk (Kd.R_below (by (with_reducible repeat (first | apply Kd.R_alloc | apply Kd.R_drewN | apply Kd.R_drew)); exact HO_11.out) hb); have n1_ := Aside0.mk (below_step (by repeat (first | (with_reducible first | exact HB.out | apply below_alloc | apply pw_below_drewN | apply below_drew1) | exact HB.out)) hb); clear HO_11; clear HB; have HO_11 := n0_; have HB := n1_; clear n0_ n1_; (try clear hb); (try clear hb2); (try clear hk); (try clear hi)) | ((with_reducible refine gate_callee (f := 10) rfl ?_); refine goesL_ (some 111) rfl rfl Try.func10 (by kernel_rfl) rfl #[] rfl (by (try simp only [List.map_toArray, List.map_cons, List.map_nil]); first | done | rfl | (simp only [List.length_drop, List.length_take]; rfl)) ?_; (with_reducible refine (antiquarylaw09_sanity.calls kj33  t563 _ A172.out (by first | rfl | exact HT.out)).mono ?_); rintro e w175 ⟨rfl, hb⟩; refine ⟨_, rfl, ?_⟩; have n0_ := Aside0.mk (Kd.R_below (by (with_reducible repeat (first | apply Kd.R_alloc | apply Kd.R_drewN | apply Kd.R_drew)); exact HO_11.out) hb); have n1_ := Aside0.mk (below_step (by repeat (first | (with_reducible first | exact HB.out | apply below_alloc | apply pw_below_drewN | apply below_drew1) | exact HB.out)) hb); clear HO_11; clear HB; have HO_11 := n0_; have HB := n1_; clear n0_ n1_; (try clear hb); (try clear hb2); (try clear hk); (try clear hi)))
                      go_ret
                      exact ⟨by first | rfl | (simp [errW_none, errW_some] <;> rfl) | (simp [*, errW_none, errW_some] <;> rfl), by repeat (first | (with_reducible first | exact HB.out | apply below_alloc | apply pw_below_drewN | apply below_drew1) | exact HB.out)⟩
end Go.Proofs.Ytoidpkpgeeeggaa.Q
end
section
namespace Go.Proofs.Ytoidpkpgeeeggaa.Q
open Go.RowKit Go.Proofs.YtoidpkpgeeeggaaW.PrintWords Go.Proofs.YtoidpkpgeeeggaaW.PrintLast Go.Proofs.YtoidpkpgeeeggaaW.PrintMore
attribute [local go_sem] max2_int min2_int max_two min_two max_three min_three max_four min_four   -- for this text's walks alone
set_option linter.unusedVariables false
set_option linter.unusedSimpArgs false
def pivot_few (l : List (List Int)) : Prop := l.length ≤ 4096 ∧ ∀ v ∈ l, v.length ≤ 4096
instance (l : List (List Int)) : Decidable (pivot_few l) := by unfold pivot_few; infer_instance
theorem ref09_Metric_is (m : Int) : antiquaryref09_Metric.f m = some (decide (1 ≤ m ∧ m ≤ 3)) := by
  unfold antiquaryref09_Metric.f
  by_cases h1 : m ≥ 1
  · rw [if_pos h1]; congr 1; rw [Bool.eq_iff_iff, decide_eq_true_eq, decide_eq_true_eq]; omega
  · rw [if_neg h1]; congr 1; symm; rw [decide_eq_false_iff_not]; omega
end Go.Proofs.Ytoidpkpgeeeggaa.Q
end
section
set_option linter.unusedVariables false
namespace Go.Proofs.Ytoidpkpgeeeggaa.EvShell
open Go.RowKit Go.Proofs.Ytoidpkpgeeeggaa.Q Go.Proofs.YtoidpkpgeeeggaaW.PrintWords Plain
theorem rdT (l : List S57) (i : Nat) : rd_T57 l (i : Int) = l.getD i z57 := by unfold rd_T57; rw [Int.toNat_natCast]
theorem valid_iff (l : List S57) : validSh l ↔ (∀ i, i < l.length → 0 ≤ (rd_T57 l (i : Int)).f0 ∧ (rd_T57 l (i : Int)).f0 ≤ (rd_T57 l (i : Int)).f1 ∧ (rd_T57 l (i : Int)).f1 ≤ 134217728) ∧ l.length ≤ 8 := by
  unfold validSh
  rw [all_lt l z57]
  simp only [rdT]
theorem good_iff (l : List Int) : keysGood l ↔ ∀ i, i < l.length → isKey (rd l (i : Int)) := by
  unfold keysGood
  rw [all_lt l 0]
  simp only [rd, Int.toNat_natCast]
theorem same_self (a : List S57) (ha : a.length ≤ 4611686018427387904) : Ev (fun k => antiquaryref09_SameShells.f k a a) true := by
  unfold antiquaryref09_SameShells.f
  refine ev_pos rfl ?_
  refine ev_count0 (G := fun i k => antiquaryref09_SameShells.l0 k a a (i : Int)) (n := a.length) (fun i hi h => ?_) ?_
  · refine ev_succ ?_
    simp only [antiquaryref09_SameShells.l0]
    refine ev_pos (by omega) (ev_pos (by omega) (ev_pos (by omega) (ev_neg (by simp) ?_)))
    rw [wsuc i (by omega)]
    exact h
  · refine ev_succ ?_
    simp only [antiquaryref09_SameShells.l0]
    exact ev_neg (by omega) (ev_some rfl)
theorem rvalid_ev (l : List S57) (hl : l.length ≤ 9223372036854775807) : Ev (fun k => antiquaryref09_Valid.f k l) (decide (validSh l)) := by
  unfold antiquaryref09_Valid.f
  have hv := valid_iff l
  refine ev_count (G := fun i k => antiquaryref09_Valid.l0 k l (i : Int)) (n := l.length)
    (fun i => ∀ j, j < i → 0 ≤ (rd_T57 l (j : Int)).f0 ∧ (rd_T57 l (j : Int)).f0 ≤ (rd_T57 l (j : Int)).f1 ∧ (rd_T57 l (j : Int)).f1 ≤ 134217728) (fun j hj => by omega) (fun i hi hI h => ?_) (fun hI => ?_)
  · refine ev_succ ?_
    simp only [antiquaryref09_Valid.l0]
    refine ev_pos (by omega) (ev_pos (by omega) ?_)
    have bad : ¬ (0 ≤ (rd_T57 l (i : Int)).f0 ∧ (rd_T57 l (i : Int)).f0 ≤ (rd_T57 l (i : Int)).f1 ∧ (rd_T57 l (i : Int)).f1 ≤ 134217728) → false = decide (validSh l) := fun hb => by
      symm; rw [decide_eq_false_iff_not, hv]; exact fun k => hb (k.1 i hi)
    by_cases c1 : (rd_T57 l (i : Int)).f0 < 0
    · exact ev_pos c1 (ev_some (bad (by omega)))
    refine ev_neg c1 ?_
    by_cases c2 : (rd_T57 l (i : Int)).f0 > (rd_T57 l (i : Int)).f1
    · exact ev_pos c2 (ev_some (bad (by omega)))
    refine ev_neg c2 ?_
    by_cases c3 : (rd_T57 l (i : Int)).f1 > 134217728
    · exact ev_pos c3 (ev_some (bad (by omega)))
    refine ev_neg c3 ?_
    rw [wsuc i (by omega)]
    refine h (fun j hj => ?_)
    rcases Nat.lt_succ_iff_lt_or_eq.1 hj with h1 | rfl
    · exact hI j h1
    · omega
  · refine ev_succ ?_
    simp only [antiquaryref09_Valid.l0]
    refine ev_neg (by omega) (ev_some ?_)
    rw [Bool.eq_iff_iff, decide_eq_true_eq, decide_eq_true_eq, hv]
    exact ⟨fun h => ⟨hI, by omega⟩, fun h => by have := h.2; omega⟩
/-- the shells that have what two lists have -/
def joinAt (a b : List S57) (i : Nat) : S57 := ⟨mn (rd_T57 a (i : Int)).f0 (rd_T57 b (i : Int)).f0, mx (rd_T57 a (i : Int)).f1 (rd_T57 b (i : Int)).f1⟩
def joinOf (a b : List S57) : List S57 := (List.range a.length).map (joinAt a b)
theorem rd_join {a b : List S57} {i : Nat} (h : i < a.length) : rd_T57 (joinOf a b) (i : Int) = joinAt a b i := by
  rw [rdT]; unfold joinOf; simp [List.getD_eq_getElem?_getD, h]
def joins (a b : List S57) : Prop := validSh a ∧ validSh b ∧ a.length = b.length
instance (a b : List S57) : Decidable (joins a b) := by unfold joins; infer_instance
theorem at_valid {a : List S57} (h : validSh a) {i : Nat} (hi : i < a.length) : 0 ≤ (rd_T57 a (i : Int)).f0 ∧ (rd_T57 a (i : Int)).f0 ≤ (rd_T57 a (i : Int)).f1 ∧ (rd_T57 a (i : Int)).f1 ≤ 134217728 := ((valid_iff a).1 h).1 i hi
theorem join_ev {a b : List S57} (ha : a.length ≤ 4611686018427387904) (hb : b.length ≤ 4611686018427387904) : Ev (fun k => pivot_Join.f k a b) (if joins a b then (joinOf a b, 0) else ([], 1)) := by
  have no : ¬ joins a b → Ev (fun k => pivot_Join.j0 k a b true) (if joins a b then (joinOf a b, 0) else ([], 1)) := fun h => by
    refine ev_succ ?_
    simp only [pivot_Join.j0]
    exact ev_pos (by first | rfl | trivial) (ev_some (if_neg h).symm)
  refine ev_bind (pivot_Valid.ev a ha) ?_
  by_cases h1 : validSh a
  · refine ev_pos (by simpa using h1) (ev_bind (pivot_Valid.ev b hb) ?_)
    by_cases h2 : validSh b
    · refine ev_pos (by simpa using h2) ?_
      by_cases h3 : a.length = b.length
      · have hj : joins a b := ⟨h1, h2, h3⟩
        rw [if_pos hj, show ((a.length : Int) != (b.length : Int)) = false by simp [h3]]
        refine ev_succ ?_
        simp only [pivot_Join.j0]
        refine ev_neg (by simp) ?_
        have h8 := h1.2
        refine ev_cast (ev_count0 (G := fun i k => pivot_Join.l0 k b ((List.range i).map (joinAt a b)) a (a.length : Int) (i : Int)) (n := a.length) (r := (joinOf a b, 0)) (fun i hi h => ?_) ?_) rfl
        · refine ev_succ ?_
          simp only [pivot_Join.l0]
          have va := at_valid h1 hi
          have vb := at_valid h2 (i := i) (by omega)
          refine ev_pos (by omega) (ev_pos (by omega) (ev_pos (by omega) ?_))
          refine ev_ob (show pivot_of.f _ _ = some (_, _) from rfl) (ev_pos (by omega) ?_)
          refine ev_ob (show pivot_pair_int_with.f _ _ _ = some (_, _) from rfl) (ev_ob (show pivot_pair_int_with.f _ _ _ = some (_, _) from rfl) (ev_pos (by simp; omega) ?_))
          rw [wsuc i (by omega)]
          refine ev_cast ?_ rfl
          have e : (List.range (i + 1)).map (joinAt a b) = (List.range i).map (joinAt a b) ++ [(⟨mn (mn (rd_T57 a (i : Int)).f0 (rd_T57 b (i : Int)).f0) (rd_T57 b (i : Int)).f1, mx (mx (rd_T57 a (i : Int)).f1 (rd_T57 b (i : Int)).f0) (rd_T57 b (i : Int)).f1⟩ : S57)] := by
            rw [List.range_succ, List.map_append, List.map_singleton]
            congr 2
            unfold joinAt
            congr 1
            · unfold mn; split <;> split <;> omega
            · unfold mx; split <;> split <;> (try split) <;> omega
          rw [e] at h
          exact h
        · refine ev_succ ?_
          simp only [pivot_Join.l0]
          exact ev_neg (by omega) (ev_some rfl)
      · have hj : ¬ joins a b := fun h => h3 h.2.2
        rw [show ((a.length : Int) != (b.length : Int)) = true by rw [bne_iff_ne]; omega]
        exact no hj
    · exact ev_neg (by simpa using h2) (no (fun h => h2 h.2.1))
  · exact ev_neg (by simpa using h1) (no (fun h => h1 h.1))
/-- keys in shells -/
def inSh (l : List S57) (ks : List Int) : Prop := validSh l ∧ ks.length = l.length ∧ ∀ i, i < l.length → (rd_T57 l (i : Int)).f0 ≤ rd ks (i : Int) ∧ rd ks (i : Int) ≤ (rd_T57 l (i : Int)).f1
instance (l : List S57) (ks : List Int) : Decidable (inSh l ks) := by unfold inSh; infer_instance
theorem has_is (lo hi x : Int) (h : lo ≤ hi) : pivot_pair_int_has.f lo hi x = some (decide (lo ≤ x ∧ x ≤ hi)) := by
  unfold pivot_pair_int_has.f pivot_pair_int_with.f
  refine Plain.bind_of rfl ?_
  congr 1
  rw [Bool.eq_iff_iff, Bool.and_eq_true, beq_iff_eq, beq_iff_eq, decide_eq_true_eq]
  unfold mn mx
  dsimp only
  split <;> split <;> omega
theorem in_ev {l : List S57} {ks : List Int} (hl : l.length ≤ 4611686018427387904) : Ev (fun k => pivot_In.f k l ks) (decide (inSh l ks)) := by
  have no : ¬ inSh l ks → Ev (fun k => pivot_In.j0 k l ks true) (decide (inSh l ks)) := fun h => by
    refine ev_succ ?_
    simp only [pivot_In.j0]
    exact ev_pos (by first | rfl | trivial) (ev_some (decide_eq_false h).symm)
  refine ev_bind (pivot_Valid.ev l hl) ?_
  by_cases h1 : validSh l
  · refine ev_pos (by simpa using h1) ?_
    have h8 := h1.2
    by_cases h3 : ks.length = l.length
    · rw [show ((ks.length : Int) != (l.length : Int)) = false by simp [h3]]
      refine ev_succ ?_
      simp only [pivot_In.j0]
      refine ev_neg (by simp) ?_
      refine ev_cast (ev_count (G := fun i k => pivot_In.l0 k ks l (l.length : Int) (i : Int)) (n := l.length) (r := decide (inSh l ks)) (fun i => ∀ j, j < i → (rd_T57 l (j : Int)).f0 ≤ rd ks (j : Int) ∧ rd ks (j : Int) ≤ (rd_T57 l (j : Int)).f1) (fun j hj => by omega) (fun i hi hI h => ?_) (fun hI => ?_)) rfl
      · refine ev_succ ?_
        simp only [pivot_In.l0]
        have va := at_valid h1 hi
        refine ev_pos (by omega) (ev_pos (by omega) (ev_pos (by omega) (ev_ob (show pivot_of.f _ _ = some (_, _) from rfl) (ev_pos (by omega) (ev_ob (has_is _ _ _ va.2.1) ?_)))))
        by_cases c : (rd_T57 l (i : Int)).f0 ≤ rd ks (i : Int) ∧ rd ks (i : Int) ≤ (rd_T57 l (i : Int)).f1
        · refine ev_pos (by simpa using c) ?_
          rw [wsuc i (by omega)]
          refine h (fun j hj => ?_)
          rcases Nat.lt_succ_iff_lt_or_eq.1 hj with h1 | rfl
          · exact hI j h1
          · exact c
        · exact ev_neg (by simpa using c) (ev_some (decide_eq_false (fun h => c (h.2.2 i hi))).symm)
      · refine ev_succ ?_
        simp only [pivot_In.l0]
        exact ev_neg (by omega) (ev_some (decide_eq_true (⟨h1, h3, hI⟩ : inSh l ks)).symm)
    · rw [show ((ks.length : Int) != (l.length : Int)) = true by rw [bne_iff_ne]; omega]
      exact no (fun h => h3 h.2.1)
  · exact ev_neg (by simpa using h1) (no (fun h => h1 h.1))
/-- the shells and keys that Low and High take -/
def askedSh (m : Int) (l : List S57) (ks : List Int) : Prop := ((1 ≤ m ∧ m ≤ 3) ∧ validSh l ∧ ks.length = l.length) ∧ keysGood ks
instance (m : Int) (l : List S57) (ks : List Int) : Decidable (askedSh m l ks) := by unfold askedSh; infer_instance
def lowOf (m : Int) (l : List S57) (ks : List Int) : Nat → Int := bestAt (fun b s k => mx b (Plain.gap m s.f0 s.f1 k)) 0 l ks
def highOf (m : Int) (l : List S57) (ks : List Int) : Nat → Int := bestAt (fun b s k => mn b (Plain.high m k s.f1)) 134217728 l ks
theorem low_is (m : Int) {l : List S57} {ks : List Int} (hl : l.length ≤ 4611686018427387904) (hk : ks.length ≤ 4611686018427387904) : pivot_Low.f m l ks = some (if askedSh m l ks then (lowOf m l ks l.length, 0) else (0, 1)) := if_pos ⟨hl, hk⟩
theorem high_is (m : Int) {l : List S57} {ks : List Int} (hl : l.length ≤ 4611686018427387904) (hk : ks.length ≤ 4611686018427387904) : pivot_High.f m l ks = some (if askedSh m l ks then (highOf m l ks l.length, 0) else (0, 1)) := if_pos ⟨hl, hk⟩
end Go.Proofs.Ytoidpkpgeeeggaa.EvShell
end
section
set_option linter.unusedVariables false
namespace Go.Proofs.Ytoidpkpgeeeggaa.Sane
open Go.RowKit Go.Proofs.Ytoidpkpgeeeggaa.Q Go.Proofs.YtoidpkpgeeeggaaW.PrintWords Plain
theorem sanity_is : antiquarylaw09_sanity.f 60 = some true := by decide +kernel
theorem sanity_ev : Ev (fun k => antiquarylaw09_sanity.f k) true := ev_ofx (fun k => antiquarylaw09_sanity.mono k) ⟨60, sanity_is⟩
end Go.Proofs.Ytoidpkpgeeeggaa.Sane
end
section
set_option linter.unusedVariables false
namespace Go.Proofs.Ytoidpkpgeeeggaa.Pure
open Go.RowKit Go.Proofs.Ytoidpkpgeeeggaa.Q Go.Proofs.YtoidpkpgeeeggaaW.PrintWords Plain Go.Proofs.Ytoidpkpgeeeggaa.EvShell
theorem joinOf_length (a b : List S57) : (joinOf a b).length = a.length := by simp [joinOf]
theorem join_comm' {a b : List S57} (h : a.length = b.length) : joinOf a b = joinOf b a := by
  unfold joinOf
  rw [h]
  refine List.map_congr_left (fun i _ => ?_)
  unfold joinAt
  congr 1
  · unfold mn; split <;> split <;> omega
  · unfold mx; split <;> split <;> omega
theorem join_valid {a b : List S57} (ha : validSh a) (hb : validSh b) (h : a.length = b.length) : validSh (joinOf a b) := by
  rw [valid_iff, joinOf_length]
  refine ⟨fun i hi => ?_, ha.2⟩
  have va := at_valid ha hi
  have vb := at_valid hb (i := i) (by omega)
  rw [rd_join hi]
  unfold joinAt mn mx
  dsimp only
  split <;> split <;> omega
theorem in_join {a b : List S57} (ha : validSh a) (hb : validSh b) (h : a.length = b.length) {ks : List Int} (hi : inSh a ks ∨ inSh b ks) : inSh (joinOf a b) ks := by
  refine ⟨join_valid ha hb h, ?_, fun i hl => ?_⟩
  · rw [joinOf_length]; rcases hi with hi | hi
    · exact hi.2.1
    · rw [hi.2.1, h]
  · rw [joinOf_length] at hl
    rw [rd_join hl]
    have va := at_valid ha hl
    have vb := at_valid hb (i := i) (by omega)
    rcases hi with hi | hi
    · have := hi.2.2 i hl
      unfold joinAt mn mx
      dsimp only
      split <;> split <;> omega
    · have := hi.2.2 i (by omega)
      unfold joinAt mn mx
      dsimp only
      split <;> split <;> omega
theorem gap_wider (m : Int) {lo hi lo2 hi2 a : Int} (ha : isKey a) (hl : isKey lo) (hh : isKey hi) (hl2 : isKey lo2) (hh2 : isKey hi2) (h : lo ≤ hi) (h1 : lo2 ≤ lo) (h2 : hi ≤ hi2) : gap m lo2 hi2 a ≤ gap m lo hi a := by
  have hc := clamp_key ha hl hh
  have c1 : lo ≤ clamp a lo hi ∧ clamp a lo hi ≤ hi := by
    by_cases c1 : a < lo
    · rw [clamp_lo c1 h]; omega
    · by_cases c2 : hi < a
      · rw [clamp_hi c2 h]; omega
      · rw [clamp_in (by omega) (by omega)]; omega
  show gap m lo2 hi2 a ≤ low m a (clamp a lo hi)
  exact gap_le m ha hl2 hh2 hc (by omega) (by omega)
/-- a list of shells whose shells are wider -/
theorem low_wider (m : Int) {a j : List S57} {ks : List Int} (ha : validSh a) (hj : validSh j) (hl : j.length = a.length) (hk : keysGood ks) (hkl : ks.length = a.length)
    (hw : ∀ i, i < a.length → (rd_T57 j (i : Int)).f0 ≤ (rd_T57 a (i : Int)).f0 ∧ (rd_T57 a (i : Int)).f1 ≤ (rd_T57 j (i : Int)).f1) : ∀ n, n ≤ a.length → lowOf m j ks n ≤ lowOf m a ks n ∧ highOf m a ks n ≤ highOf m j ks n
  | 0, _ => ⟨Int.le_refl _, Int.le_refl _⟩
  | n + 1, h => by
    obtain ⟨i1, i2⟩ := low_wider m ha hj hl hk hkl hw n (by omega)
    have va := at_valid ha (i := n) (by omega)
    have vj := at_valid hj (i := n) (by omega)
    have k := (good_iff ks).1 hk n (by omega)
    have w := hw n (by omega)
    have g := gap_wider m k (lo := (rd_T57 a (n : Int)).f0) (hi := (rd_T57 a (n : Int)).f1) (lo2 := (rd_T57 j (n : Int)).f0) (hi2 := (rd_T57 j (n : Int)).f1) ⟨by omega, by omega⟩ ⟨by omega, by omega⟩ ⟨by omega, by omega⟩ ⟨by omega, by omega⟩ va.2.1 w.1 w.2
    have r := high_mono m k (x := (rd_T57 a (n : Int)).f1) (y := (rd_T57 j (n : Int)).f1) ⟨by omega, by omega⟩ w.2
    unfold lowOf highOf at *
    simp only [bestAt]
    generalize bestAt (fun b s k => mx b (gap m s.f0 s.f1 k)) 0 j ks n = x1 at *
    generalize bestAt (fun b s k => mx b (gap m s.f0 s.f1 k)) 0 a ks n = x2 at *
    generalize bestAt (fun b s k => mn b (high m k s.f1)) 134217728 j ks n = x3 at *
    generalize bestAt (fun b s k => mn b (high m k s.f1)) 134217728 a ks n = x4 at *
    unfold mx mn
    constructor
    · split <;> split <;> omega
    · split <;> split <;> omega
theorem join_wider {a b : List S57} (h : a.length = b.length) : ∀ i, i < a.length → ((rd_T57 (joinOf a b) (i : Int)).f0 ≤ (rd_T57 a (i : Int)).f0 ∧ (rd_T57 a (i : Int)).f1 ≤ (rd_T57 (joinOf a b) (i : Int)).f1) ∧
    ((rd_T57 (joinOf a b) (i : Int)).f0 ≤ (rd_T57 b (i : Int)).f0 ∧ (rd_T57 b (i : Int)).f1 ≤ (rd_T57 (joinOf a b) (i : Int)).f1) := fun i hi => by
  rw [rd_join hi]
  unfold joinAt mn mx
  dsimp only
  split <;> split <;> omega
theorem PivotShellsJoin (m : Int) (a b : List S57) (keys others : List Int) (_ : (Go.Lit.int .i64 m).wf = true) (ha : a.length ≤ Go.maxLen) (_ : ∀ s ∈ a, (Go.Lit.int .i64 s.f0).wf = true ∧ (Go.Lit.int .i64 s.f1).wf = true)
    (hb : b.length ≤ Go.maxLen) (_ : ∀ s ∈ b, (Go.Lit.int .i64 s.f0).wf = true ∧ (Go.Lit.int .i64 s.f1).wf = true) (_ : keys.length ≤ Go.maxLen) (_ : ∀ x ∈ keys, (Go.Lit.int .i64 x).wf = true) (_ : others.length ≤ Go.maxLen) (_ : ∀ x ∈ others, (Go.Lit.int .i64 x).wf = true) :
    ∃ k, antiquarylaw09_PivotShellsJoin.f k m a b keys others = some true := by
  unfold Go.maxLen at ha hb
  refine ev_ex ?_
  have other : Ev (fun k => antiquarylaw09_PivotShellsJoin.j0 k m a b keys others true) true := by
    refine ev_succ ?_
    simp only [antiquarylaw09_PivotShellsJoin.j0]
    exact ev_pos (by first | rfl | trivial) (ev_bind Sane.sanity_ev (ev_some rfl))
  refine ev_ob (ref09_Metric_is m) ?_
  by_cases h1 : 1 ≤ m ∧ m ≤ 3
  rotate_left
  · exact ev_neg (by simpa using h1) other
  refine ev_pos (by simpa using h1) (ev_bind (rvalid_ev a (by omega)) ?_)
  by_cases h2 : validSh a
  rotate_left
  · exact ev_neg (by simpa using h2) other
  refine ev_pos (by simpa using h2) (ev_bind (rvalid_ev b (by omega)) ?_)
  by_cases h3 : validSh b
  rotate_left
  · exact ev_neg (by simpa using h3) other
  refine ev_pos (by simpa using h3) ?_
  by_cases h4 : a.length = b.length
  rotate_left
  · exact ev_neg (by omega) other
  refine ev_pos (by omega) ?_
  by_cases h5 : (keys.length : Int) > 12
  · exact ev_pos h5 other
  refine ev_neg h5 ?_
  by_cases h6 : (others.length : Int) > 12
  · rw [decide_eq_true h6]; exact other
  rw [decide_eq_false h6]
  have a8 := h2.2
  have b8 := h3.2
  have hj : joins a b := ⟨h2, h3, h4⟩
  have hj2 : joins b a := ⟨h3, h2, h4.symm⟩
  have e1 := join_ev (a := a) (b := b) (by omega) (by omega)
  have e2 := join_ev (a := b) (b := a) (by omega) (by omega)
  rw [if_pos hj] at e1
  rw [if_pos hj2, ← join_comm' h4] at e2
  have jl := joinOf_length a b
  have jv := join_valid h2 h3 h4
  refine ev_succ ?_
  simp only [antiquarylaw09_PivotShellsJoin.j0]
  refine ev_neg (by simp) (ev_bind e1 (ev_bind e2 (ev_pos rfl (ev_pos rfl (ev_bind (same_self _ (by show (joinOf a b).length ≤ _; omega)) (ev_pos rfl (ev_bind (pivot_Valid.ev _ (by show (joinOf a b).length ≤ _; omega)) ?_)))))))
  rw [decide_eq_true jv]
  have last : Ev (fun k => antiquarylaw09_PivotShellsJoin.j2 k m a b keys (joinOf a b) false) true := by
    refine ev_succ ?_
    simp only [antiquarylaw09_PivotShellsJoin.j2]
    refine ev_neg (by simp) (ev_ob (low_is m (by omega) (by omega)) ?_)
    by_cases c : askedSh m (joinOf a b) keys
    · rw [if_pos c]
      have ca : askedSh m a keys := ⟨⟨h1, h2, by rw [c.1.2.2, jl]⟩, c.2⟩
      have cb : askedSh m b keys := ⟨⟨h1, h3, by rw [c.1.2.2, jl, h4]⟩, c.2⟩
      refine ev_pos rfl (ev_ob (low_is m (by omega) (by omega)) (ev_ob (low_is m (by omega) (by omega)) (ev_ob (high_is m (by omega) (by omega)) (ev_ob (high_is m (by omega) (by omega)) (ev_ob (high_is m (by omega) (by omega)) ?_)))))
      rw [if_pos c, if_pos ca, if_pos cb, if_pos ca, if_pos cb]
      have wa := low_wider m h2 jv jl c.2 (by rw [c.1.2.2, jl]) (fun i hi => (join_wider h4 i hi).1) a.length (Nat.le_refl _)
      have wb := low_wider m h3 jv (by omega) c.2 (by rw [c.1.2.2, jl, h4]) (fun i hi => (join_wider h4 i (by omega)).2) b.length (Nat.le_refl _)
      rw [jl]
      rw [← h4] at wb ⊢
      refine ev_pos rfl (ev_pos rfl (ev_pos rfl (ev_pos rfl (ev_bind Sane.sanity_ev (ev_pos rfl (ev_pos rfl ?_))))))
      refine ev_pos ?_ (ev_some (decide_eq_true ?_))
      · unfold mn; dsimp only; split <;> omega
      · unfold mx; dsimp only; split <;> omega
    · rw [if_neg c]
      exact ev_neg (by simp) (ev_bind Sane.sanity_ev (ev_some rfl))
  refine ev_succ ?_
  simp only [antiquarylaw09_PivotShellsJoin.j1]
  refine ev_neg (by simp) (ev_bind (in_ev (by omega)) ?_)
  by_cases c1 : inSh a others
  · refine ev_pos (by simpa using c1) (ev_bind (in_ev (by omega)) ?_)
    rw [decide_eq_true (in_join h2 h3 h4 (.inl c1))]
    exact last
  refine ev_neg (by simpa using c1) (ev_bind (in_ev (by omega)) ?_)
  by_cases c2 : inSh b others
  · refine ev_pos (by simpa using c2) (ev_bind (in_ev (by omega)) ?_)
    rw [decide_eq_true (in_join h2 h3 h4 (.inr c2))]
    exact last
  exact ev_neg (by simpa using c2) last
end Go.Proofs.Ytoidpkpgeeeggaa.Pure
end
section
set_option linter.unusedVariables false
namespace Go.Proofs.Ytoidpkpgeeeggaa.Open
open Go.RowKit Go.Proofs.Ytoidpkpgeeeggaa.Q Go.Proofs.YtoidpkpgeeeggaaW.PrintWords Go.Deep
theorem choice {α β : Type} {r : α → β → Prop} (h : ∀ x, ∃ y, r x y) : ∃ f : α → β, ∀ x, r x (f x) := ⟨fun x => Classical.choose (h x), fun x => Classical.choose_spec (h x)⟩
theorem open_shells {H : Type} {enc : TypeId × Value → H} {P : Program} {w : World} {base : Nat} {spare : Nat → Bool} {held : Bool} {t e : TypeId} {f0 f1 : Field} {a : Option Addr} {len cap : Nat} {d : DataW H} {ps : List MemPlace}
    (ht : P.underlying t = some (.slice e)) (he : P.underlying e = some (.struct #[f0, f1])) (ce : P.cellsOf e = 2) (o0 : f0.offset = 0) (o1 : f1.offset = 1) (c0 : P.cellsOf f0.type = 1) (c1 : P.cellsOf f1.type = 1)
    (h0 : P.underlying f0.type = some (.int .i64)) (h1 : P.underlying f1.type = some (.int .i64)) (h : DataW.Trod enc P w base spare held t (.slice a len cap) d ps) :
    ∃ l : List S57, l.length = len ∧ len ≤ cap ∧ cap ≤ maxLen ∧ Kd.C k57 w a len l ∧ ∀ s ∈ l, (Lit.int .i64 s.f0).wf = true ∧ (Lit.int .i64 s.f1).wf = true := by
  obtain ⟨fuel, hf⟩ := h
  rcases open_slice_pairs ht he ce o0 o1 c0 c1 hf with ⟨hcs, _⟩ | ⟨x, len', cap', m, n, V0, V1, D0, D1, P0, P1, hcs, _, hl, hm, hmm, _, hx⟩
  · simp [Value.cells] at hcs
    obtain ⟨rfl, rfl, rfl⟩ := hcs
    exact ⟨[], rfl, Nat.le_refl _, Nat.zero_le _, Kd.C_nil _ _, by simp⟩
  · simp [Value.cells] at hcs
    obtain ⟨rfl, rfl, rfl⟩ := hcs
    have hlm : len ≤ m := by rw [hmm]; split <;> omega
    have each : ∀ i, ∃ p : Int × Int, i < len → V0 i = .int .i64 p.1 ∧ V1 i = .int .i64 p.2 ∧ (Lit.int .i64 p.1).wf = true ∧ (Lit.int .i64 p.2).wf = true := fun i => by
      by_cases hi : i < len
      · obtain ⟨_, _, t0, t1⟩ := hx i (by omega)
        obtain ⟨n0, e0, _, w0⟩ := DataW.trod_int h0 t0
        obtain ⟨n1, e1, _, w1⟩ := DataW.trod_int h1 t1
        exact ⟨(n0, n1), fun _ => ⟨by simpa using e0, by simpa using e1, w0, w1⟩⟩
      · exact ⟨(0, 0), fun h => absurd h hi⟩
    obtain ⟨f, hf⟩ := choice each
    refine ⟨(List.range len).map (fun i => (⟨(f i).1, (f i).2⟩ : S57)), by simp, hl, hm, ⟨by simp, by have := hm; unfold maxLen at this; omega, fun _ => ⟨x, rfl, fun j p hp => ?_⟩⟩, ?_⟩
    · have hj : j < len := by
        rcases Nat.lt_or_ge j len with h | h
        · exact h
        · rw [List.getElem?_eq_none (by simp; omega)] at hp; cases hp
      rw [List.getElem?_map, List.getElem?_range hj] at hp
      cases hp
      obtain ⟨hc0, hc1, _, _⟩ := hx j (by omega)
      obtain ⟨e0, e1, _, _⟩ := hf j hj
      rw [e0] at hc0
      rw [e1] at hc1
      refine ⟨[.int .i64 (f j).1, .int .i64 (f j).2], rfl, k57_mk w _, fun i u hu => ?_⟩
      match i, hu with
      | 0, hu => cases hu; exact hc0
      | 1, hu => cases hu; exact hc1
      | i + 2, hu => simp at hu
    · intro s hs
      obtain ⟨i, hi, rfl⟩ := List.mem_map.1 hs
      have := hf i (List.mem_range.1 hi)
      exact ⟨this.2.2.1, this.2.2.2⟩
end Go.Proofs.Ytoidpkpgeeeggaa.Open
end
