/- A part of the proof of PivotBoundsHold: what the row's text reaches (packed by a program of this claim out of its texts). -/
import Derived.Test.YtoidpkpgeeeggaaKPivotBoundsHoldd
import Derived.Deep.Matrix
import Derived.Deep.SlicePairs
import Derived.ChangeShapes
section
namespace Go.Proofs.Ytoidpkpgeeeggaa.Q
open Go.RowKit Go.Proofs.YtoidpkpgeeeggaaW.PrintWords Go.Proofs.YtoidpkpgeeeggaaW.PrintLast Go.Proofs.YtoidpkpgeeeggaaW.PrintMore
attribute [local go_sem] max2_int min2_int max_two min_two max_three min_three max_four min_four   -- for this text's walks alone
set_option linter.unusedVariables false
set_option linter.unusedSimpArgs false
mutual
def antiquarylaw09_PivotBoundsHold.j0 : Nat → Int → List (List Int) → List (List Int) → List Int → Bool → Option (Bool)
  | 0, _, _, _, _, _ => none
  | k + 1, x0, x1, x2, x3, x41 => if x41 = true then ((antiquarylaw09_sanity.f k).bind fun t382 => (some t382)) else ((pivot_Shells.f x0 x1 x2).bind fun bt383 => ((some (([] : List (List Int)) : List (List Int))).bind fun y387 => (if y387.length + x2.length < 5864062014805 then ((some (y387 ++ x2 : List (List Int))).bind fun y390 => (if y390.length < 5864062014805 then ((pivot_Table.f k x0 x1 (y390 ++ [x3])).bind fun bt396 => (if bt383.2 = 0 then (if bt396.2 = 0 then (if (bt396.1.length : Int) = (wrap64 ((x2.length : Int) + 1)) then ((pivot_Valid.f k bt383.1).bind fun t400 => (if t400 = true then (antiquarylaw09_PivotBoundsHold.j1 k x0 x2 x3 bt383.1 bt396.1 ((bt383.1.length : Int) != (x1.length : Int))) else (antiquarylaw09_PivotBoundsHold.j1 k x0 x2 x3 bt383.1 bt396.1 true))) else (antiquarylaw09_PivotBoundsHold.j1 k x0 x2 x3 bt383.1 bt396.1 true)) else (antiquarylaw09_PivotBoundsHold.j1 k x0 x2 x3 bt383.1 bt396.1 true)) else (antiquarylaw09_PivotBoundsHold.j1 k x0 x2 x3 bt383.1 bt396.1 true))) else (none))) else (none))))
def antiquarylaw09_PivotBoundsHold.j1 : Nat → Int → List (List Int) → List Int → List (S57) → List (List Int) → Bool → Option (Bool)
  | 0, _, _, _, _, _, _ => none
  | k + 1, x0, x2, x3, x9, x11, x87 => if x87 = true then (some false) else (if 0 ≤ (x2.length : Int) then (if (x2.length : Int) < (x11.length : Int) then ((pivot_Low.f x0 x9 (rd_L1 x11 (x2.length : Int))).bind fun bt402 => ((pivot_High.f x0 x9 (rd_L1 x11 (x2.length : Int))).bind fun bt404 => (if bt402.2 = 0 then (antiquarylaw09_PivotBoundsHold.j2 k x0 x2 x3 x9 x11 bt402.1 bt404.1 (bt404.2 != 0)) else (antiquarylaw09_PivotBoundsHold.j2 k x0 x2 x3 x9 x11 bt402.1 bt404.1 true)))) else (none)) else (none))
def antiquarylaw09_PivotBoundsHold.j2 : Nat → Int → List (List Int) → List Int → List (S57) → List (List Int) → Int → Int → Bool → Option (Bool)
  | 0, _, _, _, _, _, _, _, _ => none
  | k + 1, x0, x2, x3, x9, x11, x14, x16, x112 => if x112 = true then (some false) else (antiquarylaw09_PivotBoundsHold.l0 k x0 x2 x3 x9 x11 x14 x16 0)
def antiquarylaw09_PivotBoundsHold.l0 : Nat → Int → List (List Int) → List Int → List (S57) → List (List Int) → Int → Int → Int → Option (Bool)
  | 0, _, _, _, _, _, _, _, _ => none
  | k + 1, x0, x2, x3, x9, x11, x14, x16, x18 => if x18 < (x2.length : Int) then (if 0 ≤ x18 then ((vector_Key.f k x0 x3 (rd_L1 x2 x18)).bind fun t407 => (if x18 < (x11.length : Int) then ((pivot_In.f k x9 (rd_L1 x11 x18)).bind fun t409 => (if t409 = true then (if t407 < x14 then (some false) else (if t407 > x16 then (some false) else (antiquarylaw09_PivotBoundsHold.l0 k x0 x2 x3 x9 x11 x14 x16 (wrap64 (x18 + 1))))) else (some false))) else (none))) else (none)) else (antiquarylaw09_PivotBoundsHold.l1 k x2 x9 x11 0)
def antiquarylaw09_PivotBoundsHold.l1 : Nat → List (List Int) → List (S57) → List (List Int) → Int → Option (Bool)
  | 0, _, _, _, _ => none
  | k + 1, x2, x9, x11, x20 => if x20 < (x9.length : Int) then (antiquarylaw09_PivotBoundsHold.l2 k x2 x9 x11 x20 false false 0) else ((antiquarylaw09_sanity.f k).bind fun t410 => (some t410))
def antiquarylaw09_PivotBoundsHold.l2 : Nat → List (List Int) → List (S57) → List (List Int) → Int → Bool → Bool → Int → Option (Bool)
  | 0, _, _, _, _, _, _, _ => none
  | k + 1, x2, x9, x11, x20, x21, x22, x23 => if x23 < (x2.length : Int) then (if x21 = true then (if x22 = true then (antiquarylaw09_PivotBoundsHold.l2 k x2 x9 x11 x20 true true (wrap64 (x23 + 1))) else (if 0 ≤ x23 then (if x23 < (x11.length : Int) then (if 0 ≤ x20 then (if x20 < ((rd_L1 x11 x23).length : Int) then (if x20 < (x9.length : Int) then (antiquarylaw09_PivotBoundsHold.l2 k x2 x9 x11 x20 true ((rd (rd_L1 x11 x23) x20) == ((rd_T57 x9 x20).f1)) (wrap64 (x23 + 1))) else (none)) else (none)) else (none)) else (none)) else (none))) else (if 0 ≤ x23 then (if x23 < (x11.length : Int) then (if 0 ≤ x20 then (if x20 < ((rd_L1 x11 x23).length : Int) then (if x20 < (x9.length : Int) then (if x22 = true then (antiquarylaw09_PivotBoundsHold.l2 k x2 x9 x11 x20 ((rd (rd_L1 x11 x23) x20) == ((rd_T57 x9 x20).f0)) true (wrap64 (x23 + 1))) else (antiquarylaw09_PivotBoundsHold.l2 k x2 x9 x11 x20 ((rd (rd_L1 x11 x23) x20) == ((rd_T57 x9 x20).f0)) ((rd (rd_L1 x11 x23) x20) == ((rd_T57 x9 x20).f1)) (wrap64 (x23 + 1)))) else (none)) else (none)) else (none)) else (none)) else (none))) else (if x21 = true then (if x22 = true then (antiquarylaw09_PivotBoundsHold.l1 k x2 x9 x11 (wrap64 (x20 + 1))) else (some false)) else (some false))
end
def antiquarylaw09_PivotBoundsHold.f (k : Nat) (a0 : Int) (l1 : List (List Int)) (l2 : List (List Int)) (l3 : List Int) : Option (Bool) := (antiquaryref09_Few.f k l2 30).bind fun t378 => (if t378 = true then ((antiquaryref09_Both.f k a0 l1 l2).bind fun t379 => (if t379 = true then (if 0 < (l1.length : Int) then ((vector_Alike.f (rd_L1 l1 0) l3).bind fun t381 => (antiquarylaw09_PivotBoundsHold.j0 k a0 l1 l2 l3 (!t381))) else (none)) else (antiquarylaw09_PivotBoundsHold.j0 k a0 l1 l2 l3 true))) else (antiquarylaw09_PivotBoundsHold.j0 k a0 l1 l2 l3 true))
theorem antiquarylaw09_PivotBoundsHold.j1_no (k : Nat) {x0} {x1} {x2} {x3} {x4} : antiquarylaw09_PivotBoundsHold.j1 k x0 x1 x2 x3 x4 true ≠ some true := by cases k <;> simp [antiquarylaw09_PivotBoundsHold.j1]
theorem antiquarylaw09_PivotBoundsHold.j2_no (k : Nat) {x0} {x1} {x2} {x3} {x4} {x5} {x6} : antiquarylaw09_PivotBoundsHold.j2 k x0 x1 x2 x3 x4 x5 x6 true ≠ some true := by cases k <;> simp [antiquarylaw09_PivotBoundsHold.j2]
set_option maxHeartbeats 8000000 in
set_option maxRecDepth 100000 in
theorem antiquarylaw09_PivotBoundsHold.calls (k : Nat) (a0 : Int) (A1 : Option Addr) (c1 : Nat) (l1 : List (List Int)) (P2_ : Nat → Prop) (A2 : Option Addr) (c2 : Nat) (l2 : List (List Int)) (P3_ : Nat → Prop) (A3 : Option Addr) (c3 : Nat) (l3 : List Int) (r : Bool) (w : World) (hr1 : Kd.C (Kd.slice 3 (Kd.int .i64)) w A1 l1.length l1) (hc1 : l1.length ≤ c1) (hs2 : Kd.V (Kd.slice 3 (Kd.int .i64)) 23 w w.heap.size (fun k_ => P2_ k_) (.slice A2 l2.length c2) l2) (hs3 : Kd.V (Kd.int .i64) 3 w w.heap.size (fun k_ => P3_ k_) (.slice A3 l3.length c3) l3) (h : antiquarylaw09_PivotBoundsHold.f k a0 l1 l2 l3 = some r) (hT : r = true) :
    Calls Try.prog 4 #[.int .i64 a0, .slice A1 l1.length c1, .slice A2 l2.length c2, .slice A3 l3.length c3] w fun e w' => e = .returned (.bool r) ∧ Below w.heap.size w w' := by
  have HT := Aside0.mk hT
  clear hT
  have HR1 := Aside0.mk hr1
  have HC1 := Aside0.mk hc1
  clear hr1 hc1
  have HO2 := Aside0.mk (show Kd.V (Kd.slice 3 (Kd.int .i64)) 23 w w.heap.size (fun k_ => ((P2_ k_ ∨ P3_ k_) ∨ w.heap.size ≤ k_)) (.slice A2 l2.length c2) l2 from Kd.V_mono hs2 (fun k_ hk => .inl (.inl hk)))
  have HO3 := Aside0.mk (show Kd.V (Kd.int .i64) 3 w w.heap.size (fun k_ => ((P2_ k_ ∨ P3_ k_) ∨ w.heap.size ≤ k_)) (.slice A3 l3.length c3) l3 from Kd.V_mono hs3 (fun k_ hk => .inl (.inr hk)))
  have HB := Aside0.mk (Below.refl w.heap.size w)
  have H : ((antiquaryref09_Few.f k l2 30).bind fun t378 => (if t378 = true then ((antiquaryref09_Both.f k a0 l1 l2).bind fun t379 => (if t379 = true then (if 0 < (l1.length : Int) then ((vector_Alike.f (rd_L1 l1 0) l3).bind fun t381 => (antiquarylaw09_PivotBoundsHold.j0 k a0 l1 l2 l3 (!t381))) else (none)) else (antiquarylaw09_PivotBoundsHold.j0 k a0 l1 l2 l3 true))) else (antiquarylaw09_PivotBoundsHold.j0 k a0 l1 l2 l3 true))) = some r := h
  clear h
  have HC5 := Aside0.mk H
  clear H
  go_enter Try.func4, Try.ntmps4
  go_upto_region 1 with (fail)
  repeat (go_quiet (fail); go_upto_region 1 with (fail))
  go_cut [41] (fun v41 wc => ∃ (kq : Nat) (x41_4 : Bool), v41 = .bool x41_4 ∧ Aside0 (antiquarylaw09_PivotBoundsHold.j0 kq a0 l1 l2 l3 x41_4 = some r) ∧ Aside0 (kq ≤ k) ∧ Aside0 (Kd.V (Kd.slice 3 (Kd.int .i64)) 23 wc w.heap.size (fun k_ => ((P2_ k_ ∨ P3_ k_) ∨ w.heap.size ≤ k_)) (.slice A2 l2.length c2) l2) ∧ Aside0 (Kd.V (Kd.int .i64) 3 wc w.heap.size (fun k_ => ((P2_ k_ ∨ P3_ k_) ∨ w.heap.size ≤ k_)) (.slice A3 l3.length c3) l3) ∧ Aside0 (Below w.heap.size w wc))
  case first =>
    have H := HC5.out
    clear HC5
    replace H := Option.bind_eq_some_iff.mp H
    obtain ⟨t378, A60, H⟩ := H
    replace H : (if t378 = true then ((antiquaryref09_Both.f k a0 l1 l2).bind fun t379 => (if t379 = true then (if 0 < (l1.length : Int) then ((vector_Alike.f (rd_L1 l1 0) l3).bind fun t381 => (antiquarylaw09_PivotBoundsHold.j0 k a0 l1 l2 l3 (!t381))) else (none)) else (antiquarylaw09_PivotBoundsHold.j0 k a0 l1 l2 l3 true))) else (antiquarylaw09_PivotBoundsHold.j0 k a0 l1 l2 l3 true)) = some r := H
    have A6 := Aside0.mk A60
    clear A60
    by_cases c7 : t378 = true
    · subst c7
      have H1 : ((antiquaryref09_Both.f k a0 l1 l2).bind fun t379 => (if t379 = true then (if 0 < (l1.length : Int) then ((vector_Alike.f (rd_L1 l1 0) l3).bind fun t381 => (antiquarylaw09_PivotBoundsHold.j0 k a0 l1 l2 l3 (!t381))) else (none)) else (antiquarylaw09_PivotBoundsHold.j0 k a0 l1 l2 l3 true))) = some r := by rw [if_pos rfl] at H; exact H
      clear H
      have H := H1
      clear H1
      replace H := Option.bind_eq_some_iff.mp H
      obtain ⟨t379, A80, H⟩ := H
      replace H : (if t379 = true then (if 0 < (l1.length : Int) then ((vector_Alike.f (rd_L1 l1 0) l3).bind fun t381 => (antiquarylaw09_PivotBoundsHold.j0 k a0 l1 l2 l3 (!t381))) else (none)) else (antiquarylaw09_PivotBoundsHold.j0 k a0 l1 l2 l3 true)) = some r := H
      have A8 := Aside0.mk A80
      clear A80
      by_cases c9 : t379 = true
      · subst c9
        have H1 : (if 0 < (l1.length : Int) then ((vector_Alike.f (rd_L1 l1 0) l3).bind fun t381 => (antiquarylaw09_PivotBoundsHold.j0 k a0 l1 l2 l3 (!t381))) else (none)) = some r := by rw [if_pos rfl] at H; exact H
        clear H
        have H := H1
        clear H1
        by_cases c10 : 0 < (l1.length : Int)
        · rw [if_pos c10] at H
          have c10b0 : decide (0 < (l1.length : Int)) = true := decide_eq_true c10
          have c10b1 : decide (0 < l1.length) = true := decide_eq_true (by omega)
          clear c10
          (first | rw [c10b0] | (simp only [i64_w, i32_w]; rw [c10b0]) | skip)
          replace H := Option.bind_eq_some_iff.mp H
          obtain ⟨t381, A110, H⟩ := H
          replace H : (antiquarylaw09_PivotBoundsHold.j0 k a0 l1 l2 l3 (!t381)) = some r := H
          have A11 := Aside0.mk A110
          clear A110
          have H' := Aside0.mk H
          clear H
          go_wp2_with (first | (go_at_call 9; (with_reducible refine (antiquaryref09_Few.calls k _ _ l2 30 true _ ?side1 ?side2 A6.out).mono ?_); (case side1 => repeat (first | exact (Kd.V_reads' HO2.out).2.2 | (with_reducible refine Kd.C_alloc ?_ _) | (with_reducible refine Kd.C_drewN ?_ _) | (with_reducible refine Kd.C_drew ?_))); (case side2 => exact (Kd.V_reads' HO2.out).2.1); rintro e w' ⟨rfl, ⟨nd, rfl⟩⟩; (try first | exact ⟨rfl, _, World.drewN_drewN _ _ _⟩ | exact ⟨rfl, _, Eq.trans (World.drewN_drewN _ _ _) (congrArg (World.drewN _) (Nat.add_assoc _ _ _))⟩)) | (go_at_call 21; (with_reducible refine (antiquaryref09_Both.calls k a0 _ _ l1 _ _ l2 true _ ?side1 ?side2 ?side3 ?side4 A8.out).mono ?_); (case side1 => repeat (first | exact (Kd.C_below HR1.out (by repeat (first | (with_reducible first | exact HB.out | apply below_alloc | apply pw_below_drewN | apply below_drew1) | exact HB.out))) | (with_reducible refine Kd.C_alloc ?_ _) | (with_reducible refine Kd.C_drewN ?_ _) | (with_reducible refine Kd.C_drew ?_))); (case side2 => exact HC1.out); (case side3 => repeat (first | exact (Kd.V_reads' HO2.out).2.2 | (with_reducible refine Kd.C_alloc ?_ _) | (with_reducible refine Kd.C_drewN ?_ _) | (with_reducible refine Kd.C_drew ?_))); (case side4 => exact (Kd.V_reads' HO2.out).2.1); rintro e w' ⟨rfl, ⟨nd, rfl⟩⟩; (try first | exact ⟨rfl, _, World.drewN_drewN _ _ _⟩ | exact ⟨rfl, _, Eq.trans (World.drewN_drewN _ _ _) (congrArg (World.drewN _) (Nat.add_assoc _ _ _))⟩); have p380 : 0 ≤ (0 : Int) := (by omega); have q380 : 0 < (l1.length : Int) := of_decide_eq_true (by first | (with_reducible assumption) | assumption); obtain ⟨ad380, A380_0, c380_0, e380, hx380_0, hl380_0, hi380_0⟩ := at_L1 HR1.out 0 p380 q380; cases e380; have qi380 : (0 < l1.length) = True := eq_true (by omega); (try rw [show ((0 : Int)).toNat = 0 from rfl] at hx380_0); (try rw [Addr.add_zero'] at hx380_0); replace hx380_0 := (HB.out.cell (World.block_lt_of_cell? w _ hx380_0)).trans hx380_0; have HR380_0 := Aside0.mk hi380_0; have HC380_0 := Aside0.mk hl380_0; clear hi380_0 hl380_0; replace p380 := eq_true p380; replace q380 := eq_true q380) | (go_at_call 22; (with_reducible refine (vector_Alike.calls _ _ (rd_L1 l1 0) _ _ l3 t381 _ ?side1 ?side2 ?side3 ?side4 A11.out).mono ?_); (case side1 => repeat (first | exact (Kd.C_below HR380_0.out (by repeat (first | (with_reducible first | exact HB.out | apply below_alloc | apply pw_below_drewN | apply below_drew1) | exact HB.out))) | (with_reducible refine Kd.C_alloc ?_ _) | (with_reducible refine Kd.C_drewN ?_ _) | (with_reducible refine Kd.C_drew ?_))); (case side2 => exact HC380_0.out); (case side3 => repeat (first | exact (Kd.V_reads' HO3.out).2.2 | (with_reducible refine Kd.C_alloc ?_ _) | (with_reducible refine Kd.C_drewN ?_ _) | (with_reducible refine Kd.C_drew ?_))); (case side4 => exact (Kd.V_reads' HO3.out).2.1); rintro e w' ⟨rfl, ⟨nd, rfl⟩⟩; (try first | exact ⟨rfl, _, World.drewN_drewN _ _ _⟩ | exact ⟨rfl, _, Eq.trans (World.drewN_drewN _ _ _) (congrArg (World.drewN _) (Nat.add_assoc _ _ _))⟩)))
          repeat (go_quiet (first | (go_at_call 9; (with_reducible refine (antiquaryref09_Few.calls k _ _ l2 30 true _ ?side1 ?side2 A6.out).mono ?_); (case side1 => repeat (first | exact (Kd.V_reads' HO2.out).2.2 | (with_reducible refine Kd.C_alloc ?_ _) | (with_reducible refine Kd.C_drewN ?_ _) | (with_reducible refine Kd.C_drew ?_))); (case side2 => exact (Kd.V_reads' HO2.out).2.1); rintro e w' ⟨rfl, ⟨nd, rfl⟩⟩; (try first | exact ⟨rfl, _, World.drewN_drewN _ _ _⟩ | exact ⟨rfl, _, Eq.trans (World.drewN_drewN _ _ _) (congrArg (World.drewN _) (Nat.add_assoc _ _ _))⟩)) | (go_at_call 21; (with_reducible refine (antiquaryref09_Both.calls k a0 _ _ l1 _ _ l2 true _ ?side1 ?side2 ?side3 ?side4 A8.out).mono ?_); (case side1 => repeat (first | exact (Kd.C_below HR1.out (by repeat (first | (with_reducible first | exact HB.out | apply below_alloc | apply pw_below_drewN | apply below_drew1) | exact HB.out))) | (with_reducible refine Kd.C_alloc ?_ _) | (with_reducible refine Kd.C_drewN ?_ _) | (with_reducible refine Kd.C_drew ?_))); (case side2 => exact HC1.out); (case side3 => repeat (first | exact (Kd.V_reads' HO2.out).2.2 | (with_reducible refine Kd.C_alloc ?_ _) | (with_reducible refine Kd.C_drewN ?_ _) | (with_reducible refine Kd.C_drew ?_))); (case side4 => exact (Kd.V_reads' HO2.out).2.1); rintro e w' ⟨rfl, ⟨nd, rfl⟩⟩; (try first | exact ⟨rfl, _, World.drewN_drewN _ _ _⟩ | exact ⟨rfl, _, Eq.trans (World.drewN_drewN _ _ _) (congrArg (World.drewN _) (Nat.add_assoc _ _ _))⟩); have p380 : 0 ≤ (0 : Int) := (by omega); have q380 : 0 < (l1.length : Int) := of_decide_eq_true (by first | (with_reducible assumption) | assumption); obtain ⟨ad380, A380_0, c380_0, e380, hx380_0, hl380_0, hi380_0⟩ := at_L1 HR1.out 0 p380 q380; cases e380; have qi380 : (0 < l1.length) = True := eq_true (by omega); (try rw [show ((0 : Int)).toNat = 0 from rfl] at hx380_0); (try rw [Addr.add_zero'] at hx380_0); replace hx380_0 := (HB.out.cell (World.block_lt_of_cell? w _ hx380_0)).trans hx380_0; have HR380_0 := Aside0.mk hi380_0; have HC380_0 := Aside0.mk hl380_0; clear hi380_0 hl380_0; replace p380 := eq_true p380; replace q380 := eq_true q380) | (go_at_call 22; (with_reducible refine (vector_Alike.calls _ _ (rd_L1 l1 0) _ _ l3 t381 _ ?side1 ?side2 ?side3 ?side4 A11.out).mono ?_); (case side1 => repeat (first | exact (Kd.C_below HR380_0.out (by repeat (first | (with_reducible first | exact HB.out | apply below_alloc | apply pw_below_drewN | apply below_drew1) | exact HB.out))) | (with_reducible refine Kd.C_alloc ?_ _) | (with_reducible refine Kd.C_drewN ?_ _) | (with_reducible refine Kd.C_drew ?_))); (case side2 => exact HC380_0.out); (case side3 => repeat (first | exact (Kd.V_reads' HO3.out).2.2 | (with_reducible refine Kd.C_alloc ?_ _) | (with_reducible refine Kd.C_drewN ?_ _) | (with_reducible refine Kd.C_drew ?_))); (case side4 => exact (Kd.V_reads' HO3.out).2.1); rintro e w' ⟨rfl, ⟨nd, rfl⟩⟩; (try first | exact ⟨rfl, _, World.drewN_drewN _ _ _⟩ | exact ⟨rfl, _, Eq.trans (World.drewN_drewN _ _ _) (congrArg (World.drewN _) (Nat.add_assoc _ _ _))⟩))); try go_wp2_with (first | (go_at_call 9; (with_reducible refine (antiquaryref09_Few.calls k _ _ l2 30 true _ ?side1 ?side2 A6.out).mono ?_); (case side1 => repeat (first | exact (Kd.V_reads' HO2.out).2.2 | (with_reducible refine Kd.C_alloc ?_ _) | (with_reducible refine Kd.C_drewN ?_ _) | (with_reducible refine Kd.C_drew ?_))); (case side2 => exact (Kd.V_reads' HO2.out).2.1); rintro e w' ⟨rfl, ⟨nd, rfl⟩⟩; (try first | exact ⟨rfl, _, World.drewN_drewN _ _ _⟩ | exact ⟨rfl, _, Eq.trans (World.drewN_drewN _ _ _) (congrArg (World.drewN _) (Nat.add_assoc _ _ _))⟩)) | (go_at_call 21; (with_reducible refine (antiquaryref09_Both.calls k a0 _ _ l1 _ _ l2 true _ ?side1 ?side2 ?side3 ?side4 A8.out).mono ?_); (case side1 => repeat (first | exact (Kd.C_below HR1.out (by repeat (first | (with_reducible first | exact HB.out | apply below_alloc | apply pw_below_drewN | apply below_drew1) | exact HB.out))) | (with_reducible refine Kd.C_alloc ?_ _) | (with_reducible refine Kd.C_drewN ?_ _) | (with_reducible refine Kd.C_drew ?_))); (case side2 => exact HC1.out); (case side3 => repeat (first | exact (Kd.V_reads' HO2.out).2.2 | (with_reducible refine Kd.C_alloc ?_ _) | (with_reducible refine Kd.C_drewN ?_ _) | (with_reducible refine Kd.C_drew ?_))); (case side4 => exact (Kd.V_reads' HO2.out).2.1); rintro e w' ⟨rfl, ⟨nd, rfl⟩⟩; (try first | exact ⟨rfl, _, World.drewN_drewN _ _ _⟩ | exact ⟨rfl, _, Eq.trans (World.drewN_drewN _ _ _) (congrArg (World.drewN _) (Nat.add_assoc _ _ _))⟩); have p380 : 0 ≤ (0 : Int) := (by omega); have q380 : 0 < (l1.length : Int) := of_decide_eq_true (by first | (with_reducible assumption) | assumption); obtain ⟨ad380, A380_0, c380_0, e380, hx380_0, hl380_0, hi380_0⟩ := at_L1 HR1.out 0 p380 q380; cases e380; have qi380 : (0 < l1.length) = True := eq_true (by omega); (try rw [show ((0 : Int)).toNat = 0 from rfl] at hx380_0); (try rw [Addr.add_zero'] at hx380_0); replace hx380_0 := (HB.out.cell (World.block_lt_of_cell? w _ hx380_0)).trans hx380_0; have HR380_0 := Aside0.mk hi380_0; have HC380_0 := Aside0.mk hl380_0; clear hi380_0 hl380_0; replace p380 := eq_true p380; replace q380 := eq_true q380) | (go_at_call 22; (with_reducible refine (vector_Alike.calls _ _ (rd_L1 l1 0) _ _ l3 t381 _ ?side1 ?side2 ?side3 ?side4 A11.out).mono ?_); (case side1 => repeat (first | exact (Kd.C_below HR380_0.out (by repeat (first | (with_reducible first | exact HB.out | apply below_alloc | apply pw_below_drewN | apply below_drew1) | exact HB.out))) | (with_reducible refine Kd.C_alloc ?_ _) | (with_reducible refine Kd.C_drewN ?_ _) | (with_reducible refine Kd.C_drew ?_))); (case side2 => exact HC380_0.out); (case side3 => repeat (first | exact (Kd.V_reads' HO3.out).2.2 | (with_reducible refine Kd.C_alloc ?_ _) | (with_reducible refine Kd.C_drewN ?_ _) | (with_reducible refine Kd.C_drew ?_))); (case side4 => exact (Kd.V_reads' HO3.out).2.1); rintro e w' ⟨rfl, ⟨nd, rfl⟩⟩; (try first | exact ⟨rfl, _, World.drewN_drewN _ _ _⟩ | exact ⟨rfl, _, Eq.trans (World.drewN_drewN _ _ _) (congrArg (World.drewN _) (Nat.add_assoc _ _ _))⟩))))
          go_meet
          case rel => exact ⟨_, (!t381), (by first | rfl | (simp; done) | (simp [*]; done)), H', ⟨by first | omega | exact Nat.le_refl _⟩, ⟨by (with_reducible repeat (first | apply Kd.V_alloc | apply Kd.V_drewN | apply Kd.V_drew)); exact HO2.out⟩, ⟨by (with_reducible repeat (first | apply Kd.V_alloc | apply Kd.V_drewN | apply Kd.V_drew)); exact HO3.out⟩, ⟨by repeat (first | (with_reducible first | exact HB.out | apply below_alloc | apply pw_below_drewN | apply below_drew1) | exact HB.out)⟩⟩
        · rw [if_neg c10] at H
          exact absurd H (by simp)
      · replace c9 := Bool.eq_false_iff.mpr c9
        subst c9
        have H1 : (antiquarylaw09_PivotBoundsHold.j0 k a0 l1 l2 l3 true) = some r := by rw [if_neg (show ¬ (false = true) by decide)] at H; exact H
        clear H
        have H := H1
        clear H1
        have H' := Aside0.mk H
        clear H
        go_wp2_with (first | (go_at_call 9; (with_reducible refine (antiquaryref09_Few.calls k _ _ l2 30 true _ ?side1 ?side2 A6.out).mono ?_); (case side1 => repeat (first | exact (Kd.V_reads' HO2.out).2.2 | (with_reducible refine Kd.C_alloc ?_ _) | (with_reducible refine Kd.C_drewN ?_ _) | (with_reducible refine Kd.C_drew ?_))); (case side2 => exact (Kd.V_reads' HO2.out).2.1); rintro e w' ⟨rfl, ⟨nd, rfl⟩⟩; (try first | exact ⟨rfl, _, World.drewN_drewN _ _ _⟩ | exact ⟨rfl, _, Eq.trans (World.drewN_drewN _ _ _) (congrArg (World.drewN _) (Nat.add_assoc _ _ _))⟩)) | (go_at_call 21; (with_reducible refine (antiquaryref09_Both.calls k a0 _ _ l1 _ _ l2 false _ ?side1 ?side2 ?side3 ?side4 A8.out).mono ?_); (case side1 => repeat (first | exact (Kd.C_below HR1.out (by repeat (first | (with_reducible first | exact HB.out | apply below_alloc | apply pw_below_drewN | apply below_drew1) | exact HB.out))) | (with_reducible refine Kd.C_alloc ?_ _) | (with_reducible refine Kd.C_drewN ?_ _) | (with_reducible refine Kd.C_drew ?_))); (case side2 => exact HC1.out); (case side3 => repeat (first | exact (Kd.V_reads' HO2.out).2.2 | (with_reducible refine Kd.C_alloc ?_ _) | (with_reducible refine Kd.C_drewN ?_ _) | (with_reducible refine Kd.C_drew ?_))); (case side4 => exact (Kd.V_reads' HO2.out).2.1); rintro e w' ⟨rfl, ⟨nd, rfl⟩⟩; (try first | exact ⟨rfl, _, World.drewN_drewN _ _ _⟩ | exact ⟨rfl, _, Eq.trans (World.drewN_drewN _ _ _) (congrArg (World.drewN _) (Nat.add_assoc _ _ _))⟩)))
        repeat (go_quiet (first | (go_at_call 9; (with_reducible refine (antiquaryref09_Few.calls k _ _ l2 30 true _ ?side1 ?side2 A6.out).mono ?_); (case side1 => repeat (first | exact (Kd.V_reads' HO2.out).2.2 | (with_reducible refine Kd.C_alloc ?_ _) | (with_reducible refine Kd.C_drewN ?_ _) | (with_reducible refine Kd.C_drew ?_))); (case side2 => exact (Kd.V_reads' HO2.out).2.1); rintro e w' ⟨rfl, ⟨nd, rfl⟩⟩; (try first | exact ⟨rfl, _, World.drewN_drewN _ _ _⟩ | exact ⟨rfl, _, Eq.trans (World.drewN_drewN _ _ _) (congrArg (World.drewN _) (Nat.add_assoc _ _ _))⟩)) | (go_at_call 21; (with_reducible refine (antiquaryref09_Both.calls k a0 _ _ l1 _ _ l2 false _ ?side1 ?side2 ?side3 ?side4 A8.out).mono ?_); (case side1 => repeat (first | exact (Kd.C_below HR1.out (by repeat (first | (with_reducible first | exact HB.out | apply below_alloc | apply pw_below_drewN | apply below_drew1) | exact HB.out))) | (with_reducible refine Kd.C_alloc ?_ _) | (with_reducible refine Kd.C_drewN ?_ _) | (with_reducible refine Kd.C_drew ?_))); (case side2 => exact HC1.out); (case side3 => repeat (first | exact (Kd.V_reads' HO2.out).2.2 | (with_reducible refine Kd.C_alloc ?_ _) | (with_reducible refine Kd.C_drewN ?_ _) | (with_reducible refine Kd.C_drew ?_))); (case side4 => exact (Kd.V_reads' HO2.out).2.1); rintro e w' ⟨rfl, ⟨nd, rfl⟩⟩; (try first | exact ⟨rfl, _, World.drewN_drewN _ _ _⟩ | exact ⟨rfl, _, Eq.trans (World.drewN_drewN _ _ _) (congrArg (World.drewN _) (Nat.add_assoc _ _ _))⟩))); try go_wp2_with (first | (go_at_call 9; (with_reducible refine (antiquaryref09_Few.calls k _ _ l2 30 true _ ?side1 ?side2 A6.out).mono ?_); (case side1 => repeat (first | exact (Kd.V_reads' HO2.out).2.2 | (with_reducible refine Kd.C_alloc ?_ _) | (with_reducible refine Kd.C_drewN ?_ _) | (with_reducible refine Kd.C_drew ?_))); (case side2 => exact (Kd.V_reads' HO2.out).2.1); rintro e w' ⟨rfl, ⟨nd, rfl⟩⟩; (try first | exact ⟨rfl, _, World.drewN_drewN _ _ _⟩ | exact ⟨rfl, _, Eq.trans (World.drewN_drewN _ _ _) (congrArg (World.drewN _) (Nat.add_assoc _ _ _))⟩)) | (go_at_call 21; (with_reducible refine (antiquaryref09_Both.calls k a0 _ _ l1 _ _ l2 false _ ?side1 ?side2 ?side3 ?side4 A8.out).mono ?_); (case side1 => repeat (first | exact (Kd.C_below HR1.out (by repeat (first | (with_reducible first | exact HB.out | apply below_alloc | apply pw_below_drewN | apply below_drew1) | exact HB.out))) | (with_reducible refine Kd.C_alloc ?_ _) | (with_reducible refine Kd.C_drewN ?_ _) | (with_reducible refine Kd.C_drew ?_))); (case side2 => exact HC1.out); (case side3 => repeat (first | exact (Kd.V_reads' HO2.out).2.2 | (with_reducible refine Kd.C_alloc ?_ _) | (with_reducible refine Kd.C_drewN ?_ _) | (with_reducible refine Kd.C_drew ?_))); (case side4 => exact (Kd.V_reads' HO2.out).2.1); rintro e w' ⟨rfl, ⟨nd, rfl⟩⟩; (try first | exact ⟨rfl, _, World.drewN_drewN _ _ _⟩ | exact ⟨rfl, _, Eq.trans (World.drewN_drewN _ _ _) (congrArg (World.drewN _) (Nat.add_assoc _ _ _))⟩))))
        go_meet
        case rel => exact ⟨_, (true), (by first | rfl | (simp; done) | (simp [*]; done)), H', ⟨by first | omega | exact Nat.le_refl _⟩, ⟨by (with_reducible repeat (first | apply Kd.V_alloc | apply Kd.V_drewN | apply Kd.V_drew)); exact HO2.out⟩, ⟨by (with_reducible repeat (first | apply Kd.V_alloc | apply Kd.V_drewN | apply Kd.V_drew)); exact HO3.out⟩, ⟨by repeat (first | (with_reducible first | exact HB.out | apply below_alloc | apply pw_below_drewN | apply below_drew1) | exact HB.out)⟩⟩
    · replace c7 := Bool.eq_false_iff.mpr c7
      subst c7
      have H1 : (antiquarylaw09_PivotBoundsHold.j0 k a0 l1 l2 l3 true) = some r := by rw [if_neg (show ¬ (false = true) by decide)] at H; exact H
      clear H
      have H := H1
      clear H1
      have H' := Aside0.mk H
      clear H
      go_wp2_with (first | (go_at_call 9; (with_reducible refine (antiquaryref09_Few.calls k _ _ l2 30 false _ ?side1 ?side2 A6.out).mono ?_); (case side1 => repeat (first | exact (Kd.V_reads' HO2.out).2.2 | (with_reducible refine Kd.C_alloc ?_ _) | (with_reducible refine Kd.C_drewN ?_ _) | (with_reducible refine Kd.C_drew ?_))); (case side2 => exact (Kd.V_reads' HO2.out).2.1); rintro e w' ⟨rfl, ⟨nd, rfl⟩⟩; (try first | exact ⟨rfl, _, World.drewN_drewN _ _ _⟩ | exact ⟨rfl, _, Eq.trans (World.drewN_drewN _ _ _) (congrArg (World.drewN _) (Nat.add_assoc _ _ _))⟩)))
      repeat (go_quiet (first | (go_at_call 9; (with_reducible refine (antiquaryref09_Few.calls k _ _ l2 30 false _ ?side1 ?side2 A6.out).mono ?_); (case side1 => repeat (first | exact (Kd.V_reads' HO2.out).2.2 | (with_reducible refine Kd.C_alloc ?_ _) | (with_reducible refine Kd.C_drewN ?_ _) | (with_reducible refine Kd.C_drew ?_))); (case side2 => exact (Kd.V_reads' HO2.out).2.1); rintro e w' ⟨rfl, ⟨nd, rfl⟩⟩; (try first | exact ⟨rfl, _, World.drewN_drewN _ _ _⟩ | exact ⟨rfl, _, Eq.trans (World.drewN_drewN _ _ _) (congrArg (World.drewN _) (Nat.add_assoc _ _ _))⟩))); try go_wp2_with (first | (go_at_call 9; (with_reducible refine (antiquaryref09_Few.calls k _ _ l2 30 false _ ?side1 ?side2 A6.out).mono ?_); (case side1 => repeat (first | exact (Kd.V_reads' HO2.out).2.2 | (with_reducible refine Kd.C_alloc ?_ _) | (with_reducible refine Kd.C_drewN ?_ _) | (with_reducible refine Kd.C_drew ?_))); (case side2 => exact (Kd.V_reads' HO2.out).2.1); rintro e w' ⟨rfl, ⟨nd, rfl⟩⟩; (try first | exact ⟨rfl, _, World.drewN_drewN _ _ _⟩ | exact ⟨rfl, _, Eq.trans (World.drewN_drewN _ _ _) (congrArg (World.drewN _) (Nat.add_assoc _ _ _))⟩))))
      go_meet
      case rel => exact ⟨_, (true), (by first | rfl | (simp; done) | (simp [*]; done)), H', ⟨by first | omega | exact Nat.le_refl _⟩, ⟨by (with_reducible repeat (first | apply Kd.V_alloc | apply Kd.V_drewN | apply Kd.V_drew)); exact HO2.out⟩, ⟨by (with_reducible repeat (first | apply Kd.V_alloc | apply Kd.V_drewN | apply Kd.V_drew)); exact HO3.out⟩, ⟨by repeat (first | (with_reducible first | exact HB.out | apply below_alloc | apply pw_below_drewN | apply below_drew1) | exact HB.out)⟩⟩
  case rest =>
    clear HC5
    try clear c1
    try clear c2
    try clear p2
    try clear c3
    try clear p3
    try clear q3
    try clear hx3
    try clear qi3
    try clear c4
    try clear c7
    try clear c9
    try clear c10
    try clear c10b0
    try clear c10b1
    try clear hx380_0
    try clear p380
    try clear q380
    obtain ⟨kq, x41_4, rfl, HA, HJ4, HO_2, HO_3, HB⟩ := hcut
    cases kq with
    | zero => exact absurd HA.out (by simp [antiquarylaw09_PivotBoundsHold.j0])
    | succ kj4 =>
      have H := HA.out
      clear HA
      simp only [antiquarylaw09_PivotBoundsHold.j0] at H
      by_cases c12 : x41_4 = true
      · subst c12
        have H1 : ((antiquarylaw09_sanity.f kj4).bind fun t382 => (some t382)) = some r := by rw [if_pos rfl] at H; exact H
        clear H
        have H := H1
        clear H1
        replace H := Option.bind_eq_some_iff.mp H
        obtain ⟨t382, A130, H⟩ := H
        replace H : (some t382) = some r := H
        have A13 := Aside0.mk A130
        clear A130
        obtain rfl := Option.some.inj H
        go_wp2_with (first | (go_at_call 10; (with_reducible refine (antiquarylaw09_sanity.calls kj4  t382 _ A13.out (by first | rfl | exact HT.out)).mono ?_); rintro e w14 ⟨rfl, hb⟩; have n0_ := Aside0.mk (Kd.V_below (by (with_reducible repeat (first | apply Kd.V_alloc | apply Kd.V_drewN | apply Kd.V_drew)); exact HO_2.out) hb); have n1_ := Aside0.mk (Kd.V_below (by (with_reducible repeat (first | apply Kd.V_alloc | apply Kd.V_drewN | apply Kd.V_drew)); exact HO_3.out) hb); have n2_ := Aside0.mk (below_step (by repeat (first | (with_reducible first | exact HB.out | apply below_alloc | apply pw_below_drewN | apply below_drew1) | exact HB.out)) hb); clear HO_2; clear HO_3; clear HB; have HO_2 := n0_; have HO_3 := n1_; have HB := n2_; clear n0_ n1_ n2_; (try clear hb); (try clear hb2); (try clear hk); (try clear hi)))
        repeat (go_quiet (first | (go_at_call 10; (with_reducible refine (antiquarylaw09_sanity.calls kj4  t382 _ A13.out (by first | rfl | exact HT.out)).mono ?_); rintro e w14 ⟨rfl, hb⟩; have n0_ := Aside0.mk (Kd.V_below (by (with_reducible repeat (first | apply Kd.V_alloc | apply Kd.V_drewN | apply Kd.V_drew)); exact HO_2.out) hb); have n1_ := Aside0.mk (Kd.V_below (by (with_reducible repeat (first | apply Kd.V_alloc | apply Kd.V_drewN | apply Kd.V_drew)); exact HO_3.out) hb); have n2_ := Aside0.mk (below_step (by repeat (first | (with_reducible first | exact HB.out | apply below_alloc | apply pw_below_drewN | apply below_drew1) | exact HB.out)) hb); clear HO_2; clear HO_3; clear HB; have HO_2 := n0_; have HO_3 := n1_; have HB := n2_; clear n0_ n1_ n2_; (try clear hb); (try clear hb2); (try clear hk); (try clear hi))); try go_wp2_with (first | (go_at_call 10; (with_reducible refine (antiquarylaw09_sanity.calls kj4  t382 _ A13.out (by first | rfl | exact HT.out)).mono ?_); rintro e w14 ⟨rfl, hb⟩; have n0_ := Aside0.mk (Kd.V_below (by (with_reducible repeat (first | apply Kd.V_alloc | apply Kd.V_drewN | apply Kd.V_drew)); exact HO_2.out) hb); have n1_ := Aside0.mk (Kd.V_below (by (with_reducible repeat (first | apply Kd.V_alloc | apply Kd.V_drewN | apply Kd.V_drew)); exact HO_3.out) hb); have n2_ := Aside0.mk (below_step (by repeat (first | (with_reducible first | exact HB.out | apply below_alloc | apply pw_below_drewN | apply below_drew1) | exact HB.out)) hb); clear HO_2; clear HO_3; clear HB; have HO_2 := n0_; have HO_3 := n1_; have HB := n2_; clear n0_ n1_ n2_; (try clear hb); (try clear hb2); (try clear hk); (try clear hi))))
        go_ret
        exact ⟨by first | rfl | (simp [errW_none, errW_some] <;> rfl) | (simp [*, errW_none, errW_some] <;> rfl), by repeat (first | (with_reducible first | exact HB.out | apply below_alloc | apply pw_below_drewN | apply below_drew1) | exact HB.out)⟩
      · replace c12 := Bool.eq_false_iff.mpr c12
        subst c12
        have H1 : ((pivot_Shells.f a0 l1 l2).bind fun bt383 => ((some (([] : List (List Int)) : List (List Int))).bind fun y387 => (if y387.length + l2.length < 5864062014805 then ((some (y387 ++ l2 : List (List Int))).bind fun y390 => (if y390.length < 5864062014805 then ((pivot_Table.f kj4 a0 l1 (y390 ++ [l3])).bind fun bt396 => (if bt383.2 = 0 then (if bt396.2 = 0 then (if (bt396.1.length : Int) = (wrap64 ((l2.length : Int) + 1)) then ((pivot_Valid.f kj4 bt383.1).bind fun t400 => (if t400 = true then (antiquarylaw09_PivotBoundsHold.j1 kj4 a0 l2 l3 bt383.1 bt396.1 ((bt383.1.length : Int) != (l1.length : Int))) else (antiquarylaw09_PivotBoundsHold.j1 kj4 a0 l2 l3 bt383.1 bt396.1 true))) else (antiquarylaw09_PivotBoundsHold.j1 kj4 a0 l2 l3 bt383.1 bt396.1 true)) else (antiquarylaw09_PivotBoundsHold.j1 kj4 a0 l2 l3 bt383.1 bt396.1 true)) else (antiquarylaw09_PivotBoundsHold.j1 kj4 a0 l2 l3 bt383.1 bt396.1 true))) else (none))) else (none)))) = some r := by rw [if_neg (show ¬ (false = true) by decide)] at H; exact H
        clear H
        have H := H1
        clear H1
        replace H := Option.bind_eq_some_iff.mp H
        obtain ⟨⟨t383, t384⟩, A150, H⟩ := H
        replace H : ((some (([] : List (List Int)) : List (List Int))).bind fun y387 => (if y387.length + l2.length < 5864062014805 then ((some (y387 ++ l2 : List (List Int))).bind fun y390 => (if y390.length < 5864062014805 then ((pivot_Table.f kj4 a0 l1 (y390 ++ [l3])).bind fun bt396 => (if t384 = 0 then (if bt396.2 = 0 then (if (bt396.1.length : Int) = (wrap64 ((l2.length : Int) + 1)) then ((pivot_Valid.f kj4 t383).bind fun t400 => (if t400 = true then (antiquarylaw09_PivotBoundsHold.j1 kj4 a0 l2 l3 t383 bt396.1 ((t383.length : Int) != (l1.length : Int))) else (antiquarylaw09_PivotBoundsHold.j1 kj4 a0 l2 l3 t383 bt396.1 true))) else (antiquarylaw09_PivotBoundsHold.j1 kj4 a0 l2 l3 t383 bt396.1 true)) else (antiquarylaw09_PivotBoundsHold.j1 kj4 a0 l2 l3 t383 bt396.1 true)) else (antiquarylaw09_PivotBoundsHold.j1 kj4 a0 l2 l3 t383 bt396.1 true))) else (none))) else (none))) = some r := H
        have A15 := Aside0.mk A150
        clear A150
        obtain ⟨y387, hy387⟩ : ∃ y_ : List (List Int), y_ = (([] : List (List Int))) := ⟨_, rfl⟩
        replace H : (if y387.length + l2.length < 5864062014805 then ((some (y387 ++ l2 : List (List Int))).bind fun y390 => (if y390.length < 5864062014805 then ((pivot_Table.f kj4 a0 l1 (y390 ++ [l3])).bind fun bt396 => (if t384 = 0 then (if bt396.2 = 0 then (if (bt396.1.length : Int) = (wrap64 ((l2.length : Int) + 1)) then ((pivot_Valid.f kj4 t383).bind fun t400 => (if t400 = true then (antiquarylaw09_PivotBoundsHold.j1 kj4 a0 l2 l3 t383 bt396.1 ((t383.length : Int) != (l1.length : Int))) else (antiquarylaw09_PivotBoundsHold.j1 kj4 a0 l2 l3 t383 bt396.1 true))) else (antiquarylaw09_PivotBoundsHold.j1 kj4 a0 l2 l3 t383 bt396.1 true)) else (antiquarylaw09_PivotBoundsHold.j1 kj4 a0 l2 l3 t383 bt396.1 true)) else (antiquarylaw09_PivotBoundsHold.j1 kj4 a0 l2 l3 t383 bt396.1 true))) else (none))) else (none)) = some r := by first | (rw [hy387]; with_reducible exact H) | (have H2_ := (Option.bind_some _ _).symm.trans H; rw [hy387]; with_reducible exact H2_) | (have H2_ := (Option.bind_some _ _).symm.trans H; with_reducible exact H2_) | with_reducible exact H | (rw [hy387]; exact H) | exact H
        have Ny387 := Aside0.mk hy387
        clear hy387
        by_cases c16 : y387.length + l2.length < 5864062014805
        · rw [if_pos c16] at H
          have LMc16 := Aside0.mk c16
          clear c16
          obtain ⟨y390, hy390⟩ : ∃ y_ : List (List Int), y_ = (y387 ++ l2) := ⟨_, rfl⟩
          replace H : (if y390.length < 5864062014805 then ((pivot_Table.f kj4 a0 l1 (y390 ++ [l3])).bind fun bt396 => (if t384 = 0 then (if bt396.2 = 0 then (if (bt396.1.length : Int) = (wrap64 ((l2.length : Int) + 1)) then ((pivot_Valid.f kj4 t383).bind fun t400 => (if t400 = true then (antiquarylaw09_PivotBoundsHold.j1 kj4 a0 l2 l3 t383 bt396.1 ((t383.length : Int) != (l1.length : Int))) else (antiquarylaw09_PivotBoundsHold.j1 kj4 a0 l2 l3 t383 bt396.1 true))) else (antiquarylaw09_PivotBoundsHold.j1 kj4 a0 l2 l3 t383 bt396.1 true)) else (antiquarylaw09_PivotBoundsHold.j1 kj4 a0 l2 l3 t383 bt396.1 true)) else (antiquarylaw09_PivotBoundsHold.j1 kj4 a0 l2 l3 t383 bt396.1 true))) else (none)) = some r := by first | (rw [hy390]; with_reducible exact H) | (have H2_ := (Option.bind_some _ _).symm.trans H; rw [hy390]; with_reducible exact H2_) | (have H2_ := (Option.bind_some _ _).symm.trans H; with_reducible exact H2_) | with_reducible exact H | (rw [hy390]; exact H) | exact H
          have Ny390 := Aside0.mk hy390
          clear hy390
          by_cases c17 : y390.length < 5864062014805
          · rw [if_pos c17] at H
            have LMc17 := Aside0.mk c17
            clear c17
            obtain ⟨y393, hy393⟩ : ∃ y_ : List (List Int), y_ = (y390 ++ [l3]) := ⟨_, rfl⟩
            replace H : ((pivot_Table.f kj4 a0 l1 y393).bind fun bt396 => (if t384 = 0 then (if bt396.2 = 0 then (if (bt396.1.length : Int) = (wrap64 ((l2.length : Int) + 1)) then ((pivot_Valid.f kj4 t383).bind fun t400 => (if t400 = true then (antiquarylaw09_PivotBoundsHold.j1 kj4 a0 l2 l3 t383 bt396.1 ((t383.length : Int) != (l1.length : Int))) else (antiquarylaw09_PivotBoundsHold.j1 kj4 a0 l2 l3 t383 bt396.1 true))) else (antiquarylaw09_PivotBoundsHold.j1 kj4 a0 l2 l3 t383 bt396.1 true)) else (antiquarylaw09_PivotBoundsHold.j1 kj4 a0 l2 l3 t383 bt396.1 true)) else (antiquarylaw09_PivotBoundsHold.j1 kj4 a0 l2 l3 t383 bt396.1 true))) = some r := by first | (rw [hy393]; with_reducible exact H) | (have H2_ := (Option.bind_some _ _).symm.trans H; rw [hy393]; with_reducible exact H2_) | (have H2_ := (Option.bind_some _ _).symm.trans H; with_reducible exact H2_) | with_reducible exact H | (rw [hy393]; exact H) | exact H
            have Ny393 := Aside0.mk hy393
            clear hy393
            replace H := Option.bind_eq_some_iff.mp H
            obtain ⟨⟨t396, t397⟩, A180, H⟩ := H
            replace H : (if t384 = 0 then (if t397 = 0 then (if (t396.length : Int) = (wrap64 ((l2.length : Int) + 1)) then ((pivot_Valid.f kj4 t383).bind fun t400 => (if t400 = true then (antiquarylaw09_PivotBoundsHold.j1 kj4 a0 l2 l3 t383 t396 ((t383.length : Int) != (l1.length : Int))) else (antiquarylaw09_PivotBoundsHold.j1 kj4 a0 l2 l3 t383 t396 true))) else (antiquarylaw09_PivotBoundsHold.j1 kj4 a0 l2 l3 t383 t396 true)) else (antiquarylaw09_PivotBoundsHold.j1 kj4 a0 l2 l3 t383 t396 true)) else (antiquarylaw09_PivotBoundsHold.j1 kj4 a0 l2 l3 t383 t396 true)) = some r := H
            have A18 := Aside0.mk A180
            clear A180
            have HC19 := Aside0.mk H
            clear H
            go_upto_region 5 with (first | (go_at_call 23; (with_reducible refine (pivot_Shells.calls a0 _ _ l1 _ _ l2 t383 t384 _ ?side1 ?side2 ?side3 ?side4 A15.out).mono ?_); (case side1 => repeat (first | exact (Kd.C_below HR1.out HB.out) | (with_reducible refine Kd.C_alloc ?_ _) | (with_reducible refine Kd.C_drewN ?_ _) | (with_reducible refine Kd.C_drew ?_))); (case side2 => exact HC1.out); (case side3 => repeat (first | exact (Kd.V_reads' HO_2.out).2.2 | (with_reducible refine Kd.C_alloc ?_ _) | (with_reducible refine Kd.C_drewN ?_ _) | (with_reducible refine Kd.C_drew ?_))); (case side4 => exact (Kd.V_reads' HO_2.out).2.1); rintro e w20 ⟨v385, rfl, ho0, hb⟩; have n0_ := Aside0.mk (Kd.V_elder' (by (with_reducible repeat (first | apply Kd.V_alloc | apply Kd.V_drewN | apply Kd.V_drew)); exact HO_2.out) (Kd.R_base ho0) hb); have n1_ := Aside0.mk (Kd.V_elder' (by (with_reducible repeat (first | apply Kd.V_alloc | apply Kd.V_drewN | apply Kd.V_drew)); exact HO_3.out) (Kd.R_base ho0) hb); have n2_ := Aside0.mk (Kd.R_lower (Kd.R_newM (M := fun k_ => (w.heap.size ≤ k_)) ho0 (below_size (by repeat (first | (with_reducible first | exact HB.out | apply below_alloc | apply pw_below_drewN | apply below_drew1) | exact HB.out))) (fun k_ h_ => h_)) (below_size (by repeat (first | (with_reducible first | exact HB.out | apply below_alloc | apply pw_below_drewN | apply below_drew1) | exact HB.out)))); have n3_ := Aside0.mk (below_step (by repeat (first | (with_reducible first | exact HB.out | apply below_alloc | apply pw_below_drewN | apply below_drew1) | exact HB.out)) hb); clear HO_2; clear HO_3; clear HB; have HO_2 := n0_; have HO_3 := n1_; have HO386 := n2_; have HB := n3_; clear n0_ n1_ n2_ n3_; (try clear hb); (try clear hb2); (try clear hk); (try clear hi); (try clear ho0)) | ((with_reducible refine gate_dst (N := 53) rfl ?_); (try (refine gate_guard (by rfl) ?_; dsimp only)); refine Kd.N_lit (Kd.slice 3 (Kd.int .i64)) _ 23 ?hg (N' := 53) ?hd (xs := ([] : List (List Int))) (inner := []) (ok := (fun k_ => ((P2_ k_ ∨ P3_ k_) ∨ w.heap.size ≤ k_) ∧ some k_ ≠ (v385 : Value).ownBlock)) (okp := (fun k_ => ((P2_ k_ ∨ P3_ k_) ∨ w.heap.size ≤ k_) ∧ some k_ ≠ (v385 : Value).ownBlock)) ?hr ?hp (fun _ hk => hk) ((show ∀ k_, w20.heap.size ≤ k_ → (fun k_ => ((P2_ k_ ∨ P3_ k_) ∨ w.heap.size ≤ k_) ∧ some k_ ≠ (v385 : Value).ownBlock) k_ from fun k_ hk => ⟨(.inr (Nat.le_trans (below_size (by repeat (first | (with_reducible first | exact HB.out | apply below_alloc | apply pw_below_drewN | apply below_drew1) | exact HB.out))) hk)), Kd.fresh' (Kd.R_lt (by (with_reducible repeat (first | apply Kd.R_alloc | apply Kd.R_drewN | apply Kd.R_drew)); exact HO386.out)) k_ hk⟩) _ (Nat.le_refl _)) (Below.refl _ _) (Nat.le_refl _) (by simp) ?_; (case hd => rfl); (case hg => rfl); (case hr => first | (go_simp; done) | (go_simp; rfl)); (case hp => exact (Reps.none _ _)); intro v388 w21 ho22 hb hg_ hnew_; clear hg_ hnew_; (first | rw [← Ny387.out] at ho22 | (simp only [Int.reduceToNat] at ho22; rw [← Ny387.out] at ho22)); have n0_ := Aside0.mk (Kd.V_elder' (by (with_reducible repeat (first | apply Kd.V_alloc | apply Kd.V_drewN | apply Kd.V_drew)); exact HO_2.out) (Kd.N_base ho22) hb); have n1_ := Aside0.mk (Kd.V_elder' (by (with_reducible repeat (first | apply Kd.V_alloc | apply Kd.V_drewN | apply Kd.V_drew)); exact HO_3.out) (Kd.N_base ho22) hb); have n2_ := Aside0.mk (Kd.R_below (by (with_reducible repeat (first | apply Kd.R_alloc | apply Kd.R_drewN | apply Kd.R_drew)); exact HO386.out) hb); have n3_ := Aside0.mk (Kd.N_lower ho22 (below_size (by repeat (first | (with_reducible first | exact HB.out | apply below_alloc | apply pw_below_drewN | apply below_drew1) | exact HB.out)))); have n4_ := Aside0.mk (below_step (by repeat (first | (with_reducible first | exact HB.out | apply below_alloc | apply pw_below_drewN | apply below_drew1) | exact HB.out)) hb); clear HO_2; clear HO_3; clear HO386; clear HB; have HO_2 := n0_; have HO_3 := n1_; have HO386 := n2_; have HO389 := n3_; have HB := n4_; clear n0_ n1_ n2_ n3_ n4_; clear hb ho22) | ((with_reducible refine gate_builtin (b := .append) (xs := #[.tmp 53, .tmp 54]) rfl ?_); (try (refine gate_guard (by rfl) ?_; dsimp only)); at_builtin; refine Kd.N_append_rows (Kd.slice 3 (Kd.int .i64)) (w0 := w) w.heap.size rfl (.tmp 53) (.tmp 54) 22 23 (.slice none 0 0) 24 rfl Try.underlying22 info23 rfl (by decide) (by omega) v388 y387 l2 _ _ _ (fun k_ => ((P2_ k_ ∨ P3_ k_) ∨ w.heap.size ≤ k_) ∧ some k_ ≠ (v385 : Value).ownBlock) (fun k_ => ((fun k_ => ((P2_ k_ ∨ P3_ k_) ∨ w.heap.size ≤ k_) ∧ some k_ ≠ (v385 : Value).ownBlock)) k_ ∧ some k_ ≠ (v388 : Value).ownBlock) rfl rfl ?aO ?aR (fun _ hk => hk) ?aF ?aB ?aS ?aL ?_; (case aR => exact (by skip; exact Kd.V_F (Kd.V_mono (ok' := (fun k_ => ((fun k_ => ((P2_ k_ ∨ P3_ k_) ∨ w.heap.size ≤ k_) ∧ some k_ ≠ (v385 : Value).ownBlock)) k_ ∧ some k_ ≠ (v388 : Value).ownBlock)) (HO_2.out) (fun k_ hk => ⟨⟨hk.1.1, hk.1.2⟩, hk.2⟩)))); (case aB => exact (by repeat (first | (with_reducible first | exact HB.out | apply below_alloc | apply pw_below_drewN | apply below_drew1) | exact HB.out))); (case aF => exact (fun k_ hk => ⟨(.inr (Nat.le_trans (below_size (by repeat (first | (with_reducible first | exact HB.out | apply below_alloc | apply pw_below_drewN | apply below_drew1) | exact HB.out))) hk)), Kd.fresh' (Kd.R_lt (by (with_reducible repeat (first | apply Kd.R_alloc | apply Kd.R_drewN | apply Kd.R_drew)); exact HO386.out)) k_ hk⟩)); (case aO => exact (by (with_reducible repeat (first | apply Kd.N_alloc | apply Kd.N_drewN | apply Kd.N_drew)); exact HO389.out)); (case aS => exact (below_size (by repeat (first | (with_reducible first | exact HB.out | apply below_alloc | apply pw_below_drewN | apply below_drew1) | exact HB.out)))); (case aL => have := LMc16.out; omega); intro v391 w23 ho hb hg hat; rw [← Ny390.out] at ho; have n0_ := Aside0.mk (Kd.V_afterv (ok := (fun k_ => ((P2_ k_ ∨ P3_ k_) ∨ w.heap.size ≤ k_) ∧ some k_ ≠ (v385 : Value).ownBlock)) (by (with_reducible repeat (first | apply Kd.V_alloc | apply Kd.V_drewN | apply Kd.V_drew)); exact HO_2.out) hg hat); have n1_ := Aside0.mk (Kd.V_afterv (ok := (fun k_ => ((P2_ k_ ∨ P3_ k_) ∨ w.heap.size ≤ k_) ∧ some k_ ≠ (v385 : Value).ownBlock)) (by (with_reducible repeat (first | apply Kd.V_alloc | apply Kd.V_drewN | apply Kd.V_drew)); exact HO_3.out) hg hat); have n2_ := Aside0.mk (Kd.R_over' (by (with_reducible repeat (first | apply Kd.R_alloc | apply Kd.R_drewN | apply Kd.R_drew)); exact HO386.out) (Kd.N_typed (by (with_reducible repeat (first | apply Kd.N_alloc | apply Kd.N_drewN | apply Kd.N_drew)); exact HO389.out)) (by decide) hg); have n3_ := Aside0.mk (hb); have n4_ := Aside0.mk (ho); clear HO_2; clear HO_3; clear HO386; clear HB; clear HO389; have HO_2 := n0_; have HO_3 := n1_; have HO386 := n2_; have HB := n3_; have HO392 := n4_; clear n0_ n1_ n2_ n3_ n4_; clear ho hb hg hat) | ((with_reducible refine gate_builtin (b := .append) (xs := #[.tmp 55, .tmp 57]) rfl ?_); (try (refine gate_guard (by rfl) ?_; dsimp only)); at_builtin; refine Kd.N_append (Kd.slice 3 (Kd.int .i64)) (w0 := w) w.heap.size rfl (.tmp 55) (.tmp 57) 22 23 (.slice none 0 0) 24 rfl Try.underlying22 info23 rfl (by decide) (by omega) v391 y390 l3 [.slice A3 l3.length c3] (fun k_ => ((P2_ k_ ∨ P3_ k_) ∨ w.heap.size ≤ k_) ∧ some k_ ≠ (v385 : Value).ownBlock) (fun k_ => ((fun k_ => ((P2_ k_ ∨ P3_ k_) ∨ w.heap.size ≤ k_) ∧ some k_ ≠ (v385 : Value).ownBlock)) k_ ∧ some k_ ≠ (v391 : Value).ownBlock) rfl rfl ?aP (fun _ hk => hk) ?aF ?aO ?aB ?aS ?aL ?_; (case aP => exact (Kd.FK_slice_mk (Kd.V_reads' (Kd.V_mono (ok' := (fun k_ => ((fun k_ => ((P2_ k_ ∨ P3_ k_) ∨ w.heap.size ≤ k_) ∧ some k_ ≠ (v385 : Value).ownBlock)) k_ ∧ some k_ ≠ (v391 : Value).ownBlock)) (HO_3.out) (fun k_ hk => ⟨⟨hk.1.1, hk.1.2⟩, hk.2⟩))).2.1 (Kd.V_F (Kd.V_mono (ok' := (fun k_ => ((fun k_ => ((P2_ k_ ∨ P3_ k_) ∨ w.heap.size ≤ k_) ∧ some k_ ≠ (v385 : Value).ownBlock)) k_ ∧ some k_ ≠ (v391 : Value).ownBlock)) (HO_3.out) (fun k_ hk => ⟨⟨hk.1.1, hk.1.2⟩, hk.2⟩))))); (case aB => exact (by repeat (first | (with_reducible first | exact HB.out | apply below_alloc | apply pw_below_drewN | apply below_drew1) | exact HB.out))); (case aF => exact (fun k_ hk => ⟨(.inr (Nat.le_trans (below_size (by repeat (first | (with_reducible first | exact HB.out | apply below_alloc | apply pw_below_drewN | apply below_drew1) | exact HB.out))) hk)), Kd.fresh' (Kd.R_lt (by (with_reducible repeat (first | apply Kd.R_alloc | apply Kd.R_drewN | apply Kd.R_drew)); exact HO386.out)) k_ hk⟩)); (case aO => exact (by (with_reducible repeat (first | apply Kd.N_alloc | apply Kd.N_drewN | apply Kd.N_drew)); exact HO392.out)); (case aS => exact (below_size (by repeat (first | (with_reducible first | exact HB.out | apply below_alloc | apply pw_below_drewN | apply below_drew1) | exact HB.out)))); (case aL => have := LMc17.out; omega); intro v394 w24 ho hb hg hat; rw [← Ny393.out] at ho; have n0_ := Aside0.mk (Kd.V_afterv (ok := (fun k_ => ((P2_ k_ ∨ P3_ k_) ∨ w.heap.size ≤ k_) ∧ some k_ ≠ (v385 : Value).ownBlock)) (by (with_reducible repeat (first | apply Kd.V_alloc | apply Kd.V_drewN | apply Kd.V_drew)); exact HO_2.out) hg hat); have n1_ := Aside0.mk (Kd.V_afterv (ok := (fun k_ => ((P2_ k_ ∨ P3_ k_) ∨ w.heap.size ≤ k_) ∧ some k_ ≠ (v385 : Value).ownBlock)) (by (with_reducible repeat (first | apply Kd.V_alloc | apply Kd.V_drewN | apply Kd.V_drew)); exact HO_3.out) hg hat); have n2_ := Aside0.mk (Kd.R_over' (by (with_reducible repeat (first | apply Kd.R_alloc | apply Kd.R_drewN | apply Kd.R_drew)); exact HO386.out) (Kd.N_typed (by (with_reducible repeat (first | apply Kd.N_alloc | apply Kd.N_drewN | apply Kd.N_drew)); exact HO392.out)) (by decide) hg); have n3_ := Aside0.mk (hb); have n4_ := Aside0.mk (ho); clear HO_2; clear HO_3; clear HO386; clear HB; clear HO392; have HO_2 := n0_; have HO_3 := n1_; have HO386 := n2_; have HB := n3_; have HO395 := n4_; clear n0_ n1_ n2_ n3_ n4_; clear ho hb hg hat; obtain ⟨Ao25, co25, eo25⟩ := Kd.N_slice HO395.out; subst eo25) | (go_at_call 14; (with_reducible refine (pivot_Table.calls kj4 a0 _ _ l1 _ _ y393 t396 t397 _ ?side1 ?side2 ?side3 ?side4 A18.out).mono ?_); (case side1 => repeat (first | exact (Kd.C_below HR1.out HB.out) | (with_reducible refine Kd.C_alloc ?_ _) | (with_reducible refine Kd.C_drewN ?_ _) | (with_reducible refine Kd.C_drew ?_))); (case side2 => exact HC1.out); (case side3 => repeat (first | exact (Kd.N_reads' HO395.out).2.2 | (with_reducible refine Kd.C_alloc ?_ _) | (with_reducible refine Kd.C_drewN ?_ _) | (with_reducible refine Kd.C_drew ?_))); (case side4 => exact (Kd.N_reads' HO395.out).2.1); rintro e w26 ⟨v398, rfl, ho0, hb⟩; have n0_ := Aside0.mk (Kd.V_elder' (by (with_reducible repeat (first | apply Kd.V_alloc | apply Kd.V_drewN | apply Kd.V_drew)); exact HO_2.out) (by first | exact Kd.N_base ho0 | exact Kd.N_base (Kd.S_N ho0)) hb); have n1_ := Aside0.mk (Kd.V_elder' (by (with_reducible repeat (first | apply Kd.V_alloc | apply Kd.V_drewN | apply Kd.V_drew)); exact HO_3.out) (by first | exact Kd.N_base ho0 | exact Kd.N_base (Kd.S_N ho0)) hb); have n2_ := Aside0.mk (Kd.R_below (by (with_reducible repeat (first | apply Kd.R_alloc | apply Kd.R_drewN | apply Kd.R_drew)); exact HO386.out) hb); have n3_ := Aside0.mk (Kd.N_elder' (by (with_reducible repeat (first | apply Kd.N_alloc | apply Kd.N_drewN | apply Kd.N_drew)); exact HO395.out) (by first | exact Kd.N_base ho0 | exact Kd.N_base (Kd.S_N ho0)) hb); have n4_ := Aside0.mk (Kd.N_lower (Kd.N_mono (ok' := fun k_ => ((P2_ k_ ∨ P3_ k_) ∨ w.heap.size ≤ k_) ∧ some k_ ≠ (v385 : Value).ownBlock ∧ some k_ ≠ (.slice Ao25 y393.length co25 : Value).ownBlock) (Kd.S_N (Kd.S_bound ho0)) (fun k_ hk_ => ⟨(.inr (Nat.le_trans (below_size (by repeat (first | (with_reducible first | exact HB.out | apply below_alloc | apply pw_below_drewN | apply below_drew1) | exact HB.out))) hk_.2.1)), (Kd.fresh' (Kd.R_lt (by (with_reducible repeat (first | apply Kd.R_alloc | apply Kd.R_drewN | apply Kd.R_drew)); exact HO386.out)) k_ hk_.2.1), (Kd.fresh' (Kd.N_lt (by (with_reducible repeat (first | apply Kd.N_alloc | apply Kd.N_drewN | apply Kd.N_drew)); exact HO395.out)) k_ hk_.2.1)⟩)) (below_size (by repeat (first | (with_reducible first | exact HB.out | apply below_alloc | apply pw_below_drewN | apply below_drew1) | exact HB.out)))); have n5_ := Aside0.mk (below_step (by repeat (first | (with_reducible first | exact HB.out | apply below_alloc | apply pw_below_drewN | apply below_drew1) | exact HB.out)) hb); clear HO_2; clear HO_3; clear HO386; clear HO395; clear HB; have HO_2 := n0_; have HO_3 := n1_; have HO386 := n2_; have HO395 := n3_; have HO399 := n4_; have HB := n5_; clear n0_ n1_ n2_ n3_ n4_ n5_; (try clear hb); (try clear hb2); (try clear hk); (try clear hi); (try clear ho0)))
            repeat (go_quiet (first | (go_at_call 23; (with_reducible refine (pivot_Shells.calls a0 _ _ l1 _ _ l2 t383 t384 _ ?side1 ?side2 ?side3 ?side4 A15.out).mono ?_); (case side1 => repeat (first | exact (Kd.C_below HR1.out HB.out) | (with_reducible refine Kd.C_alloc ?_ _) | (with_reducible refine Kd.C_drewN ?_ _) | (with_reducible refine Kd.C_drew ?_))); (case side2 => exact HC1.out); (case side3 => repeat (first | exact (Kd.V_reads' HO_2.out).2.2 | (with_reducible refine Kd.C_alloc ?_ _) | (with_reducible refine Kd.C_drewN ?_ _) | (with_reducible refine Kd.C_drew ?_))); (case side4 => exact (Kd.V_reads' HO_2.out).2.1); rintro e w20 ⟨v385, rfl, ho0, hb⟩; have n0_ := Aside0.mk (Kd.V_elder' (by (with_reducible repeat (first | apply Kd.V_alloc | apply Kd.V_drewN | apply Kd.V_drew)); exact HO_2.out) (Kd.R_base ho0) hb); have n1_ := Aside0.mk (Kd.V_elder' (by (with_reducible repeat (first | apply Kd.V_alloc | apply Kd.V_drewN | apply Kd.V_drew)); exact HO_3.out) (Kd.R_base ho0) hb); have n2_ := Aside0.mk (Kd.R_lower (Kd.R_newM (M := fun k_ => (w.heap.size ≤ k_)) ho0 (below_size (by repeat (first | (with_reducible first | exact HB.out | apply below_alloc | apply pw_below_drewN | apply below_drew1) | exact HB.out))) (fun k_ h_ => h_)) (below_size (by repeat (first | (with_reducible first | exact HB.out | apply below_alloc | apply pw_below_drewN | apply below_drew1) | exact HB.out)))); have n3_ := Aside0.mk (below_step (by repeat (first | (with_reducible first | exact HB.out | apply below_alloc | apply pw_below_drewN | apply below_drew1) | exact HB.out)) hb); clear HO_2; clear HO_3; clear HB; have HO_2 := n0_; have HO_3 := n1_; have HO386 := n2_; have HB := n3_; clear n0_ n1_ n2_ n3_; (try clear hb); (try clear hb2); (try clear hk); (try clear hi); (try clear ho0)) | ((with_reducible refine gate_dst (N := 53) rfl ?_); (try (refine gate_guard (by rfl) ?_; dsimp only)); refine Kd.N_lit (Kd.slice 3 (Kd.int .i64)) _ 23 ?hg (N' := 53) ?hd (xs := ([] : List (List Int))) (inner := []) (ok := (fun k_ => ((P2_ k_ ∨ P3_ k_) ∨ w.heap.size ≤ k_) ∧ some k_ ≠ (v385 : Value).ownBlock)) (okp := (fun k_ => ((P2_ k_ ∨ P3_ k_) ∨ w.heap.size ≤ k_) ∧ some k_ ≠ (v385 : Value).ownBlock)) ?hr ?hp (fun _ hk => hk) ((show ∀ k_, w20.heap.size ≤ k_ → (fun k_ => ((P2_ k_ ∨ P3_ k_) ∨ w.heap.size ≤ k_) ∧ some k_ ≠ (v385 : Value).ownBlock) k_ from fun k_ hk => ⟨(.inr (Nat.le_trans (below_size (by repeat (first | (with_reducible first | exact HB.out | apply below_alloc | apply pw_below_drewN | apply below_drew1) | exact HB.out))) hk)), Kd.fresh' (Kd.R_lt (by (with_reducible repeat (first | apply Kd.R_alloc | apply Kd.R_drewN | apply Kd.R_drew)); exact HO386.out)) k_ hk⟩) _ (Nat.le_refl _)) (Below.refl _ _) (Nat.le_refl _) (by simp) ?_; (case hd => rfl); (case hg => rfl); (case hr => first | (go_simp; done) | (go_simp; rfl)); (case hp => exact (Reps.none _ _)); intro v388 w21 ho22 hb hg_ hnew_; clear hg_ hnew_; (first | rw [← Ny387.out] at ho22 | (simp only [Int.reduceToNat] at ho22; rw [← Ny387.out] at ho22)); have n0_ := Aside0.mk (Kd.V_elder' (by (with_reducible repeat (first | apply Kd.V_alloc | apply Kd.V_drewN | apply Kd.V_drew)); exact HO_2.out) (Kd.N_base ho22) hb); have n1_ := Aside0.mk (Kd.V_elder' (by (with_reducible repeat (first | apply Kd.V_alloc | apply Kd.V_drewN | apply Kd.V_drew)); exact HO_3.out) (Kd.N_base ho22) hb); have n2_ := Aside0.mk (Kd.R_below (by (with_reducible repeat (first | apply Kd.R_alloc | apply Kd.R_drewN | apply Kd.R_drew)); exact HO386.out) hb); have n3_ := Aside0.mk (Kd.N_lower ho22 (below_size (by repeat (first | (with_reducible first | exact HB.out | apply below_alloc | apply pw_below_drewN | apply below_drew1) | exact HB.out)))); have n4_ := Aside0.mk (below_step (by repeat (first | (with_reducible first | exact HB.out | apply below_alloc | apply pw_below_drewN | apply below_drew1) | exact HB.out)) hb); clear HO_2; clear HO_3; clear HO386; clear HB; have HO_2 := n0_; have HO_3 := n1_; have HO386 := n2_; have HO389 := n3_; have HB := n4_; clear n0_ n1_ n2_ n3_ n4_; clear hb ho22) | ((with_reducible refine gate_builtin (b := .append) (xs := #[.tmp 53, .tmp 54]) rfl ?_); (try (refine gate_guard (by rfl) ?_; dsimp only)); at_builtin; refine Kd.N_append_rows (Kd.slice 3 (Kd.int .i64)) (w0 := w) w.heap.size rfl (.tmp 53) (.tmp 54) 22 23 (.slice none 0 0) 24 rfl Try.underlying22 info23 rfl (by decide) (by omega) v388 y387 l2 _ _ _ (fun k_ => ((P2_ k_ ∨ P3_ k_) ∨ w.heap.size ≤ k_) ∧ some k_ ≠ (v385 : Value).ownBlock) (fun k_ => ((fun k_ => ((P2_ k_ ∨ P3_ k_) ∨ w.heap.size ≤ k_) ∧ some k_ ≠ (v385 : Value).ownBlock)) k_ ∧ some k_ ≠ (v388 : Value).ownBlock) rfl rfl ?aO ?aR (fun _ hk => hk) ?aF ?aB ?aS ?aL ?_; (case aR => exact (by skip; exact Kd.V_F (Kd.V_mono (ok' := (fun k_ => ((fun k_ => ((P2_ k_ ∨ P3_ k_) ∨ w.heap.size ≤ k_) ∧ some k_ ≠ (v385 : Value).ownBlock)) k_ ∧ some k_ ≠ (v388 : Value).ownBlock)) (HO_2.out) (fun k_ hk => ⟨⟨hk.1.1, hk.1.2⟩, hk.2⟩)))); (case aB => exact (by repeat (first | (with_reducible first | exact HB.out | apply below_alloc | apply pw_below_drewN | apply below_drew1) | exact HB.out))); (case aF => exact (fun k_ hk => ⟨(.inr (Nat.le_trans (below_size (by repeat (first | (with_reducible first | exact HB.out | apply below_alloc | apply pw_below_drewN | apply below_drew1) | exact HB.out))) hk)), Kd.fresh' (Kd.R_lt (by (with_reducible repeat (first | apply Kd.R_alloc | apply Kd.R_drewN | apply Kd.R_drew)); exact HO386.out)) k_ hk⟩)); (case aO => exact (by (with_reducible repeat (first | apply Kd.N_alloc | apply Kd.N_drewN | apply Kd.N_drew)); exact HO389.out)); (case aS => exact (below_size (by repeat (first | (with_reducible first | exact HB.out | apply below_alloc | apply pw_below_drewN | apply below_drew1) | exact HB.out)))); (case aL => have := LMc16.out; omega); intro v391 w23 ho hb hg hat; rw [← Ny390.out] at ho; have n0_ := Aside0.mk (Kd.V_afterv (ok := (fun k_ => ((P2_ k_ ∨ P3_ k_) ∨ w.heap.size ≤ k_) ∧ some k_ ≠ (v385 : Value).ownBlock)) (by (with_reducible repeat (first | apply Kd.V_alloc | apply Kd.V_drewN | apply Kd.V_drew)); exact HO_2.out) hg hat); have n1_ := Aside0.mk (Kd.V_afterv (ok := (fun k_ => ((P2_ k_ ∨ P3_ k_) ∨ w.heap.size ≤ k_) ∧ some k_ ≠ (v385 : Value).ownBlock)) (by (with_reducible repeat (first | apply Kd.V_alloc | apply Kd.V_drewN | apply Kd.V_drew)); exact HO_3.out) hg hat); have n2_ := Aside0.mk (Kd.R_over' (by (with_reducible repeat (first | apply Kd.R_alloc | apply Kd.R_drewN | apply Kd.R_drew)); exact HO386.out) (Kd.N_typed (by (with_reducible repeat (first | apply Kd.N_alloc | apply Kd.N_drewN | apply Kd.N_drew)); exact HO389.out)) (by decide) hg); have n3_ := Aside0.mk (hb); have n4_ := Aside0.mk (ho); clear HO_2; clear HO_3; clear HO386; clear HB; clear HO389; have HO_2 := n0_; have HO_3 := n1_; have HO386 := n2_; have HB := n3_; have HO392 := n4_; clear n0_ n1_ n2_ n3_ n4_; clear ho hb hg hat) | ((with_reducible refine gate_builtin (b := .append) (xs := #[.tmp 55, .tmp 57]) rfl ?_); (try (refine gate_guard (by rfl) ?_; dsimp only)); at_builtin; refine Kd.N_append (Kd.slice 3 (Kd.int .i64)) (w0 := w) w.heap.size rfl (.tmp 55) (.tmp 57) 22 23 (.slice none 0 0) 24 rfl Try.underlying22 info23 rfl (by decide) (by omega) v391 y390 l3 [.slice A3 l3.length c3] (fun k_ => ((P2_ k_ ∨ P3_ k_) ∨ w.heap.size ≤ k_) ∧ some k_ ≠ (v385 : Value).ownBlock) (fun k_ => ((fun k_ => ((P2_ k_ ∨ P3_ k_) ∨ w.heap.size ≤ k_) ∧ some k_ ≠ (v385 : Value).ownBlock)) k_ ∧ some k_ ≠ (v391 : Value).ownBlock) rfl rfl ?aP (fun _ hk => hk) ?aF ?aO ?aB ?aS ?aL ?_; (case aP => exact (Kd.FK_slice_mk (Kd.V_reads' (Kd.V_mono (ok' := (fun k_ => ((fun k_ => ((P2_ k_ ∨ P3_ k_) ∨ w.heap.size ≤ k_) ∧ some k_ ≠ (v385 : Value).ownBlock)) k_ ∧ some k_ ≠ (v391 : Value).ownBlock)) (HO_3.out) (fun k_ hk => ⟨⟨hk.1.1, hk.1.2⟩, hk.2⟩))).2.1 (Kd.V_F (Kd.V_mono (ok' := (fun k_ => ((fun k_ => ((P2_ k_ ∨ P3_ k_) ∨ w.heap.size ≤ k_) ∧ some k_ ≠ (v385 : Value).ownBlock)) k_ ∧ some k_ ≠ (v391 : Value).ownBlock)) (HO_3.out) (fun k_ hk => ⟨⟨hk.1.1, hk.1.2⟩, hk.2⟩))))); (case aB => exact (by repeat (first | (with_reducible first | exact HB.out | apply below_alloc | apply pw_below_drewN | apply below_drew1) | exact HB.out))); (case aF => exact (fun k_ hk => ⟨(.inr (Nat.le_trans (below_size (by repeat (first | (with_reducible first | exact HB.out | apply below_alloc | apply pw_below_drewN | apply below_drew1) | exact HB.out))) hk)), Kd.fresh' (Kd.R_lt (by (with_reducible repeat (first | apply Kd.R_alloc | apply Kd.R_drewN | apply Kd.R_drew)); exact HO386.out)) k_ hk⟩)); (case aO => exact (by (with_reducible repeat (first | apply Kd.N_alloc | apply Kd.N_drewN | apply Kd.N_drew)); exact HO392.out)); (case aS => exact (below_size (by repeat (first | (with_reducible first | exact HB.out | apply below_alloc | apply pw_below_drewN | apply below_drew1) | exact HB.out)))); (case aL => have := LMc17.out; omega); intro v394 w24 ho hb hg hat; rw [← Ny393.out] at ho; have n0_ := Aside0.mk (Kd.V_afterv (ok := (fun k_ => ((P2_ k_ ∨ P3_ k_) ∨ w.heap.size ≤ k_) ∧ some k_ ≠ (v385 : Value).ownBlock)) (by (with_reducible repeat (first | apply Kd.V_alloc | apply Kd.V_drewN | apply Kd.V_drew)); exact HO_2.out) hg hat); have n1_ := Aside0.mk (Kd.V_afterv (ok := (fun k_ => ((P2_ k_ ∨ P3_ k_) ∨ w.heap.size ≤ k_) ∧ some k_ ≠ (v385 : Value).ownBlock)) (by (with_reducible repeat (first | apply Kd.V_alloc | apply Kd.V_drewN | apply Kd.V_drew)); exact HO_3.out) hg hat); have n2_ := Aside0.mk (Kd.R_over' (by (with_reducible repeat (first | apply Kd.R_alloc | apply Kd.R_drewN | apply Kd.R_drew)); exact HO386.out) (Kd.N_typed (by (with_reducible repeat (first | apply Kd.N_alloc | apply Kd.N_drewN | apply Kd.N_drew)); exact HO392.out)) (by decide) hg); have n3_ := Aside0.mk (hb); have n4_ := Aside0.mk (ho); clear HO_2; clear HO_3; clear HO386; clear HB; clear HO392; have HO_2 := n0_; have HO_3 := n1_; have HO386 := n2_; have HB := n3_; have HO395 := n4_; clear n0_ n1_ n2_ n3_ n4_; clear ho hb hg hat; obtain ⟨Ao25, co25, eo25⟩ := Kd.N_slice HO395.out; subst eo25) | (go_at_call 14; (with_reducible refine (pivot_Table.calls kj4 a0 _ _ l1 _ _ y393 t396 t397 _ ?side1 ?side2 ?side3 ?side4 A18.out).mono ?_); (case side1 => repeat (first | exact (Kd.C_below HR1.out HB.out) | (with_reducible refine Kd.C_alloc ?_ _) | (with_reducible refine Kd.C_drewN ?_ _) | (with_reducible refine Kd.C_drew ?_))); (case side2 => exact HC1.out); (case side3 => repeat (first | exact (Kd.N_reads' HO395.out).2.2 | (with_reducible refine Kd.C_alloc ?_ _) | (with_reducible refine Kd.C_drewN ?_ _) | (with_reducible refine Kd.C_drew ?_))); (case side4 => exact (Kd.N_reads' HO395.out).2.1); rintro e w26 ⟨v398, rfl, ho0, hb⟩; have n0_ := Aside0.mk (Kd.V_elder' (by (with_reducible repeat (first | apply Kd.V_alloc | apply Kd.V_drewN | apply Kd.V_drew)); exact HO_2.out) (by first | exact Kd.N_base ho0 | exact Kd.N_base (Kd.S_N ho0)) hb); have n1_ := Aside0.mk (Kd.V_elder' (by (with_reducible repeat (first | apply Kd.V_alloc | apply Kd.V_drewN | apply Kd.V_drew)); exact HO_3.out) (by first | exact Kd.N_base ho0 | exact Kd.N_base (Kd.S_N ho0)) hb); have n2_ := Aside0.mk (Kd.R_below (by (with_reducible repeat (first | apply Kd.R_alloc | apply Kd.R_drewN | apply Kd.R_drew)); exact HO386.out) hb); have n3_ := Aside0.mk (Kd.N_elder' (by (with_reducible repeat (first | apply Kd.N_alloc | apply Kd.N_drewN | apply Kd.N_drew)); exact HO395.out) (by first | exact Kd.N_base ho0 | exact Kd.N_base (Kd.S_N ho0)) hb); have n4_ := Aside0.mk (Kd.N_lower (Kd.N_mono (ok' := fun k_ => ((P2_ k_ ∨ P3_ k_) ∨ w.heap.size ≤ k_) ∧ some k_ ≠ (v385 : Value).ownBlock ∧ some k_ ≠ (.slice Ao25 y393.length co25 : Value).ownBlock) (Kd.S_N (Kd.S_bound ho0)) (fun k_ hk_ => ⟨(.inr (Nat.le_trans (below_size (by repeat (first | (with_reducible first | exact HB.out | apply below_alloc | apply pw_below_drewN | apply below_drew1) | exact HB.out))) hk_.2.1)), (Kd.fresh' (Kd.R_lt (by (with_reducible repeat (first | apply Kd.R_alloc | apply Kd.R_drewN | apply Kd.R_drew)); exact HO386.out)) k_ hk_.2.1), (Kd.fresh' (Kd.N_lt (by (with_reducible repeat (first | apply Kd.N_alloc | apply Kd.N_drewN | apply Kd.N_drew)); exact HO395.out)) k_ hk_.2.1)⟩)) (below_size (by repeat (first | (with_reducible first | exact HB.out | apply below_alloc | apply pw_below_drewN | apply below_drew1) | exact HB.out)))); have n5_ := Aside0.mk (below_step (by repeat (first | (with_reducible first | exact HB.out | apply below_alloc | apply pw_below_drewN | apply below_drew1) | exact HB.out)) hb); clear HO_2; clear HO_3; clear HO386; clear HO395; clear HB; have HO_2 := n0_; have HO_3 := n1_; have HO386 := n2_; have HO395 := n3_; have HO399 := n4_; have HB := n5_; clear n0_ n1_ n2_ n3_ n4_ n5_; (try clear hb); (try clear hb2); (try clear hk); (try clear hi); (try clear ho0))); go_upto_region 5 with (first | (go_at_call 23; (with_reducible refine (pivot_Shells.calls a0 _ _ l1 _ _ l2 t383 t384 _ ?side1 ?side2 ?side3 ?side4 A15.out).mono ?_); (case side1 => repeat (first | exact (Kd.C_below HR1.out HB.out) | (with_reducible refine Kd.C_alloc ?_ _) | (with_reducible refine Kd.C_drewN ?_ _) | (with_reducible refine Kd.C_drew ?_))); (case side2 => exact HC1.out); (case side3 => repeat (first | exact (Kd.V_reads' HO_2.out).2.2 | (with_reducible refine Kd.C_alloc ?_ _) | (with_reducible refine Kd.C_drewN ?_ _) | (with_reducible refine Kd.C_drew ?_))); (case side4 => exact (Kd.V_reads' HO_2.out).2.1); rintro e w20 ⟨v385, rfl, ho0, hb⟩; have n0_ := Aside0.mk (Kd.V_elder' (by (with_reducible repeat (first | apply Kd.V_alloc | apply Kd.V_drewN | apply Kd.V_drew)); exact HO_2.out) (Kd.R_base ho0) hb); have n1_ := Aside0.mk (Kd.V_elder' (by (with_reducible repeat (first | apply Kd.V_alloc | apply Kd.V_drewN | apply Kd.V_drew)); exact HO_3.out) (Kd.R_base ho0) hb); have n2_ := Aside0.mk (Kd.R_lower (Kd.R_newM (M := fun k_ => (w.heap.size ≤ k_)) ho0 (below_size (by repeat (first | (with_reducible first | exact HB.out | apply below_alloc | apply pw_below_drewN | apply below_drew1) | exact HB.out))) (fun k_ h_ => h_)) (below_size (by repeat (first | (with_reducible first | exact HB.out | apply below_alloc | apply pw_below_drewN | apply below_drew1) | exact HB.out)))); have n3_ := Aside0.mk (below_step (by repeat (first | (with_reducible first | exact HB.out | apply below_alloc | apply pw_below_drewN | apply below_drew1) | exact HB.out)) hb); clear HO_2; clear HO_3; clear HB; have HO_2 := n0_; have HO_3 := n1_; have HO386 := n2_; have HB := n3_; clear n0_ n1_ n2_ n3_; (try clear hb); (try clear hb2); (try clear hk); (try clear hi); (try clear ho0)) | ((with_reducible refine gate_dst (N := 53) rfl ?_); (try (refine gate_guard (by rfl) ?_; dsimp only)); refine Kd.N_lit (Kd.slice 3 (Kd.int .i64)) _ 23 ?hg (N' := 53) ?hd (xs := ([] : List (List Int))) (inner := []) (ok := (fun k_ => ((P2_ k_ ∨ P3_ k_) ∨ w.heap.size ≤ k_) ∧ some k_ ≠ (v385 : Value).ownBlock)) (okp := (fun k_ => ((P2_ k_ ∨ P3_ k_) ∨ w.heap.size ≤ k_) ∧ some k_ ≠ (v385 : Value).ownBlock)) ?hr ?hp (fun _ hk => hk) ((show ∀ k_, w20.heap.size ≤ k_ → (fun k_ => ((P2_ k_ ∨ P3_ k_) ∨ w.heap.size ≤ k_) ∧ some k_ ≠ (v385 : Value).ownBlock) k_ from fun k_ hk => ⟨(.inr (Nat.le_trans (below_size (by repeat (first | (with_reducible first | exact HB.out | apply below_alloc | apply pw_below_drewN | apply below_drew1) | exact HB.out))) hk)), Kd.fresh' (Kd.R_lt (by (with_reducible repeat (first | apply Kd.R_alloc | apply Kd.R_drewN | apply Kd.R_drew)); exact HO386.out)) k_ hk⟩) _ (Nat.le_refl _)) (Below.refl _ _) (Nat.le_refl _) (by simp) ?_; (case hd => rfl); (case hg => rfl); (case hr => first | (go_simp; done) | (go_simp; rfl)); (case hp => exact (Reps.none _ _)); intro v388 w21 ho22 hb hg_ hnew_; clear hg_ hnew_; (first | rw [← Ny387.out] at ho22 | (simp only [Int.reduceToNat] at ho22; rw [← Ny387.out] at ho22)); have n0_ := Aside0.mk (Kd.V_elder' (by (with_reducible repeat (first | apply Kd.V_alloc | apply Kd.V_drewN | apply Kd.V_drew)); exact HO_2.out) (Kd.N_base ho22) hb); have n1_ := Aside0.mk (Kd.V_elder' (by (with_reducible repeat (first | apply Kd.V_alloc | apply Kd.V_drewN | apply Kd.V_drew)); exact HO_3.out) (Kd.N_base ho22) hb); have n2_ := Aside0.mk (Kd.R_below (by (with_reducible repeat (first | apply Kd.R_alloc | apply Kd.R_drewN | apply Kd.R_drew)); exact HO386.out) hb); have n3_ := Aside0.mk (Kd.N_lower ho22 (below_size (by repeat (first | (with_reducible first | exact HB.out | apply below_alloc | apply pw_below_drewN | apply below_drew1) | exact HB.out)))); have n4_ := Aside0.mk (below_step (by repeat (first | (with_reducible first | exact HB.out | apply below_alloc | apply pw_below_drewN | apply below_drew1) | exact HB.out)) hb); clear HO_2; clear HO_3; clear HO386; clear HB; have HO_2 := n0_; have HO_3 := n1_; have HO386 := n2_; have HO389 := n3_; have HB := n4_; clear n0_ n1_ n2_ n3_ n4_; clear hb ho22) | ((with_reducible refine gate_builtin (b := .append) (xs := #[.tmp 53, .tmp 54]) rfl ?_); (try (refine gate_guard (by rfl) ?_; dsimp only)); at_builtin; refine Kd.N_append_rows (Kd.slice 3 (Kd.int .i64)) (w0 := w) w.heap.size rfl (.tmp 53) (.tmp 54) 22 23 (.slice none 0 0) 24 rfl Try.underlying22 info23 rfl (by decide) (by omega) v388 y387 l2 _ _ _ (fun k_ => ((P2_ k_ ∨ P3_ k_) ∨ w.heap.size ≤ k_) ∧ some k_ ≠ (v385 : Value).ownBlock) (fun k_ => ((fun k_ => ((P2_ k_ ∨ P3_ k_) ∨ w.heap.size ≤ k_) ∧ some k_ ≠ (v385 : Value).ownBlock)) k_ ∧ some k_ ≠ (v388 : Value).ownBlock) rfl rfl ?aO ?aR (fun _ hk => hk) ?aF ?aB ?aS ?aL ?_; (case aR => exact (by skip; exact Kd.V_F (Kd.V_mono (ok' := (fun k_ => ((fun k_ => ((P2_ k_ ∨ P3_ k_) ∨ w.heap.size ≤ k_) ∧ some k_ ≠ (v385 : Value).ownBlock)) k_ ∧ some k_ ≠ (v388 : Value).ownBlock)) (HO_2.out) (fun k_ hk => ⟨⟨hk.1.1, hk.1.2⟩, hk.2⟩)))); (case aB => exact (by repeat (first | (with_reducible first | exact HB.out | apply below_alloc | apply pw_below_drewN | apply below_drew1) | exact HB.out))); (case aF => exact (fun k_ hk => ⟨(.inr (Nat.le_trans (below_size (by repeat (first | (with_reducible first | exact HB.out | apply below_alloc | apply pw_below_drewN | apply below_drew1) | exact HB.out))) hk)), Kd.fresh' (Kd.R_lt (by (with_reducible repeat (first | apply Kd.R_alloc | apply Kd.R_drewN | apply Kd.R_drew)); exact HO386.out)) k_ hk⟩)); (case aO => exact (by (with_reducible repeat (first | apply Kd.N_alloc | apply Kd.N_drewN | apply Kd.N_drew)); exact HO389.out)); (case aS => exact (below_size (by repeat (first | (with_reducible first | exact HB.out | apply below_alloc | apply pw_below_drewN | apply below_drew1) | exact HB.out)))); (case aL => have := LMc16.out; omega); intro v391 w23 ho hb hg hat; rw [← Ny390.out] at ho; have n0_ := Aside0.mk (Kd.V_afterv (ok := (fun k_ => ((P2_ k_ ∨ P3_ k_) ∨ w.heap.size ≤ k_) ∧ some k_ ≠ (v385 : Value).ownBlock)) (by (with_reducible repeat (first | apply Kd.V_alloc | apply Kd.V_drewN | apply Kd.V_drew)); exact HO_2.out) hg hat); have n1_ := Aside0.mk (Kd.V_afterv (ok := (fun k_ => ((P2_ k_ ∨ P3_ k_) ∨ w.heap.size ≤ k_) ∧ some k_ ≠ (v385 : Value).ownBlock)) (by (with_reducible repeat (first | apply Kd.V_alloc | apply Kd.V_drewN | apply Kd.V_drew)); exact HO_3.out) hg hat); have n2_ := Aside0.mk (Kd.R_over' (by (with_reducible repeat (first | apply Kd.R_alloc | apply Kd.R_drewN | apply Kd.R_drew)); exact HO386.out) (Kd.N_typed (by (with_reducible repeat (first | apply Kd.N_alloc | apply Kd.N_drewN | apply Kd.N_drew)); exact HO389.out)) (by decide) hg); have n3_ := Aside0.mk (hb); have n4_ := Aside0.mk (ho); clear HO_2; clear HO_3; clear HO386; clear HB; clear HO389; have HO_2 := n0_; have HO_3 := n1_; have HO386 := n2_; have HB := n3_; have HO392 := n4_; clear n0_ n1_ n2_ n3_ n4_; clear ho hb hg hat) | ((with_reducible refine gate_builtin (b := .append) (xs := #[.tmp 55, .tmp 57]) rfl ?_); (try (refine gate_guard (by rfl) ?_; dsimp only)); at_builtin; refine Kd.N_append (Kd.slice 3 (Kd.int .i64)) (w0 := w) w.heap.size rfl (.tmp 55) (.tmp 57) 22 23 (.slice none 0 0) 24 rfl Try.underlying22 info23 rfl (by decide) (by omega) v391 y390 l3 [.slice A3 l3.length c3] (fun k_ => ((P2_ k_ ∨ P3_ k_) ∨ w.heap.size ≤ k_) ∧ some k_ ≠ (v385 : Value).ownBlock) (fun k_ => ((fun k_ => ((P2_ k_ ∨ P3_ k_) ∨ w.heap.size ≤ k_) ∧ some k_ ≠ (v385 : Value).ownBlock)) k_ ∧ some k_ ≠ (v391 : Value).ownBlock) rfl rfl ?aP (fun _ hk => hk) ?aF ?aO ?aB ?aS ?aL ?_; (case aP => exact (Kd.FK_slice_mk (Kd.V_reads' (Kd.V_mono (ok' := (fun k_ => ((fun k_ => ((P2_ k_ ∨ P3_ k_) ∨ w.heap.size ≤ k_) ∧ some k_ ≠ (v385 : Value).ownBlock)) k_ ∧ some k_ ≠ (v391 : Value).ownBlock)) (HO_3.out) (fun k_ hk => ⟨⟨hk.1.1, hk.1.2⟩, hk.2⟩))).2.1 (Kd.V_F (Kd.V_mono (ok' := (fun k_ => ((fun k_ => ((P2_ k_ ∨ P3_ k_) ∨ w.heap.size ≤ k_) ∧ some k_ ≠ (v385 : Value).ownBlock)) k_ ∧ some k_ ≠ (v391 : Value).ownBlock)) (HO_3.out) (fun k_ hk => ⟨⟨hk.1.1, hk.1.2⟩, hk.2⟩))))); (case aB => exact (by repeat (first | (with_reducible first | exact HB.out | apply below_alloc | apply pw_below_drewN | apply below_drew1) | exact HB.out))); (case aF => exact (fun k_ hk => ⟨(.inr (Nat.le_trans (below_size (by repeat (first | (with_reducible first | exact HB.out | apply below_alloc | apply pw_below_drewN | apply below_drew1) | exact HB.out))) hk)), Kd.fresh' (Kd.R_lt (by (with_reducible repeat (first | apply Kd.R_alloc | apply Kd.R_drewN | apply Kd.R_drew)); exact HO386.out)) k_ hk⟩)); (case aO => exact (by (with_reducible repeat (first | apply Kd.N_alloc | apply Kd.N_drewN | apply Kd.N_drew)); exact HO392.out)); (case aS => exact (below_size (by repeat (first | (with_reducible first | exact HB.out | apply below_alloc | apply pw_below_drewN | apply below_drew1) | exact HB.out)))); (case aL => have := LMc17.out; omega); intro v394 w24 ho hb hg hat; rw [← Ny393.out] at ho; have n0_ := Aside0.mk (Kd.V_afterv (ok := (fun k_ => ((P2_ k_ ∨ P3_ k_) ∨ w.heap.size ≤ k_) ∧ some k_ ≠ (v385 : Value).ownBlock)) (by (with_reducible repeat (first | apply Kd.V_alloc | apply Kd.V_drewN | apply Kd.V_drew)); exact HO_2.out) hg hat); have n1_ := Aside0.mk (Kd.V_afterv (ok := (fun k_ => ((P2_ k_ ∨ P3_ k_) ∨ w.heap.size ≤ k_) ∧ some k_ ≠ (v385 : Value).ownBlock)) (by (with_reducible repeat (first | apply Kd.V_alloc | apply Kd.V_drewN | apply Kd.V_drew)); exact HO_3.out) hg hat); have n2_ := Aside0.mk (Kd.R_over' (by (with_reducible repeat (first | apply Kd.R_alloc | apply Kd.R_drewN | apply Kd.R_drew)); exact HO386.out) (Kd.N_typed (by (with_reducible repeat (first | apply Kd.N_alloc | apply Kd.N_drewN | apply Kd.N_drew)); exact HO392.out)) (by decide) hg); have n3_ := Aside0.mk (hb); have n4_ := Aside0.mk (ho); clear HO_2; clear HO_3; clear HO386; clear HB; clear HO392; have HO_2 := n0_; have HO_3 := n1_; have HO386 := n2_; have HB := n3_; have HO395 := n4_; clear n0_ n1_ n2_ n3_ n4_; clear ho hb hg hat; obtain ⟨Ao25, co25, eo25⟩ := Kd.N_slice HO395.out; subst eo25) | (go_at_call 14; (with_reducible refine (pivot_Table.calls kj4 a0 _ _ l1 _ _ y393 t396 t397 _ ?side1 ?side2 ?side3 ?side4 A18.out).mono ?_); (case side1 => repeat (first | exact (Kd.C_below HR1.out HB.out) | (with_reducible refine Kd.C_alloc ?_ _) | (with_reducible refine Kd.C_drewN ?_ _) | (with_reducible refine Kd.C_drew ?_))); (case side2 => exact HC1.out); (case side3 => repeat (first | exact (Kd.N_reads' HO395.out).2.2 | (with_reducible refine Kd.C_alloc ?_ _) | (with_reducible refine Kd.C_drewN ?_ _) | (with_reducible refine Kd.C_drew ?_))); (case side4 => exact (Kd.N_reads' HO395.out).2.1); rintro e w26 ⟨v398, rfl, ho0, hb⟩; have n0_ := Aside0.mk (Kd.V_elder' (by (with_reducible repeat (first | apply Kd.V_alloc | apply Kd.V_drewN | apply Kd.V_drew)); exact HO_2.out) (by first | exact Kd.N_base ho0 | exact Kd.N_base (Kd.S_N ho0)) hb); have n1_ := Aside0.mk (Kd.V_elder' (by (with_reducible repeat (first | apply Kd.V_alloc | apply Kd.V_drewN | apply Kd.V_drew)); exact HO_3.out) (by first | exact Kd.N_base ho0 | exact Kd.N_base (Kd.S_N ho0)) hb); have n2_ := Aside0.mk (Kd.R_below (by (with_reducible repeat (first | apply Kd.R_alloc | apply Kd.R_drewN | apply Kd.R_drew)); exact HO386.out) hb); have n3_ := Aside0.mk (Kd.N_elder' (by (with_reducible repeat (first | apply Kd.N_alloc | apply Kd.N_drewN | apply Kd.N_drew)); exact HO395.out) (by first | exact Kd.N_base ho0 | exact Kd.N_base (Kd.S_N ho0)) hb); have n4_ := Aside0.mk (Kd.N_lower (Kd.N_mono (ok' := fun k_ => ((P2_ k_ ∨ P3_ k_) ∨ w.heap.size ≤ k_) ∧ some k_ ≠ (v385 : Value).ownBlock ∧ some k_ ≠ (.slice Ao25 y393.length co25 : Value).ownBlock) (Kd.S_N (Kd.S_bound ho0)) (fun k_ hk_ => ⟨(.inr (Nat.le_trans (below_size (by repeat (first | (with_reducible first | exact HB.out | apply below_alloc | apply pw_below_drewN | apply below_drew1) | exact HB.out))) hk_.2.1)), (Kd.fresh' (Kd.R_lt (by (with_reducible repeat (first | apply Kd.R_alloc | apply Kd.R_drewN | apply Kd.R_drew)); exact HO386.out)) k_ hk_.2.1), (Kd.fresh' (Kd.N_lt (by (with_reducible repeat (first | apply Kd.N_alloc | apply Kd.N_drewN | apply Kd.N_drew)); exact HO395.out)) k_ hk_.2.1)⟩)) (below_size (by repeat (first | (with_reducible first | exact HB.out | apply below_alloc | apply pw_below_drewN | apply below_drew1) | exact HB.out)))); have n5_ := Aside0.mk (below_step (by repeat (first | (with_reducible first | exact HB.out | apply below_alloc | apply pw_below_drewN | apply below_drew1) | exact HB.out)) hb); clear HO_2; clear HO_3; clear HO386; clear HO395; clear HB; have HO_2 := n0_; have HO_3 := n1_; have HO386 := n2_; have HO395 := n3_; have HO399 := n4_; have HB := n5_; clear n0_ n1_ n2_ n3_ n4_ n5_; (try clear hb); (try clear hb2); (try clear hk); (try clear hi); (try clear ho0))))
            (try simp only [Act.put, List.setIfInBounds_toArray, List.set_cons_zero, List.set_cons_succ])
            go_cut [87] (fun v87 wc => ∃ (kq : Nat) (x87_18 : Bool), v87 = .bool x87_18 ∧ Aside0 (antiquarylaw09_PivotBoundsHold.j1 kq a0 l2 l3 t383 t396 x87_18 = some r) ∧ Aside0 (kq ≤ kj4) ∧ Aside0 (Kd.V (Kd.slice 3 (Kd.int .i64)) 23 wc w.heap.size (fun k_ => ((P2_ k_ ∨ P3_ k_) ∨ w.heap.size ≤ k_) ∧ some k_ ≠ (v385 : Value).ownBlock ∧ some k_ ≠ (v398 : Value).ownBlock) (.slice A2 l2.length c2) l2) ∧ Aside0 (Kd.V (Kd.int .i64) 3 wc w.heap.size (fun k_ => ((P2_ k_ ∨ P3_ k_) ∨ w.heap.size ≤ k_) ∧ some k_ ≠ (v385 : Value).ownBlock ∧ some k_ ≠ (v398 : Value).ownBlock) (.slice A3 l3.length c3) l3) ∧ Aside0 (Kd.R k57 57 wc w.heap.size (fun k_ => (w.heap.size ≤ k_)) v385 t383) ∧ Aside0 (Kd.N (Kd.slice 3 (Kd.int .i64)) 23 wc w.heap.size (fun k_ => ((P2_ k_ ∨ P3_ k_) ∨ w.heap.size ≤ k_) ∧ some k_ ≠ (v385 : Value).ownBlock) v398 t396) ∧ Aside0 (Below w.heap.size w wc))
            case first =>
              have H := HC19.out
              clear HC19
              by_cases c27 : t384 = 0
              · rw [if_pos c27] at H
                have c27b0 : (t384 == 0) = true := beq_iff_eq.mpr c27
                have c27b1 : (t384 != 0) = false := bne_eq_false_iff_eq.mpr c27
                clear c27
                (first | rw [c27b0] | (simp only [i64_w, i32_w]; rw [c27b0]) | skip)
                by_cases c28 : t397 = 0
                · rw [if_pos c28] at H
                  have c28b0 : (t397 == 0) = true := beq_iff_eq.mpr c28
                  have c28b1 : (t397 != 0) = false := bne_eq_false_iff_eq.mpr c28
                  clear c28
                  by_cases c29 : (t396.length : Int) = (wrap64 ((l2.length : Int) + 1))
                  · rw [if_pos c29] at H
                    have c29b0 : ((t396.length : Int) == (wrap64 ((l2.length : Int) + 1))) = true := beq_iff_eq.mpr c29
                    have c29b1 : ((t396.length : Int) != (wrap64 ((l2.length : Int) + 1))) = false := bne_eq_false_iff_eq.mpr c29
                    clear c29
                    replace H := Option.bind_eq_some_iff.mp H
                    obtain ⟨t400, A300, H⟩ := H
                    replace H : (if t400 = true then (antiquarylaw09_PivotBoundsHold.j1 kj4 a0 l2 l3 t383 t396 ((t383.length : Int) != (l1.length : Int))) else (antiquarylaw09_PivotBoundsHold.j1 kj4 a0 l2 l3 t383 t396 true)) = some r := H
                    have A30 := Aside0.mk A300
                    clear A300
                    by_cases c31 : t400 = true
                    · subst c31
                      have H1 : (antiquarylaw09_PivotBoundsHold.j1 kj4 a0 l2 l3 t383 t396 ((t383.length : Int) != (l1.length : Int))) = some r := by rw [if_pos rfl] at H; exact H
                      clear H
                      have H := H1
                      clear H1
                      have H' := Aside0.mk H
                      clear H
                      obtain ⟨Ao32, co32, eo32⟩ := Kd.N_slice HO399.out
                      subst eo32
                      obtain ⟨Ao33, co33, eo33⟩ := Kd.R_slice HO386.out
                      subst eo33
                      go_wp2_with (first | (go_at_call 24; (with_reducible refine (pivot_Valid.calls kj4 _ _ t383 true _ ?side1 ?side2 A30.out).mono ?_); (case side1 => repeat (first | exact (Kd.R_reads' HO386.out).2.2 | (with_reducible refine Kd.C_alloc ?_ _) | (with_reducible refine Kd.C_drewN ?_ _) | (with_reducible refine Kd.C_drew ?_))); (case side2 => exact (Kd.R_reads' HO386.out).2.1); rintro e w34 ⟨rfl, hb⟩; have n0_ := Aside0.mk (Kd.V_below (by (with_reducible repeat (first | apply Kd.V_alloc | apply Kd.V_drewN | apply Kd.V_drew)); exact HO_2.out) hb); have n1_ := Aside0.mk (Kd.V_below (by (with_reducible repeat (first | apply Kd.V_alloc | apply Kd.V_drewN | apply Kd.V_drew)); exact HO_3.out) hb); have n2_ := Aside0.mk (Kd.R_below (by (with_reducible repeat (first | apply Kd.R_alloc | apply Kd.R_drewN | apply Kd.R_drew)); exact HO386.out) hb); have n3_ := Aside0.mk (Kd.N_below (by (with_reducible repeat (first | apply Kd.N_alloc | apply Kd.N_drewN | apply Kd.N_drew)); exact HO395.out) hb); have n4_ := Aside0.mk (Kd.N_below (by (with_reducible repeat (first | apply Kd.N_alloc | apply Kd.N_drewN | apply Kd.N_drew)); exact HO399.out) hb); have n5_ := Aside0.mk (below_step (by repeat (first | (with_reducible first | exact HB.out | apply below_alloc | apply pw_below_drewN | apply below_drew1) | exact HB.out)) hb); clear HO_2; clear HO_3; clear HO386; clear HO395; clear HO399; clear HB; have HO_2 := n0_; have HO_3 := n1_; have HO386 := n2_; have HO395 := n3_; have HO399 := n4_; have HB := n5_; clear n0_ n1_ n2_ n3_ n4_ n5_; (try clear hb); (try clear hb2); (try clear hk); (try clear hi)))
                      repeat (go_quiet (first | (go_at_call 24; (with_reducible refine (pivot_Valid.calls kj4 _ _ t383 true _ ?side1 ?side2 A30.out).mono ?_); (case side1 => repeat (first | exact (Kd.R_reads' HO386.out).2.2 | (with_reducible refine Kd.C_alloc ?_ _) | (with_reducible refine Kd.C_drewN ?_ _) | (with_reducible refine Kd.C_drew ?_))); (case side2 => exact (Kd.R_reads' HO386.out).2.1); rintro e w34 ⟨rfl, hb⟩; have n0_ := Aside0.mk (Kd.V_below (by (with_reducible repeat (first | apply Kd.V_alloc | apply Kd.V_drewN | apply Kd.V_drew)); exact HO_2.out) hb); have n1_ := Aside0.mk (Kd.V_below (by (with_reducible repeat (first | apply Kd.V_alloc | apply Kd.V_drewN | apply Kd.V_drew)); exact HO_3.out) hb); have n2_ := Aside0.mk (Kd.R_below (by (with_reducible repeat (first | apply Kd.R_alloc | apply Kd.R_drewN | apply Kd.R_drew)); exact HO386.out) hb); have n3_ := Aside0.mk (Kd.N_below (by (with_reducible repeat (first | apply Kd.N_alloc | apply Kd.N_drewN | apply Kd.N_drew)); exact HO395.out) hb); have n4_ := Aside0.mk (Kd.N_below (by (with_reducible repeat (first | apply Kd.N_alloc | apply Kd.N_drewN | apply Kd.N_drew)); exact HO399.out) hb); have n5_ := Aside0.mk (below_step (by repeat (first | (with_reducible first | exact HB.out | apply below_alloc | apply pw_below_drewN | apply below_drew1) | exact HB.out)) hb); clear HO_2; clear HO_3; clear HO386; clear HO395; clear HO399; clear HB; have HO_2 := n0_; have HO_3 := n1_; have HO386 := n2_; have HO395 := n3_; have HO399 := n4_; have HB := n5_; clear n0_ n1_ n2_ n3_ n4_ n5_; (try clear hb); (try clear hb2); (try clear hk); (try clear hi))); try go_wp2_with (first | (go_at_call 24; (with_reducible refine (pivot_Valid.calls kj4 _ _ t383 true _ ?side1 ?side2 A30.out).mono ?_); (case side1 => repeat (first | exact (Kd.R_reads' HO386.out).2.2 | (with_reducible refine Kd.C_alloc ?_ _) | (with_reducible refine Kd.C_drewN ?_ _) | (with_reducible refine Kd.C_drew ?_))); (case side2 => exact (Kd.R_reads' HO386.out).2.1); rintro e w34 ⟨rfl, hb⟩; have n0_ := Aside0.mk (Kd.V_below (by (with_reducible repeat (first | apply Kd.V_alloc | apply Kd.V_drewN | apply Kd.V_drew)); exact HO_2.out) hb); have n1_ := Aside0.mk (Kd.V_below (by (with_reducible repeat (first | apply Kd.V_alloc | apply Kd.V_drewN | apply Kd.V_drew)); exact HO_3.out) hb); have n2_ := Aside0.mk (Kd.R_below (by (with_reducible repeat (first | apply Kd.R_alloc | apply Kd.R_drewN | apply Kd.R_drew)); exact HO386.out) hb); have n3_ := Aside0.mk (Kd.N_below (by (with_reducible repeat (first | apply Kd.N_alloc | apply Kd.N_drewN | apply Kd.N_drew)); exact HO395.out) hb); have n4_ := Aside0.mk (Kd.N_below (by (with_reducible repeat (first | apply Kd.N_alloc | apply Kd.N_drewN | apply Kd.N_drew)); exact HO399.out) hb); have n5_ := Aside0.mk (below_step (by repeat (first | (with_reducible first | exact HB.out | apply below_alloc | apply pw_below_drewN | apply below_drew1) | exact HB.out)) hb); clear HO_2; clear HO_3; clear HO386; clear HO395; clear HO399; clear HB; have HO_2 := n0_; have HO_3 := n1_; have HO386 := n2_; have HO395 := n3_; have HO399 := n4_; have HB := n5_; clear n0_ n1_ n2_ n3_ n4_ n5_; (try clear hb); (try clear hb2); (try clear hk); (try clear hi))))
                      go_meet
                      case rel => exact ⟨_, (((t383.length : Int) != (l1.length : Int))), (by first | rfl | (simp; done) | (simp [*]; done)), H', ⟨by have := HJ4.out; first | omega | exact Nat.le_refl _⟩, ⟨by (with_reducible repeat (first | apply Kd.V_alloc | apply Kd.V_drewN | apply Kd.V_drew)); exact Kd.V_mono HO_2.out (fun _ hk => ⟨hk.1.1.1, ⟨hk.1.1.2, hk.2⟩⟩)⟩, ⟨by (with_reducible repeat (first | apply Kd.V_alloc | apply Kd.V_drewN | apply Kd.V_drew)); exact Kd.V_mono HO_3.out (fun _ hk => ⟨hk.1.1.1, ⟨hk.1.1.2, hk.2⟩⟩)⟩, ⟨by (with_reducible repeat (first | apply Kd.R_alloc | apply Kd.R_drewN | apply Kd.R_drew)); exact Kd.R_mono HO386.out (fun _ hk => hk.1)⟩, ⟨by (with_reducible repeat (first | apply Kd.N_alloc | apply Kd.N_drewN | apply Kd.N_drew)); exact Kd.N_mono HO399.out (fun _ hk => ⟨hk.1, hk.2.1⟩)⟩, ⟨by repeat (first | (with_reducible first | exact HB.out | apply below_alloc | apply pw_below_drewN | apply below_drew1) | exact HB.out)⟩⟩
                    · replace c31 := Bool.eq_false_iff.mpr c31
                      subst c31
                      have H1 : (antiquarylaw09_PivotBoundsHold.j1 kj4 a0 l2 l3 t383 t396 true) = some r := by rw [if_neg (show ¬ (false = true) by decide)] at H; exact H
                      clear H
                      have H := H1
                      clear H1
                      exact absurd (H.trans (congrArg some HT.out)) (antiquarylaw09_PivotBoundsHold.j1_no _)
                  · rw [if_neg c29] at H
                    have c29b0 : ((t396.length : Int) == (wrap64 ((l2.length : Int) + 1))) = false := beq_eq_false_iff_ne.mpr c29
                    have c29b1 : ((t396.length : Int) != (wrap64 ((l2.length : Int) + 1))) = true := bne_iff_ne.mpr c29
                    exact absurd (H.trans (congrArg some HT.out)) (antiquarylaw09_PivotBoundsHold.j1_no _)
                · rw [if_neg c28] at H
                  have c28b0 : (t397 == 0) = false := beq_eq_false_iff_ne.mpr c28
                  have c28b1 : (t397 != 0) = true := bne_iff_ne.mpr c28
                  exact absurd (H.trans (congrArg some HT.out)) (antiquarylaw09_PivotBoundsHold.j1_no _)
              · rw [if_neg c27] at H
                have c27b0 : (t384 == 0) = false := beq_eq_false_iff_ne.mpr c27
                have c27b1 : (t384 != 0) = true := bne_iff_ne.mpr c27
                (first | rw [c27b0] | (simp only [i64_w, i32_w]; rw [c27b0]) | skip)
                exact absurd (H.trans (congrArg some HT.out)) (antiquarylaw09_PivotBoundsHold.j1_no _)
            case rest =>
              clear HC19
              try clear c1
              try clear c2
              try clear p2
              try clear c3
              try clear p3
              try clear q3
              try clear hx3
              try clear qi3
              try clear c4
              try clear p6
              try clear c7
              try clear c9
              try clear c10
              try clear c10b0
              try clear c10b1
              try clear c12
              try clear c16
              try clear c17
              try clear c27
              try clear c27b0
              try clear c27b1
              try clear c28
              try clear c28b0
              try clear c28b1
              try clear c29
              try clear c29b0
              try clear c29b1
              try clear c31
              try clear c38
              try clear p38
              try clear q38
              try clear hx38
              try clear qi38
              try clear hx380_0
              try clear p2
              try clear p3
              try clear p380
              try clear q3
              try clear q380
              obtain ⟨kq, x87_18, rfl, HA, HJ18, HO_2, HO_3, HO_9, HO_11, HB⟩ := hcut
              cases kq with
              | zero => exact absurd HA.out (by simp [antiquarylaw09_PivotBoundsHold.j1])
              | succ kj18 =>
                have H := HA.out
                clear HA
                simp only [antiquarylaw09_PivotBoundsHold.j1] at H
                by_cases c39 : x87_18 = true
                · subst c39
                  have H1 : (some false) = some r := by rw [if_pos rfl] at H; exact H
                  clear H
                  have H := H1
                  clear H1
                  exact absurd (Option.some.inj H) (by rw [HT.out]; decide)
                · replace c39 := Bool.eq_false_iff.mpr c39
                  subst c39
                  have H1 : (if 0 ≤ (l2.length : Int) then (if (l2.length : Int) < (t396.length : Int) then ((pivot_Low.f a0 t383 (rd_L1 t396 (l2.length : Int))).bind fun bt402 => ((pivot_High.f a0 t383 (rd_L1 t396 (l2.length : Int))).bind fun bt404 => (if bt402.2 = 0 then (antiquarylaw09_PivotBoundsHold.j2 kj18 a0 l2 l3 t383 t396 bt402.1 bt404.1 (bt404.2 != 0)) else (antiquarylaw09_PivotBoundsHold.j2 kj18 a0 l2 l3 t383 t396 bt402.1 bt404.1 true)))) else (none)) else (none)) = some r := by rw [if_neg (show ¬ (false = true) by decide)] at H; exact H
                  clear H
                  have H := H1
                  clear H1
                  by_cases c40 : 0 ≤ (l2.length : Int)
                  · rw [if_pos c40] at H
                    have c40b0 : decide (0 ≤ (l2.length : Int)) = true := decide_eq_true c40
                    have c40b1 : decide (0 ≤ l2.length) = true := decide_eq_true (by omega)
                    clear c40
                    by_cases c41 : (l2.length : Int) < (t396.length : Int)
                    · rw [if_pos c41] at H
                      have c41b0 : decide ((l2.length : Int) < (t396.length : Int)) = true := decide_eq_true c41
                      have c41b1 : decide (l2.length < t396.length) = true := decide_eq_true (Int.ofNat_lt.mp c41)
                      clear c41
                      replace H := Option.bind_eq_some_iff.mp H
                      obtain ⟨⟨t402, t403⟩, A420, H⟩ := H
                      replace H : ((pivot_High.f a0 t383 (rd_L1 t396 (l2.length : Int))).bind fun bt404 => (if t403 = 0 then (antiquarylaw09_PivotBoundsHold.j2 kj18 a0 l2 l3 t383 t396 t402 bt404.1 (bt404.2 != 0)) else (antiquarylaw09_PivotBoundsHold.j2 kj18 a0 l2 l3 t383 t396 t402 bt404.1 true))) = some r := H
                      have A42 := Aside0.mk A420
                      clear A420
                      replace H := Option.bind_eq_some_iff.mp H
                      obtain ⟨⟨t404, t405⟩, A430, H⟩ := H
                      replace H : (if t403 = 0 then (antiquarylaw09_PivotBoundsHold.j2 kj18 a0 l2 l3 t383 t396 t402 t404 (t405 != 0)) else (antiquarylaw09_PivotBoundsHold.j2 kj18 a0 l2 l3 t383 t396 t402 t404 true)) = some r := H
                      have A43 := Aside0.mk A430
                      clear A430
                      have HC44 := Aside0.mk H
                      clear H
                      obtain ⟨Ao45, co45, eo45⟩ := Kd.N_slice HO_11.out
                      subst eo45
                      have p401 : 0 ≤ ((l2.length : Int) : Int) := of_decide_eq_true (by first | (with_reducible assumption) | assumption)
                      have q401 : (l2.length : Int) < (t396.length : Int) := of_decide_eq_true (by first | (with_reducible assumption) | assumption)
                      obtain ⟨ad401, A401_0, c401_0, e401, hx401_0, hl401_0, hi401_0⟩ := at_L1 (Kd.N_reads' HO_11.out).2.2 (l2.length : Int) p401 q401
                      cases e401
                      obtain ⟨ce401, hce401, hMe401, hcc401⟩ := Kd.N_get HO_11.out [] (l2.length : Int) p401 (by first | exact q401 | exact of_decide_eq_true (by first | (with_reducible assumption) | assumption) | (have e_ := (Kd.N_reads' HO_11.out).1; omega))
                      obtain ⟨ua401_0, uc401_0, rfl, ul401_0, ge401_0⟩ := Kd.FK_slice_open hMe401
                      have hv401_0 := hcc401 0 _ rfl
                      rw [Nat.add_zero, show ((Kd.slice 3 (Kd.int .i64))).sz = 1 from rfl, Nat.mul_one] at hv401_0
                      replace hv401_0 := Option.some.inj (hv401_0.symm.trans hx401_0)
                      injection hv401_0 with hva_ hvn_ hvc_
                      rw [hva_] at ge401_0
                      rw [hvc_] at ul401_0
                      have HL401_0 := Aside0.mk (show Kd.V (Kd.int .i64) 3 _ w.heap.size _ _ (rd_L1 t396 (l2.length : Int)) from Kd.V_mk ul401_0 ge401_0)
                      clear hva_ hvn_ hvc_ ge401_0 ul401_0
                      clear hcc401 hce401
                      have HR401_0 := Aside0.mk hi401_0
                      have HC401_0 := Aside0.mk hl401_0
                      clear hi401_0 hl401_0
                      (try simp only [Go.IntWalk.toNatUp] at hx401_0)
                      replace p401 := eq_true p401
                      replace q401 := eq_true q401
                      obtain ⟨Ao46, co46, eo46⟩ := Kd.R_slice HO_9.out
                      subst eo46
                      go_upto_region 10 with (first | (go_at_call 25; (with_reducible refine (pivot_Low.calls a0 _ _ t383 _ _ (rd_L1 t396 (l2.length : Int)) t402 t403 _ ?side1 ?side2 ?side3 ?side4 A42.out).mono ?_); (case side1 => repeat (first | exact (Kd.R_reads' HO_9.out).2.2 | (with_reducible refine Kd.C_alloc ?_ _) | (with_reducible refine Kd.C_drewN ?_ _) | (with_reducible refine Kd.C_drew ?_))); (case side2 => exact (Kd.R_reads' HO_9.out).2.1); (case side3 => repeat (first | exact (by repeat (first | (with_reducible exact HR401_0.out) | (with_reducible refine Kd.C_alloc ?_ _) | (with_reducible refine Kd.C_drewN ?_ _) | (with_reducible refine Kd.C_drew ?_) | exact HR401_0.out)) | (with_reducible refine Kd.C_alloc ?_ _) | (with_reducible refine Kd.C_drewN ?_ _) | (with_reducible refine Kd.C_drew ?_))); (case side4 => exact HC401_0.out); rintro e w47 ⟨rfl, hb⟩; have n0_ := Aside0.mk (Kd.V_below (by (with_reducible repeat (first | apply Kd.V_alloc | apply Kd.V_drewN | apply Kd.V_drew)); exact HO_2.out) hb); have n1_ := Aside0.mk (Kd.V_below (by (with_reducible repeat (first | apply Kd.V_alloc | apply Kd.V_drewN | apply Kd.V_drew)); exact HO_3.out) hb); have n2_ := Aside0.mk (Kd.R_below (by (with_reducible repeat (first | apply Kd.R_alloc | apply Kd.R_drewN | apply Kd.R_drew)); exact HO_9.out) hb); have n3_ := Aside0.mk (Kd.N_below (by (with_reducible repeat (first | apply Kd.N_alloc | apply Kd.N_drewN | apply Kd.N_drew)); exact HO_11.out) hb); have n4_ := Aside0.mk (Kd.V_below (by (with_reducible repeat (first | apply Kd.V_alloc | apply Kd.V_drewN | apply Kd.V_drew)); exact HL401_0.out) hb); have n5_ := Aside0.mk (Kd.C_below (by repeat (first | (with_reducible exact HR401_0.out) | (with_reducible refine Kd.C_alloc ?_ _) | (with_reducible refine Kd.C_drewN ?_ _) | (with_reducible refine Kd.C_drew ?_) | exact HR401_0.out)) hb); have n6_ := Aside0.mk (below_step (by repeat (first | (with_reducible first | exact HB.out | apply below_alloc | apply pw_below_drewN | apply below_drew1) | exact HB.out)) hb); clear HO_2; clear HO_3; clear HO_9; clear HO_11; clear HL401_0; clear HR401_0; clear HB; have HO_2 := n0_; have HO_3 := n1_; have HO_9 := n2_; have HO_11 := n3_; have HL401_0 := n4_; have HR401_0 := n5_; have HB := n6_; clear n0_ n1_ n2_ n3_ n4_ n5_ n6_; (try clear hb); (try clear hb2); (try clear hk); (try clear hi)) | (go_at_call 26; (with_reducible refine (pivot_High.calls a0 _ _ t383 _ _ (rd_L1 t396 (l2.length : Int)) t404 t405 _ ?side1 ?side2 ?side3 ?side4 A43.out).mono ?_); (case side1 => repeat (first | exact (Kd.R_reads' HO_9.out).2.2 | (with_reducible refine Kd.C_alloc ?_ _) | (with_reducible refine Kd.C_drewN ?_ _) | (with_reducible refine Kd.C_drew ?_))); (case side2 => exact (Kd.R_reads' HO_9.out).2.1); (case side3 => repeat (first | exact (by repeat (first | (with_reducible exact HR401_0.out) | (with_reducible refine Kd.C_alloc ?_ _) | (with_reducible refine Kd.C_drewN ?_ _) | (with_reducible refine Kd.C_drew ?_) | exact HR401_0.out)) | (with_reducible refine Kd.C_alloc ?_ _) | (with_reducible refine Kd.C_drewN ?_ _) | (with_reducible refine Kd.C_drew ?_))); (case side4 => exact HC401_0.out); rintro e w48 ⟨rfl, hb⟩; have n0_ := Aside0.mk (Kd.V_below (by (with_reducible repeat (first | apply Kd.V_alloc | apply Kd.V_drewN | apply Kd.V_drew)); exact HO_2.out) hb); have n1_ := Aside0.mk (Kd.V_below (by (with_reducible repeat (first | apply Kd.V_alloc | apply Kd.V_drewN | apply Kd.V_drew)); exact HO_3.out) hb); have n2_ := Aside0.mk (Kd.R_below (by (with_reducible repeat (first | apply Kd.R_alloc | apply Kd.R_drewN | apply Kd.R_drew)); exact HO_9.out) hb); have n3_ := Aside0.mk (Kd.N_below (by (with_reducible repeat (first | apply Kd.N_alloc | apply Kd.N_drewN | apply Kd.N_drew)); exact HO_11.out) hb); have n4_ := Aside0.mk (Kd.V_below (by (with_reducible repeat (first | apply Kd.V_alloc | apply Kd.V_drewN | apply Kd.V_drew)); exact HL401_0.out) hb); have n5_ := Aside0.mk (Kd.C_below (by repeat (first | (with_reducible exact HR401_0.out) | (with_reducible refine Kd.C_alloc ?_ _) | (with_reducible refine Kd.C_drewN ?_ _) | (with_reducible refine Kd.C_drew ?_) | exact HR401_0.out)) hb); have n6_ := Aside0.mk (below_step (by repeat (first | (with_reducible first | exact HB.out | apply below_alloc | apply pw_below_drewN | apply below_drew1) | exact HB.out)) hb); clear HO_2; clear HO_3; clear HO_9; clear HO_11; clear HL401_0; clear HR401_0; clear HB; have HO_2 := n0_; have HO_3 := n1_; have HO_9 := n2_; have HO_11 := n3_; have HL401_0 := n4_; have HR401_0 := n5_; have HB := n6_; clear n0_ n1_ n2_ n3_ n4_ n5_ n6_; (try clear hb); (try clear hb2); (try clear hk); (try clear hi)))
                      repeat (go_quiet (first | (go_at_call 25; (with_reducible refine (pivot_Low.calls a0 _ _ t383 _ _ (rd_L1 t396 (l2.length : Int)) t402 t403 _ ?side1 ?side2 ?side3 ?side4 A42.out).mono ?_); (case side1 => repeat (first | exact (Kd.R_reads' HO_9.out).2.2 | (with_reducible refine Kd.C_alloc ?_ _) | (with_reducible refine Kd.C_drewN ?_ _) | (with_reducible refine Kd.C_drew ?_))); (case side2 => exact (Kd.R_reads' HO_9.out).2.1); (case side3 => repeat (first | exact (by repeat (first | (with_reducible exact HR401_0.out) | (with_reducible refine Kd.C_alloc ?_ _) | (with_reducible refine Kd.C_drewN ?_ _) | (with_reducible refine Kd.C_drew ?_) | exact HR401_0.out)) | (with_reducible refine Kd.C_alloc ?_ _) | (with_reducible refine Kd.C_drewN ?_ _) | (with_reducible refine Kd.C_drew ?_))); (case side4 => exact HC401_0.out); rintro e w47 ⟨rfl, hb⟩; have n0_ := Aside0.mk (Kd.V_below (by (with_reducible repeat (first | apply Kd.V_alloc | apply Kd.V_drewN | apply Kd.V_drew)); exact HO_2.out) hb); have n1_ := Aside0.mk (Kd.V_below (by (with_reducible repeat (first | apply Kd.V_alloc | apply Kd.V_drewN | apply Kd.V_drew)); exact HO_3.out) hb); have n2_ := Aside0.mk (Kd.R_below (by (with_reducible repeat (first | apply Kd.R_alloc | apply Kd.R_drewN | apply Kd.R_drew)); exact HO_9.out) hb); have n3_ := Aside0.mk (Kd.N_below (by (with_reducible repeat (first | apply Kd.N_alloc | apply Kd.N_drewN | apply Kd.N_drew)); exact HO_11.out) hb); have n4_ := Aside0.mk (Kd.V_below (by (with_reducible repeat (first | apply Kd.V_alloc | apply Kd.V_drewN | apply Kd.V_drew)); exact HL401_0.out) hb); have n5_ := Aside0.mk (Kd.C_below (by repeat (first | (with_reducible exact HR401_0.out) | (with_reducible refine Kd.C_alloc ?_ _) | (with_reducible refine Kd.C_drewN ?_ _) | (with_reducible refine Kd.C_drew ?_) | exact HR401_0.out)) hb); have n6_ := Aside0.mk (below_step (by repeat (first | (with_reducible first | exact HB.out | apply below_alloc | apply pw_below_drewN | apply below_drew1) | exact HB.out)) hb); clear HO_2; clear HO_3; clear HO_9; clear HO_11; clear HL401_0; clear HR401_0; clear HB; have HO_2 := n0_; have HO_3 := n1_; have HO_9 := n2_; have HO_11 := n3_; have HL401_0 := n4_; have HR401_0 := n5_; have HB := n6_; clear n0_ n1_ n2_ n3_ n4_ n5_ n6_; (try clear hb); (try clear hb2); (try clear hk); (try clear hi)) | (go_at_call 26; (with_reducible refine (pivot_High.calls a0 _ _ t383 _ _ (rd_L1 t396 (l2.length : Int)) t404 t405 _ ?side1 ?side2 ?side3 ?side4 A43.out).mono ?_); (case side1 => repeat (first | exact (Kd.R_reads' HO_9.out).2.2 | (with_reducible refine Kd.C_alloc ?_ _) | (with_reducible refine Kd.C_drewN ?_ _) | (with_reducible refine Kd.C_drew ?_))); (case side2 => exact (Kd.R_reads' HO_9.out).2.1); (case side3 => repeat (first | exact (by repeat (first | (with_reducible exact HR401_0.out) | (with_reducible refine Kd.C_alloc ?_ _) | (with_reducible refine Kd.C_drewN ?_ _) | (with_reducible refine Kd.C_drew ?_) | exact HR401_0.out)) | (with_reducible refine Kd.C_alloc ?_ _) | (with_reducible refine Kd.C_drewN ?_ _) | (with_reducible refine Kd.C_drew ?_))); (case side4 => exact HC401_0.out); rintro e w48 ⟨rfl, hb⟩; have n0_ := Aside0.mk (Kd.V_below (by (with_reducible repeat (first | apply Kd.V_alloc | apply Kd.V_drewN | apply Kd.V_drew)); exact HO_2.out) hb); have n1_ := Aside0.mk (Kd.V_below (by (with_reducible repeat (first | apply Kd.V_alloc | apply Kd.V_drewN | apply Kd.V_drew)); exact HO_3.out) hb); have n2_ := Aside0.mk (Kd.R_below (by (with_reducible repeat (first | apply Kd.R_alloc | apply Kd.R_drewN | apply Kd.R_drew)); exact HO_9.out) hb); have n3_ := Aside0.mk (Kd.N_below (by (with_reducible repeat (first | apply Kd.N_alloc | apply Kd.N_drewN | apply Kd.N_drew)); exact HO_11.out) hb); have n4_ := Aside0.mk (Kd.V_below (by (with_reducible repeat (first | apply Kd.V_alloc | apply Kd.V_drewN | apply Kd.V_drew)); exact HL401_0.out) hb); have n5_ := Aside0.mk (Kd.C_below (by repeat (first | (with_reducible exact HR401_0.out) | (with_reducible refine Kd.C_alloc ?_ _) | (with_reducible refine Kd.C_drewN ?_ _) | (with_reducible refine Kd.C_drew ?_) | exact HR401_0.out)) hb); have n6_ := Aside0.mk (below_step (by repeat (first | (with_reducible first | exact HB.out | apply below_alloc | apply pw_below_drewN | apply below_drew1) | exact HB.out)) hb); clear HO_2; clear HO_3; clear HO_9; clear HO_11; clear HL401_0; clear HR401_0; clear HB; have HO_2 := n0_; have HO_3 := n1_; have HO_9 := n2_; have HO_11 := n3_; have HL401_0 := n4_; have HR401_0 := n5_; have HB := n6_; clear n0_ n1_ n2_ n3_ n4_ n5_ n6_; (try clear hb); (try clear hb2); (try clear hk); (try clear hi))); go_upto_region 10 with (first | (go_at_call 25; (with_reducible refine (pivot_Low.calls a0 _ _ t383 _ _ (rd_L1 t396 (l2.length : Int)) t402 t403 _ ?side1 ?side2 ?side3 ?side4 A42.out).mono ?_); (case side1 => repeat (first | exact (Kd.R_reads' HO_9.out).2.2 | (with_reducible refine Kd.C_alloc ?_ _) | (with_reducible refine Kd.C_drewN ?_ _) | (with_reducible refine Kd.C_drew ?_))); (case side2 => exact (Kd.R_reads' HO_9.out).2.1); (case side3 => repeat (first | exact (by repeat (first | (with_reducible exact HR401_0.out) | (with_reducible refine Kd.C_alloc ?_ _) | (with_reducible refine Kd.C_drewN ?_ _) | (with_reducible refine Kd.C_drew ?_) | exact HR401_0.out)) | (with_reducible refine Kd.C_alloc ?_ _) | (with_reducible refine Kd.C_drewN ?_ _) | (with_reducible refine Kd.C_drew ?_))); (case side4 => exact HC401_0.out); rintro e w47 ⟨rfl, hb⟩; have n0_ := Aside0.mk (Kd.V_below (by (with_reducible repeat (first | apply Kd.V_alloc | apply Kd.V_drewN | apply Kd.V_drew)); exact HO_2.out) hb); have n1_ := Aside0.mk (Kd.V_below (by (with_reducible repeat (first | apply Kd.V_alloc | apply Kd.V_drewN | apply Kd.V_drew)); exact HO_3.out) hb); have n2_ := Aside0.mk (Kd.R_below (by (with_reducible repeat (first | apply Kd.R_alloc | apply Kd.R_drewN | apply Kd.R_drew)); exact HO_9.out) hb); have n3_ := Aside0.mk (Kd.N_below (by (with_reducible repeat (first | apply Kd.N_alloc | apply Kd.N_drewN | apply Kd.N_drew)); exact HO_11.out) hb); have n4_ := Aside0.mk (Kd.V_below (by (with_reducible repeat (first | apply Kd.V_alloc | apply Kd.V_drewN | apply Kd.V_drew)); exact HL401_0.out) hb); have n5_ := Aside0.mk (Kd.C_below (by repeat (first | (with_reducible exact HR401_0.out) | (with_reducible refine Kd.C_alloc ?_ _) | (with_reducible refine Kd.C_drewN ?_ _) | (with_reducible refine Kd.C_drew ?_) | exact HR401_0.out)) hb); have n6_ := Aside0.mk (below_step (by repeat (first | (with_reducible first | exact HB.out | apply below_alloc | apply pw_below_drewN | apply below_drew1) | exact HB.out)) hb); clear HO_2; clear HO_3; clear HO_9; clear HO_11; clear HL401_0; clear HR401_0; clear HB; have HO_2 := n0_; have HO_3 := n1_; have HO_9 := n2_; have HO_11 := n3_; have HL401_0 := n4_; have HR401_0 := n5_; have HB := n6_; clear n0_ n1_ n2_ n3_ n4_ n5_ n6_; (try clear hb); (try clear hb2); (try clear hk); (try clear hi)) | (go_at_call 26; (with_reducible refine (pivot_High.calls a0 _ _ t383 _ _ (rd_L1 t396 (l2.length : Int)) t404 t405 _ ?side1 ?side2 ?side3 ?side4 A43.out).mono ?_); (case side1 => repeat (first | exact (Kd.R_reads' HO_9.out).2.2 | (with_reducible refine Kd.C_alloc ?_ _) | (with_reducible refine Kd.C_drewN ?_ _) | (with_reducible refine Kd.C_drew ?_))); (case side2 => exact (Kd.R_reads' HO_9.out).2.1); (case side3 => repeat (first | exact (by repeat (first | (with_reducible exact HR401_0.out) | (with_reducible refine Kd.C_alloc ?_ _) | (with_reducible refine Kd.C_drewN ?_ _) | (with_reducible refine Kd.C_drew ?_) | exact HR401_0.out)) | (with_reducible refine Kd.C_alloc ?_ _) | (with_reducible refine Kd.C_drewN ?_ _) | (with_reducible refine Kd.C_drew ?_))); (case side4 => exact HC401_0.out); rintro e w48 ⟨rfl, hb⟩; have n0_ := Aside0.mk (Kd.V_below (by (with_reducible repeat (first | apply Kd.V_alloc | apply Kd.V_drewN | apply Kd.V_drew)); exact HO_2.out) hb); have n1_ := Aside0.mk (Kd.V_below (by (with_reducible repeat (first | apply Kd.V_alloc | apply Kd.V_drewN | apply Kd.V_drew)); exact HO_3.out) hb); have n2_ := Aside0.mk (Kd.R_below (by (with_reducible repeat (first | apply Kd.R_alloc | apply Kd.R_drewN | apply Kd.R_drew)); exact HO_9.out) hb); have n3_ := Aside0.mk (Kd.N_below (by (with_reducible repeat (first | apply Kd.N_alloc | apply Kd.N_drewN | apply Kd.N_drew)); exact HO_11.out) hb); have n4_ := Aside0.mk (Kd.V_below (by (with_reducible repeat (first | apply Kd.V_alloc | apply Kd.V_drewN | apply Kd.V_drew)); exact HL401_0.out) hb); have n5_ := Aside0.mk (Kd.C_below (by repeat (first | (with_reducible exact HR401_0.out) | (with_reducible refine Kd.C_alloc ?_ _) | (with_reducible refine Kd.C_drewN ?_ _) | (with_reducible refine Kd.C_drew ?_) | exact HR401_0.out)) hb); have n6_ := Aside0.mk (below_step (by repeat (first | (with_reducible first | exact HB.out | apply below_alloc | apply pw_below_drewN | apply below_drew1) | exact HB.out)) hb); clear HO_2; clear HO_3; clear HO_9; clear HO_11; clear HL401_0; clear HR401_0; clear HB; have HO_2 := n0_; have HO_3 := n1_; have HO_9 := n2_; have HO_11 := n3_; have HL401_0 := n4_; have HR401_0 := n5_; have HB := n6_; clear n0_ n1_ n2_ n3_ n4_ n5_ n6_; (try clear hb); (try clear hb2); (try clear hk); (try clear hi))))
                      (try simp only [Act.put, List.setIfInBounds_toArray, List.set_cons_zero, List.set_cons_succ])
                      go_cut [112] (fun v112 wc => ∃ (kq : Nat) (x112_43 : Bool), v112 = .bool x112_43 ∧ Aside0 (antiquarylaw09_PivotBoundsHold.j2 kq a0 l2 l3 t383 t396 t402 t404 x112_43 = some r) ∧ Aside0 (kq ≤ kj18) ∧ Aside0 (Kd.V (Kd.slice 3 (Kd.int .i64)) 23 wc w.heap.size (fun k_ => ((P2_ k_ ∨ P3_ k_) ∨ w.heap.size ≤ k_) ∧ some k_ ≠ ((.slice Ao46 t383.length co46) : Value).ownBlock ∧ some k_ ≠ ((.slice (some ad401) t396.length co45) : Value).ownBlock) (.slice A2 l2.length c2) l2) ∧ Aside0 (Kd.V (Kd.int .i64) 3 wc w.heap.size (fun k_ => ((P2_ k_ ∨ P3_ k_) ∨ w.heap.size ≤ k_) ∧ some k_ ≠ ((.slice Ao46 t383.length co46) : Value).ownBlock ∧ some k_ ≠ ((.slice (some ad401) t396.length co45) : Value).ownBlock) (.slice A3 l3.length c3) l3) ∧ Aside0 (Kd.R k57 57 wc w.heap.size (fun k_ => (w.heap.size ≤ k_)) (.slice Ao46 t383.length co46) t383) ∧ Aside0 (Kd.N (Kd.slice 3 (Kd.int .i64)) 23 wc w.heap.size (fun k_ => ((P2_ k_ ∨ P3_ k_) ∨ w.heap.size ≤ k_) ∧ some k_ ≠ ((.slice Ao46 t383.length co46) : Value).ownBlock) (.slice (some ad401) t396.length co45) t396) ∧ Aside0 (Kd.C (Kd.int .i64) wc A401_0 (rd_L1 t396 (l2.length : Int)).length (rd_L1 t396 (l2.length : Int))) ∧ Aside0 (Below w.heap.size w wc))
                      case first =>
                        have H := HC44.out
                        clear HC44
                        by_cases c49 : t403 = 0
                        · rw [if_pos c49] at H
                          have c49b0 : (t403 == 0) = true := beq_iff_eq.mpr c49
                          have c49b1 : (t403 != 0) = false := bne_eq_false_iff_eq.mpr c49
                          clear c49
                          (first | rw [c49b0] | (simp only [i64_w, i32_w]; rw [c49b0]) | skip)
                          have H' := Aside0.mk H
                          clear H
                          go_wp2
                          repeat (go_quiet (fail); try go_wp2)
                          go_meet
                          case rel => exact ⟨_, ((t405 != 0)), (by first | rfl | (simp; done) | (simp [*]; done)), H', ⟨by have := HJ4.out; have := HJ18.out; first | omega | exact Nat.le_refl _⟩, ⟨by (with_reducible repeat (first | apply Kd.V_alloc | apply Kd.V_drewN | apply Kd.V_drew)); exact HO_2.out⟩, ⟨by (with_reducible repeat (first | apply Kd.V_alloc | apply Kd.V_drewN | apply Kd.V_drew)); exact HO_3.out⟩, ⟨by (with_reducible repeat (first | apply Kd.R_alloc | apply Kd.R_drewN | apply Kd.R_drew)); exact HO_9.out⟩, ⟨by (with_reducible repeat (first | apply Kd.N_alloc | apply Kd.N_drewN | apply Kd.N_drew)); exact HO_11.out⟩, ⟨by repeat (first | (with_reducible exact HR401_0.out) | (with_reducible refine Kd.C_alloc ?_ _) | (with_reducible refine Kd.C_drewN ?_ _) | (with_reducible refine Kd.C_drew ?_) | exact HR401_0.out)⟩, ⟨by repeat (first | (with_reducible first | exact HB.out | apply below_alloc | apply pw_below_drewN | apply below_drew1) | exact HB.out)⟩⟩
                        · rw [if_neg c49] at H
                          have c49b0 : (t403 == 0) = false := beq_eq_false_iff_ne.mpr c49
                          have c49b1 : (t403 != 0) = true := bne_iff_ne.mpr c49
                          (first | rw [c49b0] | (simp only [i64_w, i32_w]; rw [c49b0]) | skip)
                          exact absurd (H.trans (congrArg some HT.out)) (antiquarylaw09_PivotBoundsHold.j2_no _)
                      case rest =>
                        clear HC44
                        try clear c1
                        try clear c2
                        try clear p2
                        try clear c3
                        try clear p3
                        try clear q3
                        try clear hx3
                        try clear qi3
                        try clear c4
                        try clear p4
                        try clear q4
                        try clear hx4
                        try clear p6
                        try clear c7
                        try clear c9
                        try clear c10
                        try clear c10b0
                        try clear c10b1
                        try clear c12
                        try clear c16
                        try clear c17
                        try clear c27
                        try clear c27b0
                        try clear c27b1
                        try clear c28
                        try clear c28b0
                        try clear c28b1
                        try clear c29
                        try clear c29b0
                        try clear c29b1
                        try clear c31
                        try clear c38
                        try clear p38
                        try clear q38
                        try clear hx38
                        try clear qi38
                        try clear c39
                        try clear c40
                        try clear c40b0
                        try clear c40b1
                        try clear p40
                        try clear q40
                        try clear hx40
                        try clear c41
                        try clear c41b0
                        try clear c41b1
                        try clear c49
                        try clear c49b0
                        try clear c49b1
                        try clear hx380_0
                        try clear hx401_0
                        try clear p2
                        try clear p3
                        try clear p38
                        try clear p380
                        try clear p401
                        try clear p6
                        try clear q3
                        try clear q38
                        try clear q380
                        try clear q401
                        obtain ⟨kq, x112_43, rfl, HA, HJ43, HO_2, HO_3, HO_9, HO_11, HR401_0, HB⟩ := hcut
                        cases kq with
                        | zero => exact absurd HA.out (by simp [antiquarylaw09_PivotBoundsHold.j2])
                        | succ kj43 =>
                          have H := HA.out
                          clear HA
                          simp only [antiquarylaw09_PivotBoundsHold.j2] at H
                          by_cases c50 : x112_43 = true
                          · subst c50
                            have H1 : (some false) = some r := by rw [if_pos rfl] at H; exact H
                            clear H
                            have H := H1
                            clear H1
                            exact absurd (Option.some.inj H) (by rw [HT.out]; decide)
                          · replace c50 := Bool.eq_false_iff.mpr c50
                            subst c50
                            have H1 : (antiquarylaw09_PivotBoundsHold.l0 kj43 a0 l2 l3 t383 t396 t402 t404 0) = some r := by rw [if_neg (show ¬ (false = true) by decide)] at H; exact H
                            clear H
                            have H := H1
                            clear H1
                            have H' := Aside0.mk H
                            clear H
                            go_wp2
                            repeat (go_quiet (fail); try go_wp2)
                            go_loopg [18] kj43 (fun kq v18 w' => ∃ (x18_4 : Int), v18 = .int .i64 x18_4 ∧ Aside0 (antiquarylaw09_PivotBoundsHold.l0 kq a0 l2 l3 t383 t396 t402 t404 x18_4 = some r) ∧ Aside0 (kq ≤ kj43) ∧ Aside0 (Kd.V (Kd.slice 3 (Kd.int .i64)) 23 w' w.heap.size (fun k_ => ((P2_ k_ ∨ P3_ k_) ∨ w.heap.size ≤ k_) ∧ some k_ ≠ ((.slice Ao46 t383.length co46) : Value).ownBlock ∧ some k_ ≠ ((.slice (some ad401) t396.length co45) : Value).ownBlock) (.slice A2 l2.length c2) l2) ∧ Aside0 (Kd.V (Kd.int .i64) 3 w' w.heap.size (fun k_ => ((P2_ k_ ∨ P3_ k_) ∨ w.heap.size ≤ k_) ∧ some k_ ≠ ((.slice Ao46 t383.length co46) : Value).ownBlock ∧ some k_ ≠ ((.slice (some ad401) t396.length co45) : Value).ownBlock) (.slice A3 l3.length c3) l3) ∧ Aside0 (Kd.R k57 57 w' w.heap.size (fun k_ => (w.heap.size ≤ k_)) (.slice Ao46 t383.length co46) t383) ∧ Aside0 (Kd.N (Kd.slice 3 (Kd.int .i64)) 23 w' w.heap.size (fun k_ => ((P2_ k_ ∨ P3_ k_) ∨ w.heap.size ≤ k_) ∧ some k_ ≠ ((.slice Ao46 t383.length co46) : Value).ownBlock) (.slice (some ad401) t396.length co45) t396) ∧ Aside0 (Kd.C (Kd.int .i64) w' A401_0 (rd_L1 t396 (l2.length : Int)).length (rd_L1 t396 (l2.length : Int))) ∧ Aside0 (Below w.heap.size w w'))
                            case atStart => exact ⟨(0), (by first | rfl | (simp; done) | (simp [*]; done)), H', ⟨Nat.le_refl _⟩, ⟨by (with_reducible repeat (first | apply Kd.V_alloc | apply Kd.V_drewN | apply Kd.V_drew)); exact HO_2.out⟩, ⟨by (with_reducible repeat (first | apply Kd.V_alloc | apply Kd.V_drewN | apply Kd.V_drew)); exact HO_3.out⟩, ⟨by (with_reducible repeat (first | apply Kd.R_alloc | apply Kd.R_drewN | apply Kd.R_drew)); exact HO_9.out⟩, ⟨by (with_reducible repeat (first | apply Kd.N_alloc | apply Kd.N_drewN | apply Kd.N_drew)); exact HO_11.out⟩, ⟨by repeat (first | (with_reducible exact HR401_0.out) | (with_reducible refine Kd.C_alloc ?_ _) | (with_reducible refine Kd.C_drewN ?_ _) | (with_reducible refine Kd.C_drew ?_) | exact HR401_0.out)⟩, ⟨by repeat (first | (with_reducible first | exact HB.out | apply below_alloc | apply pw_below_drewN | apply below_drew1) | exact HB.out)⟩⟩
                            case round =>
                              clear H'
                              try clear c1
                              try clear c2
                              try clear p2
                              try clear c3
                              try clear p3
                              try clear q3
                              try clear hx3
                              try clear qi3
                              try clear c4
                              try clear p4
                              try clear q4
                              try clear hx4
                              try clear c5
                              try clear p6
                              try clear c7
                              try clear c9
                              try clear c10
                              try clear c10b0
                              try clear c10b1
                              try clear c12
                              try clear c16
                              try clear c17
                              try clear c27
                              try clear c27b0
                              try clear c27b1
                              try clear c28
                              try clear c28b0
                              try clear c28b1
                              try clear c29
                              try clear c29b0
                              try clear c29b1
                              try clear c31
                              try clear c38
                              try clear p38
                              try clear q38
                              try clear hx38
                              try clear qi38
                              try clear c39
                              try clear c40
                              try clear c40b0
                              try clear c40b1
                              try clear p40
                              try clear q40
                              try clear hx40
                              try clear c41
                              try clear c41b0
                              try clear c41b1
                              try clear c49
                              try clear c49b0
                              try clear c49b1
                              try clear c50
                              try clear hx380_0
                              try clear hx401_0
                              try clear p2
                              try clear p3
                              try clear p38
                              try clear p380
                              try clear p4
                              try clear p40
                              try clear p401
                              try clear p6
                              try clear q3
                              try clear q38
                              try clear q380
                              try clear q4
                              try clear q40
                              try clear q401
                              obtain ⟨x18_4, rfl, HA, HK4, HO_2, HO_3, HO_9, HO_11, HR401_0, HB⟩ := hrel
                              cases gk with
                              | zero => exact absurd HA.out (by simp [antiquarylaw09_PivotBoundsHold.l0])
                              | succ k4 =>
                                have H := HA.out
                                clear HA
                                simp only [antiquarylaw09_PivotBoundsHold.l0] at H
                                by_cases c51 : x18_4 < (l2.length : Int)
                                · rw [if_pos c51] at H
                                  have c51b0 : decide (x18_4 < (l2.length : Int)) = true := decide_eq_true c51
                                  clear c51
                                  by_cases c52 : 0 ≤ x18_4
                                  · rw [if_pos c52] at H
                                    have c52b0 : decide (0 ≤ x18_4) = true := decide_eq_true c52
                                    clear c52
                                    replace H := Option.bind_eq_some_iff.mp H
                                    obtain ⟨t407, A530, H⟩ := H
                                    replace H : (if x18_4 < (t396.length : Int) then ((pivot_In.f k4 t383 (rd_L1 t396 x18_4)).bind fun t409 => (if t409 = true then (if t407 < t402 then (some false) else (if t407 > t404 then (some false) else (antiquarylaw09_PivotBoundsHold.l0 k4 a0 l2 l3 t383 t396 t402 t404 (wrap64 (x18_4 + 1))))) else (some false))) else (none)) = some r := H
                                    have A53 := Aside0.mk A530
                                    clear A530
                                    by_cases c54 : x18_4 < (t396.length : Int)
                                    · rw [if_pos c54] at H
                                      have c54b0 : decide (x18_4 < (t396.length : Int)) = true := decide_eq_true c54
                                      clear c54
                                      replace H := Option.bind_eq_some_iff.mp H
                                      obtain ⟨t409, A550, H⟩ := H
                                      replace H : (if t409 = true then (if t407 < t402 then (some false) else (if t407 > t404 then (some false) else (antiquarylaw09_PivotBoundsHold.l0 k4 a0 l2 l3 t383 t396 t402 t404 (wrap64 (x18_4 + 1))))) else (some false)) = some r := H
                                      have A55 := Aside0.mk A550
                                      clear A550
                                      by_cases c56 : t409 = true
                                      · subst c56
                                        have H1 : (if t407 < t402 then (some false) else (if t407 > t404 then (some false) else (antiquarylaw09_PivotBoundsHold.l0 k4 a0 l2 l3 t383 t396 t402 t404 (wrap64 (x18_4 + 1))))) = some r := by rw [if_pos rfl] at H; exact H
                                        clear H
                                        have H := H1
                                        clear H1
                                        by_cases c57 : t407 < t402
                                        · rw [if_pos c57] at H
                                          have c57b0 : decide (t407 < t402) = true := decide_eq_true c57
                                          clear c57
                                          exact absurd (Option.some.inj H) (by rw [HT.out]; decide)
                                        · rw [if_neg c57] at H
                                          have c57b0 : decide (t407 < t402) = false := decide_eq_false c57
                                          clear c57
                                          by_cases c60 : t407 > t404
                                          · rw [if_pos c60] at H
                                            have c60b0 : decide (t404 < t407) = true := decide_eq_true c60
                                            clear c60
                                            exact absurd (Option.some.inj H) (by rw [HT.out]; decide)
                                          · rw [if_neg c60] at H
                                            have c60b0 : decide (t404 < t407) = false := decide_eq_false c60
                                            clear c60
                                            have H' := Aside0.mk H
                                            clear H
                                            have p406 : 0 ≤ (x18_4 : Int) := of_decide_eq_true (by first | (with_reducible assumption) | assumption)
                                            have q406 : x18_4 < (l2.length : Int) := of_decide_eq_true (by first | (with_reducible assumption) | assumption)
                                            obtain ⟨ad406, A406_0, c406_0, e406, hx406_0, hl406_0, hi406_0⟩ := at_L1 (Kd.V_reads' HO_2.out).2.2 x18_4 p406 q406
                                            cases e406
                                            obtain ⟨ce406, hce406, hMe406, hcc406⟩ := Kd.V_get HO_2.out [] x18_4 p406 (by first | exact q406 | exact of_decide_eq_true (by first | (with_reducible assumption) | assumption) | (have e_ := (Kd.V_reads' HO_2.out).1; omega))
                                            obtain ⟨ua406_0, uc406_0, rfl, ul406_0, ge406_0⟩ := Kd.FK_slice_open hMe406
                                            have hv406_0 := hcc406 0 _ rfl
                                            rw [Nat.add_zero, show ((Kd.slice 3 (Kd.int .i64))).sz = 1 from rfl, Nat.mul_one] at hv406_0
                                            replace hv406_0 := Option.some.inj (hv406_0.symm.trans hx406_0)
                                            injection hv406_0 with hva_ hvn_ hvc_
                                            rw [hva_] at ge406_0
                                            rw [hvc_] at ul406_0
                                            have HL406_0 := Aside0.mk (show Kd.V (Kd.int .i64) 3 _ w.heap.size _ _ (rd_L1 l2 x18_4) from Kd.V_mk ul406_0 ge406_0)
                                            clear hva_ hvn_ hvc_ ge406_0 ul406_0
                                            clear hcc406 hce406
                                            have HR406_0 := Aside0.mk hi406_0
                                            have HC406_0 := Aside0.mk hl406_0
                                            clear hi406_0 hl406_0
                                            replace p406 := eq_true p406
                                            replace q406 := eq_true q406
                                            go_wp2_with (first | (go_at_call 27; (with_reducible refine (vector_Key.calls k4 a0 _ _ l3 _ _ (rd_L1 l2 x18_4) t407 _ ?side1 ?side2 ?side3 ?side4 A53.out).mono ?_); (case side1 => repeat (first | exact (Kd.V_reads' HO_3.out).2.2 | (with_reducible refine Kd.C_alloc ?_ _) | (with_reducible refine Kd.C_drewN ?_ _) | (with_reducible refine Kd.C_drew ?_))); (case side2 => exact (Kd.V_reads' HO_3.out).2.1); (case side3 => repeat (first | exact (by repeat (first | (with_reducible exact HR406_0.out) | (with_reducible refine Kd.C_alloc ?_ _) | (with_reducible refine Kd.C_drewN ?_ _) | (with_reducible refine Kd.C_drew ?_) | exact HR406_0.out)) | (with_reducible refine Kd.C_alloc ?_ _) | (with_reducible refine Kd.C_drewN ?_ _) | (with_reducible refine Kd.C_drew ?_))); (case side4 => exact HC406_0.out); rintro e w63 ⟨rfl, hb⟩; have n0_ := Aside0.mk (Kd.V_below (by (with_reducible repeat (first | apply Kd.V_alloc | apply Kd.V_drewN | apply Kd.V_drew)); exact HO_2.out) hb); have n1_ := Aside0.mk (Kd.V_below (by (with_reducible repeat (first | apply Kd.V_alloc | apply Kd.V_drewN | apply Kd.V_drew)); exact HO_3.out) hb); have n2_ := Aside0.mk (Kd.R_below (by (with_reducible repeat (first | apply Kd.R_alloc | apply Kd.R_drewN | apply Kd.R_drew)); exact HO_9.out) hb); have n3_ := Aside0.mk (Kd.N_below (by (with_reducible repeat (first | apply Kd.N_alloc | apply Kd.N_drewN | apply Kd.N_drew)); exact HO_11.out) hb); have n4_ := Aside0.mk (Kd.V_below (by (with_reducible repeat (first | apply Kd.V_alloc | apply Kd.V_drewN | apply Kd.V_drew)); exact HL406_0.out) hb); have n5_ := Aside0.mk (Kd.C_below (by repeat (first | (with_reducible exact HR401_0.out) | (with_reducible refine Kd.C_alloc ?_ _) | (with_reducible refine Kd.C_drewN ?_ _) | (with_reducible refine Kd.C_drew ?_) | exact HR401_0.out)) hb); have n6_ := Aside0.mk (Kd.C_below (by repeat (first | (with_reducible exact HR406_0.out) | (with_reducible refine Kd.C_alloc ?_ _) | (with_reducible refine Kd.C_drewN ?_ _) | (with_reducible refine Kd.C_drew ?_) | exact HR406_0.out)) hb); have n7_ := Aside0.mk (below_step (by repeat (first | (with_reducible first | exact HB.out | apply below_alloc | apply pw_below_drewN | apply below_drew1) | exact HB.out)) hb); clear HO_2; clear HO_3; clear HO_9; clear HO_11; clear HL406_0; clear HR401_0; clear HR406_0; clear HB; have HO_2 := n0_; have HO_3 := n1_; have HO_9 := n2_; have HO_11 := n3_; have HL406_0 := n4_; have HR401_0 := n5_; have HR406_0 := n6_; have HB := n7_; clear n0_ n1_ n2_ n3_ n4_ n5_ n6_ n7_; (try clear hb); (try clear hb2); (try clear hk); (try clear hi); have p408 : 0 ≤ (x18_4 : Int) := of_decide_eq_true (by first | (with_reducible assumption) | assumption); have q408 : x18_4 < (t396.length : Int) := of_decide_eq_true (by first | (with_reducible assumption) | assumption); obtain ⟨ad408, A408_0, c408_0, e408, hx408_0, hl408_0, hi408_0⟩ := at_L1 (Kd.N_reads' HO_11.out).2.2 x18_4 p408 q408; obtain rfl : ad401 = ad408 := (by injection e408); obtain ⟨ce408, hce408, hMe408, hcc408⟩ := Kd.N_get HO_11.out [] x18_4 p408 (by first | exact q408 | exact of_decide_eq_true (by first | (with_reducible assumption) | assumption) | (have e_ := (Kd.N_reads' HO_11.out).1; omega)); obtain ⟨ua408_0, uc408_0, rfl, ul408_0, ge408_0⟩ := Kd.FK_slice_open hMe408; have hv408_0 := hcc408 0 _ rfl; rw [Nat.add_zero, show ((Kd.slice 3 (Kd.int .i64))).sz = 1 from rfl, Nat.mul_one] at hv408_0; replace hv408_0 := Option.some.inj (hv408_0.symm.trans hx408_0); injection hv408_0 with hva_ hvn_ hvc_; rw [hva_] at ge408_0; rw [hvc_] at ul408_0; have HL408_0 := Aside0.mk (show Kd.V (Kd.int .i64) 3 _ w.heap.size _ _ (rd_L1 t396 x18_4) from Kd.V_mk ul408_0 ge408_0); clear hva_ hvn_ hvc_ ge408_0 ul408_0; clear hcc408 hce408; have HR408_0 := Aside0.mk hi408_0; have HC408_0 := Aside0.mk hl408_0; clear hi408_0 hl408_0; replace p408 := eq_true p408; replace q408 := eq_true q408) | (go_at_call 28; (with_reducible refine (pivot_In.calls k4 _ _ t383 _ _ (rd_L1 t396 x18_4) true _ ?side1 ?side2 ?side3 ?side4 A55.out).mono ?_); (case side1 => repeat (first | exact (Kd.R_reads' HO_9.out).2.2 | (with_reducible refine Kd.C_alloc ?_ _) | (with_reducible refine Kd.C_drewN ?_ _) | (with_reducible refine Kd.C_drew ?_))); (case side2 => exact (Kd.R_reads' HO_9.out).2.1); (case side3 => repeat (first | exact (by repeat (first | (with_reducible exact HR408_0.out) | (with_reducible refine Kd.C_alloc ?_ _) | (with_reducible refine Kd.C_drewN ?_ _) | (with_reducible refine Kd.C_drew ?_) | exact HR408_0.out)) | (with_reducible refine Kd.C_alloc ?_ _) | (with_reducible refine Kd.C_drewN ?_ _) | (with_reducible refine Kd.C_drew ?_))); (case side4 => exact HC408_0.out); rintro e w64 ⟨rfl, hb⟩; have n0_ := Aside0.mk (Kd.V_below (by (with_reducible repeat (first | apply Kd.V_alloc | apply Kd.V_drewN | apply Kd.V_drew)); exact HO_2.out) hb); have n1_ := Aside0.mk (Kd.V_below (by (with_reducible repeat (first | apply Kd.V_alloc | apply Kd.V_drewN | apply Kd.V_drew)); exact HO_3.out) hb); have n2_ := Aside0.mk (Kd.R_below (by (with_reducible repeat (first | apply Kd.R_alloc | apply Kd.R_drewN | apply Kd.R_drew)); exact HO_9.out) hb); have n3_ := Aside0.mk (Kd.N_below (by (with_reducible repeat (first | apply Kd.N_alloc | apply Kd.N_drewN | apply Kd.N_drew)); exact HO_11.out) hb); have n4_ := Aside0.mk (Kd.V_below (by (with_reducible repeat (first | apply Kd.V_alloc | apply Kd.V_drewN | apply Kd.V_drew)); exact HL406_0.out) hb); have n5_ := Aside0.mk (Kd.V_below (by (with_reducible repeat (first | apply Kd.V_alloc | apply Kd.V_drewN | apply Kd.V_drew)); exact HL408_0.out) hb); have n6_ := Aside0.mk (Kd.C_below (by repeat (first | (with_reducible exact HR401_0.out) | (with_reducible refine Kd.C_alloc ?_ _) | (with_reducible refine Kd.C_drewN ?_ _) | (with_reducible refine Kd.C_drew ?_) | exact HR401_0.out)) hb); have n7_ := Aside0.mk (Kd.C_below (by repeat (first | (with_reducible exact HR406_0.out) | (with_reducible refine Kd.C_alloc ?_ _) | (with_reducible refine Kd.C_drewN ?_ _) | (with_reducible refine Kd.C_drew ?_) | exact HR406_0.out)) hb); have n8_ := Aside0.mk (Kd.C_below (by repeat (first | (with_reducible exact HR408_0.out) | (with_reducible refine Kd.C_alloc ?_ _) | (with_reducible refine Kd.C_drewN ?_ _) | (with_reducible refine Kd.C_drew ?_) | exact HR408_0.out)) hb); have n9_ := Aside0.mk (below_step (by repeat (first | (with_reducible first | exact HB.out | apply below_alloc | apply pw_below_drewN | apply below_drew1) | exact HB.out)) hb); clear HO_2; clear HO_3; clear HO_9; clear HO_11; clear HL406_0; clear HL408_0; clear HR401_0; clear HR406_0; clear HR408_0; clear HB; have HO_2 := n0_; have HO_3 := n1_; have HO_9 := n2_; have HO_11 := n3_; have HL406_0 := n4_; have HL408_0 := n5_; have HR401_0 := n6_; have HR406_0 := n7_; have HR408_0 := n8_; have HB := n9_; clear n0_ n1_ n2_ n3_ n4_ n5_ n6_ n7_ n8_ n9_; (try clear hb); (try clear hb2); (try clear hk); (try clear hi)))
                                            repeat (go_quiet (first | (go_at_call 27; (with_reducible refine (vector_Key.calls k4 a0 _ _ l3 _ _ (rd_L1 l2 x18_4) t407 _ ?side1 ?side2 ?side3 ?side4 A53.out).mono ?_); (case side1 => repeat (first | exact (Kd.V_reads' HO_3.out).2.2 | (with_reducible refine Kd.C_alloc ?_ _) | (with_reducible refine Kd.C_drewN ?_ _) | (with_reducible refine Kd.C_drew ?_))); (case side2 => exact (Kd.V_reads' HO_3.out).2.1); (case side3 => repeat (first | exact (by repeat (first | (with_reducible exact HR406_0.out) | (with_reducible refine Kd.C_alloc ?_ _) | (with_reducible refine Kd.C_drewN ?_ _) | (with_reducible refine Kd.C_drew ?_) | exact HR406_0.out)) | (with_reducible refine Kd.C_alloc ?_ _) | (with_reducible refine Kd.C_drewN ?_ _) | (with_reducible refine Kd.C_drew ?_))); (case side4 => exact HC406_0.out); rintro e w63 ⟨rfl, hb⟩; have n0_ := Aside0.mk (Kd.V_below (by (with_reducible repeat (first | apply Kd.V_alloc | apply Kd.V_drewN | apply Kd.V_drew)); exact HO_2.out) hb); have n1_ := Aside0.mk (Kd.V_below (by (with_reducible repeat (first | apply Kd.V_alloc | apply Kd.V_drewN | apply Kd.V_drew)); exact HO_3.out) hb); have n2_ := Aside0.mk (Kd.R_below (by (with_reducible repeat (first | apply Kd.R_alloc | apply Kd.R_drewN | apply Kd.R_drew)); exact HO_9.out) hb); have n3_ := Aside0.mk (Kd.N_below (by (with_reducible repeat (first | apply Kd.N_alloc | apply Kd.N_drewN | apply Kd.N_drew)); exact HO_11.out) hb); have n4_ := Aside0.mk (Kd.V_below (by (with_reducible repeat (first | apply Kd.V_alloc | apply Kd.V_drewN | apply Kd.V_drew)); exact HL406_0.out) hb); have n5_ := Aside0.mk (Kd.C_below (by repeat (first | (with_reducible exact HR401_0.out) | (with_reducible refine Kd.C_alloc ?_ _) | (with_reducible refine Kd.C_drewN ?_ _) | (with_reducible refine Kd.C_drew ?_) | exact HR401_0.out)) hb); have n6_ := Aside0.mk (Kd.C_below (by repeat (first | (with_reducible exact HR406_0.out) | (with_reducible refine Kd.C_alloc ?_ _) | (with_reducible refine Kd.C_drewN ?_ _) | (with_reducible refine Kd.C_drew ?_) | exact HR406_0.out)) hb); have n7_ := Aside0.mk (below_step (by repeat (first | (with_reducible first | exact HB.out | apply below_alloc | apply pw_below_drewN | apply below_drew1) | exact HB.out)) hb); clear HO_2; clear HO_3; clear HO_9; clear HO_11; clear HL406_0; clear HR401_0; clear HR406_0; clear HB; have HO_2 := n0_; have HO_3 := n1_; have HO_9 := n2_; have HO_11 := n3_; have HL406_0 := n4_; have HR401_0 := n5_; have HR406_0 := n6_; have HB := n7_; clear n0_ n1_ n2_ n3_ n4_ n5_ n6_ n7_; (try clear hb); (try clear hb2); (try clear hk); (try clear hi); have p408 : 0 ≤ (x18_4 : Int) := of_decide_eq_true (by first | (with_reducible assumption) | assumption); have q408 : x18_4 < (t396.length : Int) := of_decide_eq_true (by first | (with_reducible assumption) | assumption); obtain ⟨ad408, A408_0, c408_0, e408, hx408_0, hl408_0, hi408_0⟩ := at_L1 (Kd.N_reads' HO_11.out).2.2 x18_4 p408 q408; obtain rfl : ad401 = ad408 := (by injection e408); obtain ⟨ce408, hce408, hMe408, hcc408⟩ := Kd.N_get HO_11.out [] x18_4 p408 (by first | exact q408 | exact of_decide_eq_true (by first | (with_reducible assumption) | assumption) | (have e_ := (Kd.N_reads' HO_11.out).1; omega)); obtain ⟨ua408_0, uc408_0, rfl, ul408_0, ge408_0⟩ := Kd.FK_slice_open hMe408; have hv408_0 := hcc408 0 _ rfl; rw [Nat.add_zero, show ((Kd.slice 3 (Kd.int .i64))).sz = 1 from rfl, Nat.mul_one] at hv408_0; replace hv408_0 := Option.some.inj (hv408_0.symm.trans hx408_0); injection hv408_0 with hva_ hvn_ hvc_; rw [hva_] at ge408_0; rw [hvc_] at ul408_0; have HL408_0 := Aside0.mk (show Kd.V (Kd.int .i64) 3 _ w.heap.size _ _ (rd_L1 t396 x18_4) from Kd.V_mk ul408_0 ge408_0); clear hva_ hvn_ hvc_ ge408_0 ul408_0; clear hcc408 hce408; have HR408_0 := Aside0.mk hi408_0; have HC408_0 := Aside0.mk hl408_0; clear hi408_0 hl408_0; replace p408 := eq_true p408; replace q408 := eq_true q408) | (go_at_call 28; (with_reducible refine (pivot_In.calls k4 _ _ t383 _ _ (rd_L1 t396 x18_4) true _ ?side1 ?side2 ?side3 ?side4 A55.out).mono ?_); (case side1 => repeat (first | exact (Kd.R_reads' HO_9.out).2.2 | (with_reducible refine Kd.C_alloc ?_ _) | (with_reducible refine Kd.C_drewN ?_ _) | (with_reducible refine Kd.C_drew ?_))); (case side2 => exact (Kd.R_reads' HO_9.out).2.1); (case side3 => repeat (first | exact (by repeat (first | (with_reducible exact HR408_0.out) | (with_reducible refine Kd.C_alloc ?_ _) | (with_reducible refine Kd.C_drewN ?_ _) | (with_reducible refine Kd.C_drew ?_) | exact HR408_0.out)) | (with_reducible refine Kd.C_alloc ?_ _) | (with_reducible refine Kd.C_drewN ?_ _) | (with_reducible refine Kd.C_drew ?_))); (case side4 => exact HC408_0.out); rintro e w64 ⟨rfl, hb⟩; have n0_ := Aside0.mk (Kd.V_below (by (with_reducible repeat (first | apply Kd.V_alloc | apply Kd.V_drewN | apply Kd.V_drew)); exact HO_2.out) hb); have n1_ := Aside0.mk (Kd.V_below (by (with_reducible repeat (first | apply Kd.V_alloc | apply Kd.V_drewN | apply Kd.V_drew)); exact HO_3.out) hb); have n2_ := Aside0.mk (Kd.R_below (by (with_reducible repeat (first | apply Kd.R_alloc | apply Kd.R_drewN | apply Kd.R_drew)); exact HO_9.out) hb); have n3_ := Aside0.mk (Kd.N_below (by (with_reducible repeat (first | apply Kd.N_alloc | apply Kd.N_drewN | apply Kd.N_drew)); exact HO_11.out) hb); have n4_ := Aside0.mk (Kd.V_below (by (with_reducible repeat (first | apply Kd.V_alloc | apply Kd.V_drewN | apply Kd.V_drew)); exact HL406_0.out) hb); have n5_ := Aside0.mk (Kd.V_below (by (with_reducible repeat (first | apply Kd.V_alloc | apply Kd.V_drewN | apply Kd.V_drew)); exact HL408_0.out) hb); have n6_ := Aside0.mk (Kd.C_below (by repeat (first | (with_reducible exact HR401_0.out) | (with_reducible refine Kd.C_alloc ?_ _) | (with_reducible refine Kd.C_drewN ?_ _) | (with_reducible refine Kd.C_drew ?_) | exact HR401_0.out)) hb); have n7_ := Aside0.mk (Kd.C_below (by repeat (first | (with_reducible exact HR406_0.out) | (with_reducible refine Kd.C_alloc ?_ _) | (with_reducible refine Kd.C_drewN ?_ _) | (with_reducible refine Kd.C_drew ?_) | exact HR406_0.out)) hb); have n8_ := Aside0.mk (Kd.C_below (by repeat (first | (with_reducible exact HR408_0.out) | (with_reducible refine Kd.C_alloc ?_ _) | (with_reducible refine Kd.C_drewN ?_ _) | (with_reducible refine Kd.C_drew ?_) | exact HR408_0.out)) hb); have n9_ := Aside0.mk (below_step (by repeat (first | (with_reducible first | exact HB.out | apply below_alloc | apply pw_below_drewN | apply below_drew1) | exact HB.out)) hb); clear HO_2; clear HO_3; clear HO_9; clear HO_11; clear HL406_0; clear HL408_0; clear HR401_0; clear HR406_0; clear HR408_0; clear HB; have HO_2 := n0_; have HO_3 := n1_; have HO_9 := n2_; have HO_11 := n3_; have HL406_0 := n4_; have HL408_0 := n5_; have HR401_0 := n6_; have HR406_0 := n7_; have HR408_0 := n8_; have HB := n9_; clear n0_ n1_ n2_ n3_ n4_ n5_ n6_ n7_ n8_ n9_; (try clear hb); (try clear hb2); (try clear hk); (try clear hi))); try go_wp2_with (first | (go_at_call 27; (with_reducible refine (vector_Key.calls k4 a0 _ _ l3 _ _ (rd_L1 l2 x18_4) t407 _ ?side1 ?side2 ?side3 ?side4 A53.out).mono ?_); (case side1 => repeat (first | exact (Kd.V_reads' HO_3.out).2.2 | (with_reducible refine Kd.C_alloc ?_ _) | (with_reducible refine Kd.C_drewN ?_ _) | (with_reducible refine Kd.C_drew ?_))); (case side2 => exact (Kd.V_reads' HO_3.out).2.1); (case side3 => repeat (first | exact (by repeat (first | (with_reducible exact HR406_0.out) | (with_reducible refine Kd.C_alloc ?_ _) | (with_reducible refine Kd.C_drewN ?_ _) | (with_reducible refine Kd.C_drew ?_) | exact HR406_0.out)) | (with_reducible refine Kd.C_alloc ?_ _) | (with_reducible refine Kd.C_drewN ?_ _) | (with_reducible refine Kd.C_drew ?_))); (case side4 => exact HC406_0.out); rintro e w63 ⟨rfl, hb⟩; have n0_ := Aside0.mk (Kd.V_below (by (with_reducible repeat (first | apply Kd.V_alloc | apply Kd.V_drewN | apply Kd.V_drew)); exact HO_2.out) hb); have n1_ := Aside0.mk (Kd.V_below (by (with_reducible repeat (first | apply Kd.V_alloc | apply Kd.V_drewN | apply Kd.V_drew)); exact HO_3.out) hb); have n2_ := Aside0.mk (Kd.R_below (by (with_reducible repeat (first | apply Kd.R_alloc | apply Kd.R_drewN | apply Kd.R_drew)); exact HO_9.out) hb); have n3_ := Aside0.mk (Kd.N_below (by (with_reducible repeat (first | apply Kd.N_alloc | apply Kd.N_drewN | apply Kd.N_drew)); exact HO_11.out) hb); have n4_ := Aside0.mk (Kd.V_below (by (with_reducible repeat (first | apply Kd.V_alloc | apply Kd.V_drewN | apply Kd.V_drew)); exact HL406_0.out) hb); have n5_ := Aside0.mk (Kd.C_below (by repeat (first | (with_reducible exact HR401_0.out) | (with_reducible refine Kd.C_alloc ?_ _) | (with_reducible refine Kd.C_drewN ?_ _) | (with_reducible refine Kd.C_drew ?_) | exact HR401_0.out)) hb); have n6_ := Aside0.mk (Kd.C_below (by repeat (first | (with_reducible exact HR406_0.out) | (with_reducible refine Kd.C_alloc ?_ _) | (with_reducible refine Kd.C_drewN ?_ _) | (with_reducible refine Kd.C_drew ?_) | exact HR406_0.out)) hb); have n7_ := Aside0.mk (below_step (by repeat (first | (with_reducible first | exact HB.out | apply below_alloc | apply pw_below_drewN | apply below_drew1) | exact HB.out)) hb); clear HO_2; clear HO_3; clear HO_9; clear HO_11; clear HL406_0; clear HR401_0; clear HR406_0; clear HB; have HO_2 := n0_; have HO_3 := n1_; have HO_9 := n2_; have HO_11 := n3_; have HL406_0 := n4_; have HR401_0 := n5_; have HR406_0 := n6_; have HB := n7_; clear n0_ n1_ n2_ n3_ n4_ n5_ n6_ n7_; (try clear hb); (try clear hb2); (try clear hk); (try clear hi); have p408 : 0 ≤ (x18_4 : Int) := of_decide_eq_true (by first | (with_reducible assumption) | assumption); have q408 : x18_4 < (t396.length : Int) := of_decide_eq_true (by first | (with_reducible assumption) | assumption); obtain ⟨ad408, A408_0, c408_0, e408, hx408_0, hl408_0, hi408_0⟩ := at_L1 (Kd.N_reads' HO_11.out).2.2 x18_4 p408 q408; obtain rfl : ad401 = ad408 := (by injection e408); obtain ⟨ce408, hce408, hMe408, hcc408⟩ := Kd.N_get HO_11.out [] x18_4 p408 (by first | exact q408 | exact of_decide_eq_true (by first | (with_reducible assumption) | assumption) | (have e_ := (Kd.N_reads' HO_11.out).1; omega)); obtain ⟨ua408_0, uc408_0, rfl, ul408_0, ge408_0⟩ := Kd.FK_slice_open hMe408; have hv408_0 := hcc408 0 _ rfl; rw [Nat.add_zero, show ((Kd.slice 3 (Kd.int .i64))).sz = 1 from rfl, Nat.mul_one] at hv408_0; replace hv408_0 := Option.some.inj (hv408_0.symm.trans hx408_0); injection hv408_0 with hva_ hvn_ hvc_; rw [hva_] at ge408_0; rw [hvc_] at ul408_0; have HL408_0 := Aside0.mk (show Kd.V (Kd.int .i64) 3 _ w.heap.size _ _ (rd_L1 t396 x18_4) from Kd.V_mk ul408_0 ge408_0); clear hva_ hvn_ hvc_ ge408_0 ul408_0; clear hcc408 hce408; have HR408_0 := Aside0.mk hi408_0; have HC408_0 := Aside0.mk hl408_0; clear hi408_0 hl408_0; replace p408 := eq_true p408; replace q408 := eq_true q408) | (go_at_call 28; (with_reducible refine (pivot_In.calls k4 _ _ t383 _ _ (rd_L1 t396 x18_4) true _ ?side1 ?side2 ?side3 ?side4 A55.out).mono ?_); (case side1 => repeat (first | exact (Kd.R_reads' HO_9.out).2.2 | (with_reducible refine Kd.C_alloc ?_ _) | (with_reducible refine Kd.C_drewN ?_ _) | (with_reducible refine Kd.C_drew ?_))); (case side2 => exact (Kd.R_reads' HO_9.out).2.1); (case side3 => repeat (first | exact (by repeat (first | (with_reducible exact HR408_0.out) | (with_reducible refine Kd.C_alloc ?_ _) | (with_reducible refine Kd.C_drewN ?_ _) | (with_reducible refine Kd.C_drew ?_) | exact HR408_0.out)) | (with_reducible refine Kd.C_alloc ?_ _) | (with_reducible refine Kd.C_drewN ?_ _) | (with_reducible refine Kd.C_drew ?_))); (case side4 => exact HC408_0.out); rintro e w64 ⟨rfl, hb⟩; have n0_ := Aside0.mk (Kd.V_below (by (with_reducible repeat (first | apply Kd.V_alloc | apply Kd.V_drewN | apply Kd.V_drew)); exact HO_2.out) hb); have n1_ := Aside0.mk (Kd.V_below (by (with_reducible repeat (first | apply Kd.V_alloc | apply Kd.V_drewN | apply Kd.V_drew)); exact HO_3.out) hb); have n2_ := Aside0.mk (Kd.R_below (by (with_reducible repeat (first | apply Kd.R_alloc | apply Kd.R_drewN | apply Kd.R_drew)); exact HO_9.out) hb); have n3_ := Aside0.mk (Kd.N_below (by (with_reducible repeat (first | apply Kd.N_alloc | apply Kd.N_drewN | apply Kd.N_drew)); exact HO_11.out) hb); have n4_ := Aside0.mk (Kd.V_below (by (with_reducible repeat (first | apply Kd.V_alloc | apply Kd.V_drewN | apply Kd.V_drew)); exact HL406_0.out) hb); have n5_ := Aside0.mk (Kd.V_below (by (with_reducible repeat (first | apply Kd.V_alloc | apply Kd.V_drewN | apply Kd.V_drew)); exact HL408_0.out) hb); have n6_ := Aside0.mk (Kd.C_below (by repeat (first | (with_reducible exact HR401_0.out) | (with_reducible refine Kd.C_alloc ?_ _) | (with_reducible refine Kd.C_drewN ?_ _) | (with_reducible refine Kd.C_drew ?_) | exact HR401_0.out)) hb); have n7_ := Aside0.mk (Kd.C_below (by repeat (first | (with_reducible exact HR406_0.out) | (with_reducible refine Kd.C_alloc ?_ _) | (with_reducible refine Kd.C_drewN ?_ _) | (with_reducible refine Kd.C_drew ?_) | exact HR406_0.out)) hb); have n8_ := Aside0.mk (Kd.C_below (by repeat (first | (with_reducible exact HR408_0.out) | (with_reducible refine Kd.C_alloc ?_ _) | (with_reducible refine Kd.C_drewN ?_ _) | (with_reducible refine Kd.C_drew ?_) | exact HR408_0.out)) hb); have n9_ := Aside0.mk (below_step (by repeat (first | (with_reducible first | exact HB.out | apply below_alloc | apply pw_below_drewN | apply below_drew1) | exact HB.out)) hb); clear HO_2; clear HO_3; clear HO_9; clear HO_11; clear HL406_0; clear HL408_0; clear HR401_0; clear HR406_0; clear HR408_0; clear HB; have HO_2 := n0_; have HO_3 := n1_; have HO_9 := n2_; have HO_11 := n3_; have HL406_0 := n4_; have HL408_0 := n5_; have HR401_0 := n6_; have HR406_0 := n7_; have HR408_0 := n8_; have HB := n9_; clear n0_ n1_ n2_ n3_ n4_ n5_ n6_ n7_ n8_ n9_; (try clear hb); (try clear hb2); (try clear hk); (try clear hi))))
                                            go_roundg k4
                                            case measure => have := HJ4.out; have := HJ18.out; have := HJ43.out; have := HK4.out; omega
                                            case rel => exact ⟨(wrap64 (x18_4 + 1)), (by first | rfl | (simp; done) | (simp [*]; done)), H', ⟨by have := HJ4.out; have := HJ18.out; have := HJ43.out; have := HK4.out; omega⟩, ⟨by (with_reducible repeat (first | apply Kd.V_alloc | apply Kd.V_drewN | apply Kd.V_drew)); exact HO_2.out⟩, ⟨by (with_reducible repeat (first | apply Kd.V_alloc | apply Kd.V_drewN | apply Kd.V_drew)); exact HO_3.out⟩, ⟨by (with_reducible repeat (first | apply Kd.R_alloc | apply Kd.R_drewN | apply Kd.R_drew)); exact HO_9.out⟩, ⟨by (with_reducible repeat (first | apply Kd.N_alloc | apply Kd.N_drewN | apply Kd.N_drew)); exact HO_11.out⟩, ⟨by repeat (first | (with_reducible exact HR401_0.out) | (with_reducible refine Kd.C_alloc ?_ _) | (with_reducible refine Kd.C_drewN ?_ _) | (with_reducible refine Kd.C_drew ?_) | exact HR401_0.out)⟩, ⟨by repeat (first | (with_reducible first | exact HB.out | apply below_alloc | apply pw_below_drewN | apply below_drew1) | exact HB.out)⟩⟩
                                      · replace c56 := Bool.eq_false_iff.mpr c56
                                        subst c56
                                        have H1 : (some false) = some r := by rw [if_neg (show ¬ (false = true) by decide)] at H; exact H
                                        clear H
                                        have H := H1
                                        clear H1
                                        exact absurd (Option.some.inj H) (by rw [HT.out]; decide)
                                    · rw [if_neg c54] at H
                                      exact absurd H (by simp)
                                  · rw [if_neg c52] at H
                                    exact absurd H (by simp)
                                · rw [if_neg c51] at H
                                  have c51b0 : decide (x18_4 < (l2.length : Int)) = false := decide_eq_false c51
                                  clear c51
                                  have H' := Aside0.mk H
                                  clear H
                                  go_wp2
                                  repeat (go_quiet (fail); try go_wp2)
                                  go_loopg [20] k4 (fun kq v20 w' => ∃ (x20_5 : Int), v20 = .int .i64 x20_5 ∧ Aside0 (antiquarylaw09_PivotBoundsHold.l1 kq l2 t383 t396 x20_5 = some r) ∧ Aside0 (kq ≤ k4) ∧ Aside0 (Kd.V (Kd.slice 3 (Kd.int .i64)) 23 w' w.heap.size (fun k_ => ((P2_ k_ ∨ P3_ k_) ∨ w.heap.size ≤ k_) ∧ some k_ ≠ ((.slice Ao46 t383.length co46) : Value).ownBlock ∧ some k_ ≠ ((.slice (some ad401) t396.length co45) : Value).ownBlock) (.slice A2 l2.length c2) l2) ∧ Aside0 (Kd.R k57 57 w' w.heap.size (fun k_ => (w.heap.size ≤ k_)) (.slice Ao46 t383.length co46) t383) ∧ Aside0 (Kd.N (Kd.slice 3 (Kd.int .i64)) 23 w' w.heap.size (fun k_ => ((P2_ k_ ∨ P3_ k_) ∨ w.heap.size ≤ k_) ∧ some k_ ≠ ((.slice Ao46 t383.length co46) : Value).ownBlock) (.slice (some ad401) t396.length co45) t396) ∧ Aside0 (Kd.C (Kd.int .i64) w' A401_0 (rd_L1 t396 (l2.length : Int)).length (rd_L1 t396 (l2.length : Int))) ∧ Aside0 (Below w.heap.size w w'))
                                  case atStart => exact ⟨(0), (by first | rfl | (simp; done) | (simp [*]; done)), H', ⟨Nat.le_refl _⟩, ⟨by (with_reducible repeat (first | apply Kd.V_alloc | apply Kd.V_drewN | apply Kd.V_drew)); exact HO_2.out⟩, ⟨by (with_reducible repeat (first | apply Kd.R_alloc | apply Kd.R_drewN | apply Kd.R_drew)); exact HO_9.out⟩, ⟨by (with_reducible repeat (first | apply Kd.N_alloc | apply Kd.N_drewN | apply Kd.N_drew)); exact HO_11.out⟩, ⟨by repeat (first | (with_reducible exact HR401_0.out) | (with_reducible refine Kd.C_alloc ?_ _) | (with_reducible refine Kd.C_drewN ?_ _) | (with_reducible refine Kd.C_drew ?_) | exact HR401_0.out)⟩, ⟨by repeat (first | (with_reducible first | exact HB.out | apply below_alloc | apply pw_below_drewN | apply below_drew1) | exact HB.out)⟩⟩
                                  case round =>
                                    clear H'
                                    try clear c1
                                    try clear c2
                                    try clear p2
                                    try clear c3
                                    try clear p3
                                    try clear q3
                                    try clear hx3
                                    try clear qi3
                                    try clear c4
                                    try clear p4
                                    try clear q4
                                    try clear hx4
                                    try clear c5
                                    try clear c6
                                    try clear p6
                                    try clear c7
                                    try clear c9
                                    try clear c10
                                    try clear c10b0
                                    try clear c10b1
                                    try clear c12
                                    try clear c16
                                    try clear c17
                                    try clear c27
                                    try clear c27b0
                                    try clear c27b1
                                    try clear c28
                                    try clear c28b0
                                    try clear c28b1
                                    try clear c29
                                    try clear c29b0
                                    try clear c29b1
                                    try clear c31
                                    try clear c38
                                    try clear p38
                                    try clear q38
                                    try clear hx38
                                    try clear qi38
                                    try clear c39
                                    try clear c40
                                    try clear c40b0
                                    try clear c40b1
                                    try clear p40
                                    try clear q40
                                    try clear hx40
                                    try clear c41
                                    try clear c41b0
                                    try clear c41b1
                                    try clear c49
                                    try clear c49b0
                                    try clear c49b1
                                    try clear c50
                                    try clear c51
                                    try clear c51b0
                                    try clear c52
                                    try clear c52b0
                                    try clear c54
                                    try clear c54b0
                                    try clear c56
                                    try clear c57
                                    try clear c57b0
                                    try clear c60
                                    try clear c60b0
                                    try clear p64
                                    try clear hx380_0
                                    try clear hx401_0
                                    try clear hx406_0
                                    try clear hx408_0
                                    try clear p2
                                    try clear p3
                                    try clear p38
                                    try clear p380
                                    try clear p4
                                    try clear p40
                                    try clear p401
                                    try clear p406
                                    try clear p408
                                    try clear p6
                                    try clear q3
                                    try clear q38
                                    try clear q380
                                    try clear q4
                                    try clear q40
                                    try clear q401
                                    try clear q406
                                    try clear q408
                                    obtain ⟨x20_5, rfl, HA, HK5, HO_2, HO_9, HO_11, HR401_0, HB⟩ := hrel
                                    cases gk with
                                    | zero => exact absurd HA.out (by simp [antiquarylaw09_PivotBoundsHold.l1])
                                    | succ k5 =>
                                      have H := HA.out
                                      clear HA
                                      simp only [antiquarylaw09_PivotBoundsHold.l1] at H
                                      by_cases c67 : x20_5 < (t383.length : Int)
                                      · rw [if_pos c67] at H
                                        have c67b0 : decide (x20_5 < (t383.length : Int)) = true := decide_eq_true c67
                                        clear c67
                                        have H' := Aside0.mk H
                                        clear H
                                        go_wp2
                                        repeat (go_quiet (fail); try go_wp2)
                                        go_loopg [21, 22, 23] k5 (fun kq v21 v22 v23 w' => ∃ (x21_6 : Bool) (x22_6 : Bool) (x23_6 : Int), v21 = .bool x21_6 ∧ v22 = .bool x22_6 ∧ v23 = .int .i64 x23_6 ∧ Aside0 (antiquarylaw09_PivotBoundsHold.l2 kq l2 t383 t396 x20_5 x21_6 x22_6 x23_6 = some r) ∧ Aside0 (kq ≤ k5) ∧ Aside0 (Kd.V (Kd.slice 3 (Kd.int .i64)) 23 w' w.heap.size (fun k_ => ((P2_ k_ ∨ P3_ k_) ∨ w.heap.size ≤ k_) ∧ some k_ ≠ ((.slice Ao46 t383.length co46) : Value).ownBlock ∧ some k_ ≠ ((.slice (some ad401) t396.length co45) : Value).ownBlock) (.slice A2 l2.length c2) l2) ∧ Aside0 (Kd.R k57 57 w' w.heap.size (fun k_ => (w.heap.size ≤ k_)) (.slice Ao46 t383.length co46) t383) ∧ Aside0 (Kd.N (Kd.slice 3 (Kd.int .i64)) 23 w' w.heap.size (fun k_ => ((P2_ k_ ∨ P3_ k_) ∨ w.heap.size ≤ k_) ∧ some k_ ≠ ((.slice Ao46 t383.length co46) : Value).ownBlock) (.slice (some ad401) t396.length co45) t396) ∧ Aside0 (Kd.C (Kd.int .i64) w' A401_0 (rd_L1 t396 (l2.length : Int)).length (rd_L1 t396 (l2.length : Int))) ∧ Aside0 (Below w.heap.size w w'))
                                        case atStart => exact ⟨(false), (false), (0), (by first | rfl | (simp; done) | (simp [*]; done)), (by first | rfl | (simp; done) | (simp [*]; done)), (by first | rfl | (simp; done) | (simp [*]; done)), H', ⟨Nat.le_refl _⟩, ⟨by (with_reducible repeat (first | apply Kd.V_alloc | apply Kd.V_drewN | apply Kd.V_drew)); exact HO_2.out⟩, ⟨by (with_reducible repeat (first | apply Kd.R_alloc | apply Kd.R_drewN | apply Kd.R_drew)); exact HO_9.out⟩, ⟨by (with_reducible repeat (first | apply Kd.N_alloc | apply Kd.N_drewN | apply Kd.N_drew)); exact HO_11.out⟩, ⟨by repeat (first | (with_reducible exact HR401_0.out) | (with_reducible refine Kd.C_alloc ?_ _) | (with_reducible refine Kd.C_drewN ?_ _) | (with_reducible refine Kd.C_drew ?_) | exact HR401_0.out)⟩, ⟨by repeat (first | (with_reducible first | exact HB.out | apply below_alloc | apply pw_below_drewN | apply below_drew1) | exact HB.out)⟩⟩
                                        case round =>
                                          clear H'
                                          try clear c1
                                          try clear c2
                                          try clear p2
                                          try clear c3
                                          try clear p3
                                          try clear q3
                                          try clear hx3
                                          try clear qi3
                                          try clear c4
                                          try clear p4
                                          try clear q4
                                          try clear hx4
                                          try clear c5
                                          try clear c6
                                          try clear p6
                                          try clear c7
                                          try clear c9
                                          try clear c10
                                          try clear c10b0
                                          try clear c10b1
                                          try clear c12
                                          try clear c16
                                          try clear c17
                                          try clear c27
                                          try clear c27b0
                                          try clear c27b1
                                          try clear c28
                                          try clear c28b0
                                          try clear c28b1
                                          try clear c29
                                          try clear c29b0
                                          try clear c29b1
                                          try clear c31
                                          try clear c38
                                          try clear p38
                                          try clear q38
                                          try clear hx38
                                          try clear qi38
                                          try clear c39
                                          try clear c40
                                          try clear c40b0
                                          try clear c40b1
                                          try clear p40
                                          try clear q40
                                          try clear hx40
                                          try clear c41
                                          try clear c41b0
                                          try clear c41b1
                                          try clear c49
                                          try clear c49b0
                                          try clear c49b1
                                          try clear c50
                                          try clear c51
                                          try clear c51b0
                                          try clear c52
                                          try clear c52b0
                                          try clear c54
                                          try clear c54b0
                                          try clear c56
                                          try clear c57
                                          try clear c57b0
                                          try clear c60
                                          try clear c60b0
                                          try clear p64
                                          try clear c67
                                          try clear c67b0
                                          try clear hx380_0
                                          try clear hx401_0
                                          try clear hx406_0
                                          try clear hx408_0
                                          try clear p2
                                          try clear p3
                                          try clear p38
                                          try clear p380
                                          try clear p4
                                          try clear p40
                                          try clear p401
                                          try clear p406
                                          try clear p408
                                          try clear p6
                                          try clear p64
                                          try clear q3
                                          try clear q38
                                          try clear q380
                                          try clear q4
                                          try clear q40
                                          try clear q401
                                          try clear q406
                                          try clear q408
                                          obtain ⟨x21_6, x22_6, x23_6, rfl, rfl, rfl, HA, HK6, HO_2, HO_9, HO_11, HR401_0, HB⟩ := hrel
                                          cases gk with
                                          | zero => exact absurd HA.out (by simp [antiquarylaw09_PivotBoundsHold.l2])
                                          | succ k6 =>
                                            have H := HA.out
                                            clear HA
                                            simp only [antiquarylaw09_PivotBoundsHold.l2] at H
                                            by_cases c68 : x23_6 < (l2.length : Int)
                                            · rw [if_pos c68] at H
                                              have c68b0 : decide (x23_6 < (l2.length : Int)) = true := decide_eq_true c68
                                              clear c68
                                              by_cases c69 : x21_6 = true
                                              · subst c69
                                                have H1 : (if x22_6 = true then (antiquarylaw09_PivotBoundsHold.l2 k6 l2 t383 t396 x20_5 true true (wrap64 (x23_6 + 1))) else (if 0 ≤ x23_6 then (if x23_6 < (t396.length : Int) then (if 0 ≤ x20_5 then (if x20_5 < ((rd_L1 t396 x23_6).length : Int) then (if x20_5 < (t383.length : Int) then (antiquarylaw09_PivotBoundsHold.l2 k6 l2 t383 t396 x20_5 true ((rd (rd_L1 t396 x23_6) x20_5) == ((rd_T57 t383 x20_5).f1)) (wrap64 (x23_6 + 1))) else (none)) else (none)) else (none)) else (none)) else (none))) = some r := by rw [if_pos rfl] at H; exact H
                                                clear H
                                                have H := H1
                                                clear H1
                                                by_cases c70 : x22_6 = true
                                                · subst c70
                                                  have H1 : (antiquarylaw09_PivotBoundsHold.l2 k6 l2 t383 t396 x20_5 true true (wrap64 (x23_6 + 1))) = some r := by rw [if_pos rfl] at H; exact H
                                                  clear H
                                                  have H := H1
                                                  clear H1
                                                  have H' := Aside0.mk H
                                                  clear H
                                                  go_wp2
                                                  repeat (go_quiet (fail); try go_wp2)
                                                  go_roundg k6
                                                  case measure => have := HJ4.out; have := HJ18.out; have := HJ43.out; have := HK4.out; have := HK5.out; have := HK6.out; omega
                                                  case rel => exact ⟨(true), (true), (wrap64 (x23_6 + 1)), (by first | rfl | (simp; done) | (simp [*]; done)), (by first | rfl | (simp; done) | (simp [*]; done)), (by first | rfl | (simp; done) | (simp [*]; done)), H', ⟨by have := HJ4.out; have := HJ18.out; have := HJ43.out; have := HK4.out; have := HK5.out; have := HK6.out; omega⟩, ⟨by (with_reducible repeat (first | apply Kd.V_alloc | apply Kd.V_drewN | apply Kd.V_drew)); exact HO_2.out⟩, ⟨by (with_reducible repeat (first | apply Kd.R_alloc | apply Kd.R_drewN | apply Kd.R_drew)); exact HO_9.out⟩, ⟨by (with_reducible repeat (first | apply Kd.N_alloc | apply Kd.N_drewN | apply Kd.N_drew)); exact HO_11.out⟩, ⟨by repeat (first | (with_reducible exact HR401_0.out) | (with_reducible refine Kd.C_alloc ?_ _) | (with_reducible refine Kd.C_drewN ?_ _) | (with_reducible refine Kd.C_drew ?_) | exact HR401_0.out)⟩, ⟨by repeat (first | (with_reducible first | exact HB.out | apply below_alloc | apply pw_below_drewN | apply below_drew1) | exact HB.out)⟩⟩
                                                · replace c70 := Bool.eq_false_iff.mpr c70
                                                  subst c70
                                                  have H1 : (if 0 ≤ x23_6 then (if x23_6 < (t396.length : Int) then (if 0 ≤ x20_5 then (if x20_5 < ((rd_L1 t396 x23_6).length : Int) then (if x20_5 < (t383.length : Int) then (antiquarylaw09_PivotBoundsHold.l2 k6 l2 t383 t396 x20_5 true ((rd (rd_L1 t396 x23_6) x20_5) == ((rd_T57 t383 x20_5).f1)) (wrap64 (x23_6 + 1))) else (none)) else (none)) else (none)) else (none)) else (none)) = some r := by rw [if_neg (show ¬ (false = true) by decide)] at H; exact H
                                                  clear H
                                                  have H := H1
                                                  clear H1
                                                  by_cases c71 : 0 ≤ x23_6
                                                  · rw [if_pos c71] at H
                                                    have c71b0 : decide (0 ≤ x23_6) = true := decide_eq_true c71
                                                    clear c71
                                                    by_cases c72 : x23_6 < (t396.length : Int)
                                                    · rw [if_pos c72] at H
                                                      have c72b0 : decide (x23_6 < (t396.length : Int)) = true := decide_eq_true c72
                                                      clear c72
                                                      by_cases c73 : 0 ≤ x20_5
                                                      · rw [if_pos c73] at H
                                                        have c73b0 : decide (0 ≤ x20_5) = true := decide_eq_true c73
                                                        clear c73
                                                        by_cases c74 : x20_5 < ((rd_L1 t396 x23_6).length : Int)
                                                        · rw [if_pos c74] at H
                                                          have c74b0 : decide (x20_5 < ((rd_L1 t396 x23_6).length : Int)) = true := decide_eq_true c74
                                                          clear c74
                                                          by_cases c75 : x20_5 < (t383.length : Int)
                                                          · rw [if_pos c75] at H
                                                            have c75b0 : decide (x20_5 < (t383.length : Int)) = true := decide_eq_true c75
                                                            clear c75
                                                            have H' := Aside0.mk H
                                                            clear H
                                                            have p411 : 0 ≤ (x23_6 : Int) := of_decide_eq_true (by first | (with_reducible assumption) | assumption)
                                                            have q411 : x23_6 < (t396.length : Int) := of_decide_eq_true (by first | (with_reducible assumption) | assumption)
                                                            obtain ⟨ad411, A411_0, c411_0, e411, hx411_0, hl411_0, hi411_0⟩ := at_L1 (Kd.N_reads' HO_11.out).2.2 x23_6 p411 q411
                                                            obtain rfl : ad401 = ad411 := (by injection e411)
                                                            obtain ⟨ce411, hce411, hMe411, hcc411⟩ := Kd.N_get HO_11.out [] x23_6 p411 (by first | exact q411 | exact of_decide_eq_true (by first | (with_reducible assumption) | assumption) | (have e_ := (Kd.N_reads' HO_11.out).1; omega))
                                                            obtain ⟨ua411_0, uc411_0, rfl, ul411_0, ge411_0⟩ := Kd.FK_slice_open hMe411
                                                            have hv411_0 := hcc411 0 _ rfl
                                                            rw [Nat.add_zero, show ((Kd.slice 3 (Kd.int .i64))).sz = 1 from rfl, Nat.mul_one] at hv411_0
                                                            replace hv411_0 := Option.some.inj (hv411_0.symm.trans hx411_0)
                                                            injection hv411_0 with hva_ hvn_ hvc_
                                                            rw [hva_] at ge411_0
                                                            rw [hvc_] at ul411_0
                                                            have HL411_0 := Aside0.mk (show Kd.V (Kd.int .i64) 3 _ w.heap.size _ _ (rd_L1 t396 x23_6) from Kd.V_mk ul411_0 ge411_0)
                                                            clear hva_ hvn_ hvc_ ge411_0 ul411_0
                                                            clear hcc411 hce411
                                                            have HR411_0 := Aside0.mk hi411_0
                                                            have HC411_0 := Aside0.mk hl411_0
                                                            clear hi411_0 hl411_0
                                                            replace p411 := eq_true p411
                                                            replace q411 := eq_true q411
                                                            have p412 : 0 ≤ (x20_5 : Int) := of_decide_eq_true (by first | (with_reducible assumption) | assumption)
                                                            have q412 : x20_5 < ((rd_L1 t396 x23_6).length : Int) := of_decide_eq_true (by first | (with_reducible assumption) | assumption)
                                                            obtain ⟨ad412, e412, hx412_0⟩ := Kd.at_int (by repeat (first | (with_reducible exact HR411_0.out) | (with_reducible refine Kd.C_alloc ?_ _) | (with_reducible refine Kd.C_drewN ?_ _) | (with_reducible refine Kd.C_drew ?_) | exact HR411_0.out)) x20_5 p412 q412
                                                            cases e412
                                                            replace p412 := eq_true p412
                                                            replace q412 := eq_true q412
                                                            have p413 : 0 ≤ (x20_5 : Int) := of_decide_eq_true (by first | (with_reducible assumption) | assumption)
                                                            have q413 : x20_5 < (t383.length : Int) := of_decide_eq_true (by first | (with_reducible assumption) | assumption)
                                                            obtain ⟨ad413, e413, hx413_0, hx413_1⟩ := at_T57 (Kd.R_reads' HO_9.out).2.2 x20_5 p413 q413
                                                            cases e413
                                                            replace p413 := eq_true p413
                                                            replace q413 := eq_true q413
                                                            go_wp2
                                                            repeat (go_quiet (fail); try go_wp2)
                                                            go_roundg k6
                                                            case measure => have := HJ4.out; have := HJ18.out; have := HJ43.out; have := HK4.out; have := HK5.out; have := HK6.out; omega
                                                            case rel => exact ⟨(true), (((rd (rd_L1 t396 x23_6) x20_5) == ((rd_T57 t383 x20_5).f1))), (wrap64 (x23_6 + 1)), (by first | rfl | (simp; done) | (simp [*]; done)), (by first | rfl | (simp; done) | (simp [*]; done)), (by first | rfl | (simp; done) | (simp [*]; done)), H', ⟨by have := HJ4.out; have := HJ18.out; have := HJ43.out; have := HK4.out; have := HK5.out; have := HK6.out; omega⟩, ⟨by (with_reducible repeat (first | apply Kd.V_alloc | apply Kd.V_drewN | apply Kd.V_drew)); exact HO_2.out⟩, ⟨by (with_reducible repeat (first | apply Kd.R_alloc | apply Kd.R_drewN | apply Kd.R_drew)); exact HO_9.out⟩, ⟨by (with_reducible repeat (first | apply Kd.N_alloc | apply Kd.N_drewN | apply Kd.N_drew)); exact HO_11.out⟩, ⟨by repeat (first | (with_reducible exact HR401_0.out) | (with_reducible refine Kd.C_alloc ?_ _) | (with_reducible refine Kd.C_drewN ?_ _) | (with_reducible refine Kd.C_drew ?_) | exact HR401_0.out)⟩, ⟨by repeat (first | (with_reducible first | exact HB.out | apply below_alloc | apply pw_below_drewN | apply below_drew1) | exact HB.out)⟩⟩
                                                          · rw [if_neg c75] at H
                                                            exact absurd H (by simp)
                                                        · rw [if_neg c74] at H
                                                          exact absurd H (by simp)
                                                      · rw [if_neg c73] at H
                                                        exact absurd H (by simp)
                                                    · rw [if_neg c72] at H
                                                      exact absurd H (by simp)
                                                  · rw [if_neg c71] at H
                                                    exact absurd H (by simp)
                                              · replace c69 := Bool.eq_false_iff.mpr c69
                                                subst c69
                                                have H1 : (if 0 ≤ x23_6 then (if x23_6 < (t396.length : Int) then (if 0 ≤ x20_5 then (if x20_5 < ((rd_L1 t396 x23_6).length : Int) then (if x20_5 < (t383.length : Int) then (if x22_6 = true then (antiquarylaw09_PivotBoundsHold.l2 k6 l2 t383 t396 x20_5 ((rd (rd_L1 t396 x23_6) x20_5) == ((rd_T57 t383 x20_5).f0)) true (wrap64 (x23_6 + 1))) else (antiquarylaw09_PivotBoundsHold.l2 k6 l2 t383 t396 x20_5 ((rd (rd_L1 t396 x23_6) x20_5) == ((rd_T57 t383 x20_5).f0)) ((rd (rd_L1 t396 x23_6) x20_5) == ((rd_T57 t383 x20_5).f1)) (wrap64 (x23_6 + 1)))) else (none)) else (none)) else (none)) else (none)) else (none)) = some r := by rw [if_neg (show ¬ (false = true) by decide)] at H; exact H
                                                clear H
                                                have H := H1
                                                clear H1
                                                by_cases c76 : 0 ≤ x23_6
                                                · rw [if_pos c76] at H
                                                  have c76b0 : decide (0 ≤ x23_6) = true := decide_eq_true c76
                                                  clear c76
                                                  by_cases c77 : x23_6 < (t396.length : Int)
                                                  · rw [if_pos c77] at H
                                                    have c77b0 : decide (x23_6 < (t396.length : Int)) = true := decide_eq_true c77
                                                    clear c77
                                                    by_cases c78 : 0 ≤ x20_5
                                                    · rw [if_pos c78] at H
                                                      have c78b0 : decide (0 ≤ x20_5) = true := decide_eq_true c78
                                                      clear c78
                                                      by_cases c79 : x20_5 < ((rd_L1 t396 x23_6).length : Int)
                                                      · rw [if_pos c79] at H
                                                        have c79b0 : decide (x20_5 < ((rd_L1 t396 x23_6).length : Int)) = true := decide_eq_true c79
                                                        clear c79
                                                        by_cases c80 : x20_5 < (t383.length : Int)
                                                        · rw [if_pos c80] at H
                                                          have c80b0 : decide (x20_5 < (t383.length : Int)) = true := decide_eq_true c80
                                                          clear c80
                                                          by_cases c81 : x22_6 = true
                                                          · subst c81
                                                            have H1 : (antiquarylaw09_PivotBoundsHold.l2 k6 l2 t383 t396 x20_5 ((rd (rd_L1 t396 x23_6) x20_5) == ((rd_T57 t383 x20_5).f0)) true (wrap64 (x23_6 + 1))) = some r := by rw [if_pos rfl] at H; exact H
                                                            clear H
                                                            have H := H1
                                                            clear H1
                                                            have H' := Aside0.mk H
                                                            clear H
                                                            have p414 : 0 ≤ (x23_6 : Int) := of_decide_eq_true (by first | (with_reducible assumption) | assumption)
                                                            have q414 : x23_6 < (t396.length : Int) := of_decide_eq_true (by first | (with_reducible assumption) | assumption)
                                                            obtain ⟨ad414, A414_0, c414_0, e414, hx414_0, hl414_0, hi414_0⟩ := at_L1 (Kd.N_reads' HO_11.out).2.2 x23_6 p414 q414
                                                            obtain rfl : ad401 = ad414 := (by injection e414)
                                                            obtain ⟨ce414, hce414, hMe414, hcc414⟩ := Kd.N_get HO_11.out [] x23_6 p414 (by first | exact q414 | exact of_decide_eq_true (by first | (with_reducible assumption) | assumption) | (have e_ := (Kd.N_reads' HO_11.out).1; omega))
                                                            obtain ⟨ua414_0, uc414_0, rfl, ul414_0, ge414_0⟩ := Kd.FK_slice_open hMe414
                                                            have hv414_0 := hcc414 0 _ rfl
                                                            rw [Nat.add_zero, show ((Kd.slice 3 (Kd.int .i64))).sz = 1 from rfl, Nat.mul_one] at hv414_0
                                                            replace hv414_0 := Option.some.inj (hv414_0.symm.trans hx414_0)
                                                            injection hv414_0 with hva_ hvn_ hvc_
                                                            rw [hva_] at ge414_0
                                                            rw [hvc_] at ul414_0
                                                            have HL414_0 := Aside0.mk (show Kd.V (Kd.int .i64) 3 _ w.heap.size _ _ (rd_L1 t396 x23_6) from Kd.V_mk ul414_0 ge414_0)
                                                            clear hva_ hvn_ hvc_ ge414_0 ul414_0
                                                            clear hcc414 hce414
                                                            have HR414_0 := Aside0.mk hi414_0
                                                            have HC414_0 := Aside0.mk hl414_0
                                                            clear hi414_0 hl414_0
                                                            replace p414 := eq_true p414
                                                            replace q414 := eq_true q414
                                                            have p415 : 0 ≤ (x20_5 : Int) := of_decide_eq_true (by first | (with_reducible assumption) | assumption)
                                                            have q415 : x20_5 < ((rd_L1 t396 x23_6).length : Int) := of_decide_eq_true (by first | (with_reducible assumption) | assumption)
                                                            obtain ⟨ad415, e415, hx415_0⟩ := Kd.at_int (by repeat (first | (with_reducible exact HR414_0.out) | (with_reducible refine Kd.C_alloc ?_ _) | (with_reducible refine Kd.C_drewN ?_ _) | (with_reducible refine Kd.C_drew ?_) | exact HR414_0.out)) x20_5 p415 q415
                                                            cases e415
                                                            replace p415 := eq_true p415
                                                            replace q415 := eq_true q415
                                                            have p416 : 0 ≤ (x20_5 : Int) := of_decide_eq_true (by first | (with_reducible assumption) | assumption)
                                                            have q416 : x20_5 < (t383.length : Int) := of_decide_eq_true (by first | (with_reducible assumption) | assumption)
                                                            obtain ⟨ad416, e416, hx416_0, hx416_1⟩ := at_T57 (Kd.R_reads' HO_9.out).2.2 x20_5 p416 q416
                                                            cases e416
                                                            replace p416 := eq_true p416
                                                            replace q416 := eq_true q416
                                                            go_wp2
                                                            repeat (go_quiet (fail); try go_wp2)
                                                            go_roundg k6
                                                            case measure => have := HJ4.out; have := HJ18.out; have := HJ43.out; have := HK4.out; have := HK5.out; have := HK6.out; omega
                                                            case rel => exact ⟨(((rd (rd_L1 t396 x23_6) x20_5) == ((rd_T57 t383 x20_5).f0))), (true), (wrap64 (x23_6 + 1)), (by first | rfl | (simp; done) | (simp [*]; done)), (by first | rfl | (simp; done) | (simp [*]; done)), (by first | rfl | (simp; done) | (simp [*]; done)), H', ⟨by have := HJ4.out; have := HJ18.out; have := HJ43.out; have := HK4.out; have := HK5.out; have := HK6.out; omega⟩, ⟨by (with_reducible repeat (first | apply Kd.V_alloc | apply Kd.V_drewN | apply Kd.V_drew)); exact HO_2.out⟩, ⟨by (with_reducible repeat (first | apply Kd.R_alloc | apply Kd.R_drewN | apply Kd.R_drew)); exact HO_9.out⟩, ⟨by (with_reducible repeat (first | apply Kd.N_alloc | apply Kd.N_drewN | apply Kd.N_drew)); exact HO_11.out⟩, ⟨by repeat (first | (with_reducible exact HR401_0.out) | (with_reducible refine Kd.C_alloc ?_ _) | (with_reducible refine Kd.C_drewN ?_ _) | (with_reducible refine Kd.C_drew ?_) | exact HR401_0.out)⟩, ⟨by repeat (first | (with_reducible first | exact HB.out | apply below_alloc | apply pw_below_drewN | apply below_drew1) | exact HB.out)⟩⟩
                                                          · replace c81 := Bool.eq_false_iff.mpr c81
                                                            subst c81
                                                            have H1 : (antiquarylaw09_PivotBoundsHold.l2 k6 l2 t383 t396 x20_5 ((rd (rd_L1 t396 x23_6) x20_5) == ((rd_T57 t383 x20_5).f0)) ((rd (rd_L1 t396 x23_6) x20_5) == ((rd_T57 t383 x20_5).f1)) (wrap64 (x23_6 + 1))) = some r := by rw [if_neg (show ¬ (false = true) by decide)] at H; exact H
                                                            clear H
                                                            have H := H1
                                                            clear H1
                                                            have H' := Aside0.mk H
                                                            clear H
                                                            have p414 : 0 ≤ (x23_6 : Int) := of_decide_eq_true (by first | (with_reducible assumption) | assumption)
                                                            have q414 : x23_6 < (t396.length : Int) := of_decide_eq_true (by first | (with_reducible assumption) | assumption)
                                                            obtain ⟨ad414, A414_0, c414_0, e414, hx414_0, hl414_0, hi414_0⟩ := at_L1 (Kd.N_reads' HO_11.out).2.2 x23_6 p414 q414
                                                            obtain rfl : ad401 = ad414 := (by injection e414)
                                                            obtain ⟨ce414, hce414, hMe414, hcc414⟩ := Kd.N_get HO_11.out [] x23_6 p414 (by first | exact q414 | exact of_decide_eq_true (by first | (with_reducible assumption) | assumption) | (have e_ := (Kd.N_reads' HO_11.out).1; omega))
                                                            obtain ⟨ua414_0, uc414_0, rfl, ul414_0, ge414_0⟩ := Kd.FK_slice_open hMe414
                                                            have hv414_0 := hcc414 0 _ rfl
                                                            rw [Nat.add_zero, show ((Kd.slice 3 (Kd.int .i64))).sz = 1 from rfl, Nat.mul_one] at hv414_0
                                                            replace hv414_0 := Option.some.inj (hv414_0.symm.trans hx414_0)
                                                            injection hv414_0 with hva_ hvn_ hvc_
                                                            rw [hva_] at ge414_0
                                                            rw [hvc_] at ul414_0
                                                            have HL414_0 := Aside0.mk (show Kd.V (Kd.int .i64) 3 _ w.heap.size _ _ (rd_L1 t396 x23_6) from Kd.V_mk ul414_0 ge414_0)
                                                            clear hva_ hvn_ hvc_ ge414_0 ul414_0
                                                            clear hcc414 hce414
                                                            have HR414_0 := Aside0.mk hi414_0
                                                            have HC414_0 := Aside0.mk hl414_0
                                                            clear hi414_0 hl414_0
                                                            replace p414 := eq_true p414
                                                            replace q414 := eq_true q414
                                                            have p415 : 0 ≤ (x20_5 : Int) := of_decide_eq_true (by first | (with_reducible assumption) | assumption)
                                                            have q415 : x20_5 < ((rd_L1 t396 x23_6).length : Int) := of_decide_eq_true (by first | (with_reducible assumption) | assumption)
                                                            obtain ⟨ad415, e415, hx415_0⟩ := Kd.at_int (by repeat (first | (with_reducible exact HR414_0.out) | (with_reducible refine Kd.C_alloc ?_ _) | (with_reducible refine Kd.C_drewN ?_ _) | (with_reducible refine Kd.C_drew ?_) | exact HR414_0.out)) x20_5 p415 q415
                                                            cases e415
                                                            replace p415 := eq_true p415
                                                            replace q415 := eq_true q415
                                                            have p416 : 0 ≤ (x20_5 : Int) := of_decide_eq_true (by first | (with_reducible assumption) | assumption)
                                                            have q416 : x20_5 < (t383.length : Int) := of_decide_eq_true (by first | (with_reducible assumption) | assumption)
                                                            obtain ⟨ad416, e416, hx416_0, hx416_1⟩ := at_T57 (Kd.R_reads' HO_9.out).2.2 x20_5 p416 q416
                                                            cases e416
                                                            replace p416 := eq_true p416
                                                            replace q416 := eq_true q416
                                                            have p417 : 0 ≤ (x23_6 : Int) := of_decide_eq_true (by first | (with_reducible assumption) | assumption)
                                                            have q417 : x23_6 < (t396.length : Int) := of_decide_eq_true (by first | (with_reducible assumption) | assumption)
                                                            obtain ⟨ad417, A417_0, c417_0, e417, hx417_0, hl417_0, hi417_0⟩ := at_L1 (Kd.N_reads' HO_11.out).2.2 x23_6 p417 q417
                                                            obtain rfl : ad401 = ad417 := (by injection e417)
                                                            obtain ⟨ce417, hce417, hMe417, hcc417⟩ := Kd.N_get HO_11.out [] x23_6 p417 (by first | exact q417 | exact of_decide_eq_true (by first | (with_reducible assumption) | assumption) | (have e_ := (Kd.N_reads' HO_11.out).1; omega))
                                                            obtain ⟨ua417_0, uc417_0, rfl, ul417_0, ge417_0⟩ := Kd.FK_slice_open hMe417
                                                            have hv417_0 := hcc417 0 _ rfl
                                                            rw [Nat.add_zero, show ((Kd.slice 3 (Kd.int .i64))).sz = 1 from rfl, Nat.mul_one] at hv417_0
                                                            replace hv417_0 := Option.some.inj (hv417_0.symm.trans hx417_0)
                                                            injection hv417_0 with hva_ hvn_ hvc_
                                                            rw [hva_] at ge417_0
                                                            rw [hvc_] at ul417_0
                                                            have HL417_0 := Aside0.mk (show Kd.V (Kd.int .i64) 3 _ w.heap.size _ _ (rd_L1 t396 x23_6) from Kd.V_mk ul417_0 ge417_0)
                                                            clear hva_ hvn_ hvc_ ge417_0 ul417_0
                                                            clear hcc417 hce417
                                                            have HR417_0 := Aside0.mk hi417_0
                                                            have HC417_0 := Aside0.mk hl417_0
                                                            clear hi417_0 hl417_0
                                                            replace p417 := eq_true p417
                                                            replace q417 := eq_true q417
                                                            have ea_ := Option.some.inj (hx414_0.symm.trans hx417_0)
                                                            injection ea_ with ea_ en_ ec_
                                                            subst ea_
                                                            subst ec_
                                                            clear en_
                                                            have p418 : 0 ≤ (x20_5 : Int) := of_decide_eq_true (by first | (with_reducible assumption) | assumption)
                                                            have q418 : x20_5 < ((rd_L1 t396 x23_6).length : Int) := of_decide_eq_true (by first | (with_reducible assumption) | assumption)
                                                            obtain ⟨ad418, e418, hx418_0⟩ := Kd.at_int (by repeat (first | (with_reducible exact HR417_0.out) | (with_reducible refine Kd.C_alloc ?_ _) | (with_reducible refine Kd.C_drewN ?_ _) | (with_reducible refine Kd.C_drew ?_) | exact HR417_0.out)) x20_5 p418 q418
                                                            cases e418
                                                            replace p418 := eq_true p418
                                                            replace q418 := eq_true q418
                                                            have p419 : 0 ≤ (x20_5 : Int) := of_decide_eq_true (by first | (with_reducible assumption) | assumption)
                                                            have q419 : x20_5 < (t383.length : Int) := of_decide_eq_true (by first | (with_reducible assumption) | assumption)
                                                            obtain ⟨ad419, e419, hx419_0, hx419_1⟩ := at_T57 (Kd.R_reads' HO_9.out).2.2 x20_5 p419 q419
                                                            obtain rfl : ad416 = ad419 := (by injection e419)
                                                            replace p419 := eq_true p419
                                                            replace q419 := eq_true q419
                                                            go_wp2
                                                            repeat (go_quiet (fail); try go_wp2)
                                                            go_roundg k6
                                                            case measure => have := HJ4.out; have := HJ18.out; have := HJ43.out; have := HK4.out; have := HK5.out; have := HK6.out; omega
                                                            case rel => exact ⟨(((rd (rd_L1 t396 x23_6) x20_5) == ((rd_T57 t383 x20_5).f0))), (((rd (rd_L1 t396 x23_6) x20_5) == ((rd_T57 t383 x20_5).f1))), (wrap64 (x23_6 + 1)), (by first | rfl | (simp; done) | (simp [*]; done)), (by first | rfl | (simp; done) | (simp [*]; done)), (by first | rfl | (simp; done) | (simp [*]; done)), H', ⟨by have := HJ4.out; have := HJ18.out; have := HJ43.out; have := HK4.out; have := HK5.out; have := HK6.out; omega⟩, ⟨by (with_reducible repeat (first | apply Kd.V_alloc | apply Kd.V_drewN | apply Kd.V_drew)); exact HO_2.out⟩, ⟨by (with_reducible repeat (first | apply Kd.R_alloc | apply Kd.R_drewN | apply Kd.R_drew)); exact HO_9.out⟩, ⟨by (with_reducible repeat (first | apply Kd.N_alloc | apply Kd.N_drewN | apply Kd.N_drew)); exact HO_11.out⟩, ⟨by repeat (first | (with_reducible exact HR401_0.out) | (with_reducible refine Kd.C_alloc ?_ _) | (with_reducible refine Kd.C_drewN ?_ _) | (with_reducible refine Kd.C_drew ?_) | exact HR401_0.out)⟩, ⟨by repeat (first | (with_reducible first | exact HB.out | apply below_alloc | apply pw_below_drewN | apply below_drew1) | exact HB.out)⟩⟩
                                                        · rw [if_neg c80] at H
                                                          exact absurd H (by simp)
                                                      · rw [if_neg c79] at H
                                                        exact absurd H (by simp)
                                                    · rw [if_neg c78] at H
                                                      exact absurd H (by simp)
                                                  · rw [if_neg c77] at H
                                                    exact absurd H (by simp)
                                                · rw [if_neg c76] at H
                                                  exact absurd H (by simp)
                                            · rw [if_neg c68] at H
                                              have c68b0 : decide (x23_6 < (l2.length : Int)) = false := decide_eq_false c68
                                              clear c68
                                              by_cases c82 : x21_6 = true
                                              · subst c82
                                                have H1 : (if x22_6 = true then (antiquarylaw09_PivotBoundsHold.l1 k6 l2 t383 t396 (wrap64 (x20_5 + 1))) else (some false)) = some r := by rw [if_pos rfl] at H; exact H
                                                clear H
                                                have H := H1
                                                clear H1
                                                by_cases c83 : x22_6 = true
                                                · subst c83
                                                  have H1 : (antiquarylaw09_PivotBoundsHold.l1 k6 l2 t383 t396 (wrap64 (x20_5 + 1))) = some r := by rw [if_pos rfl] at H; exact H
                                                  clear H
                                                  have H := H1
                                                  clear H1
                                                  have H' := Aside0.mk H
                                                  clear H
                                                  go_wp2
                                                  repeat (go_quiet (fail); try go_wp2)
                                                  go_roundg k6
                                                  case measure => have := HJ4.out; have := HJ18.out; have := HJ43.out; have := HK4.out; have := HK5.out; have := HK6.out; omega
                                                  case rel => exact ⟨(wrap64 (x20_5 + 1)), (by first | rfl | (simp; done) | (simp [*]; done)), H', ⟨by have := HJ4.out; have := HJ18.out; have := HJ43.out; have := HK4.out; have := HK5.out; have := HK6.out; omega⟩, ⟨by (with_reducible repeat (first | apply Kd.V_alloc | apply Kd.V_drewN | apply Kd.V_drew)); exact HO_2.out⟩, ⟨by (with_reducible repeat (first | apply Kd.R_alloc | apply Kd.R_drewN | apply Kd.R_drew)); exact HO_9.out⟩, ⟨by (with_reducible repeat (first | apply Kd.N_alloc | apply Kd.N_drewN | apply Kd.N_drew)); exact HO_11.out⟩, ⟨by repeat (first | (with_reducible exact HR401_0.out) | (with_reducible refine Kd.C_alloc ?_ _) | (with_reducible refine Kd.C_drewN ?_ _) | (with_reducible refine Kd.C_drew ?_) | exact HR401_0.out)⟩, ⟨by repeat (first | (with_reducible first | exact HB.out | apply below_alloc | apply pw_below_drewN | apply below_drew1) | exact HB.out)⟩⟩
                                                · replace c83 := Bool.eq_false_iff.mpr c83
                                                  subst c83
                                                  have H1 : (some false) = some r := by rw [if_neg (show ¬ (false = true) by decide)] at H; exact H
                                                  clear H
                                                  have H := H1
                                                  clear H1
                                                  exact absurd (Option.some.inj H) (by rw [HT.out]; decide)
                                              · replace c82 := Bool.eq_false_iff.mpr c82
                                                subst c82
                                                have H1 : (some false) = some r := by rw [if_neg (show ¬ (false = true) by decide)] at H; exact H
                                                clear H
                                                have H := H1
                                                clear H1
                                                exact absurd (Option.some.inj H) (by rw [HT.out]; decide)
                                      · rw [if_neg c67] at H
                                        have c67b0 : decide (x20_5 < (t383.length : Int)) = false := decide_eq_false c67
                                        clear c67
                                        replace H := Option.bind_eq_some_iff.mp H
                                        obtain ⟨t410, A840, H⟩ := H
                                        replace H : (some t410) = some r := H
                                        have A84 := Aside0.mk A840
                                        clear A840
                                        obtain rfl := Option.some.inj H
                                        go_wp2_with (first | (go_at_call 10; (with_reducible refine (antiquarylaw09_sanity.calls k5  t410 _ A84.out (by first | rfl | exact HT.out)).mono ?_); rintro e w85 ⟨rfl, hb⟩; have n0_ := Aside0.mk (Kd.V_below (by (with_reducible repeat (first | apply Kd.V_alloc | apply Kd.V_drewN | apply Kd.V_drew)); exact HO_2.out) hb); have n1_ := Aside0.mk (Kd.R_below (by (with_reducible repeat (first | apply Kd.R_alloc | apply Kd.R_drewN | apply Kd.R_drew)); exact HO_9.out) hb); have n2_ := Aside0.mk (Kd.N_below (by (with_reducible repeat (first | apply Kd.N_alloc | apply Kd.N_drewN | apply Kd.N_drew)); exact HO_11.out) hb); have n3_ := Aside0.mk (Kd.C_below (by repeat (first | (with_reducible exact HR401_0.out) | (with_reducible refine Kd.C_alloc ?_ _) | (with_reducible refine Kd.C_drewN ?_ _) | (with_reducible refine Kd.C_drew ?_) | exact HR401_0.out)) hb); have n4_ := Aside0.mk (below_step (by repeat (first | (with_reducible first | exact HB.out | apply below_alloc | apply pw_below_drewN | apply below_drew1) | exact HB.out)) hb); clear HO_2; clear HO_9; clear HO_11; clear HR401_0; clear HB; have HO_2 := n0_; have HO_9 := n1_; have HO_11 := n2_; have HR401_0 := n3_; have HB := n4_; clear n0_ n1_ n2_ n3_ n4_; (try clear hb); (try clear hb2); (try clear hk); (try clear hi)))
                                        repeat (go_quiet (first | (go_at_call 10; (with_reducible refine (antiquarylaw09_sanity.calls k5  t410 _ A84.out (by first | rfl | exact HT.out)).mono ?_); rintro e w85 ⟨rfl, hb⟩; have n0_ := Aside0.mk (Kd.V_below (by (with_reducible repeat (first | apply Kd.V_alloc | apply Kd.V_drewN | apply Kd.V_drew)); exact HO_2.out) hb); have n1_ := Aside0.mk (Kd.R_below (by (with_reducible repeat (first | apply Kd.R_alloc | apply Kd.R_drewN | apply Kd.R_drew)); exact HO_9.out) hb); have n2_ := Aside0.mk (Kd.N_below (by (with_reducible repeat (first | apply Kd.N_alloc | apply Kd.N_drewN | apply Kd.N_drew)); exact HO_11.out) hb); have n3_ := Aside0.mk (Kd.C_below (by repeat (first | (with_reducible exact HR401_0.out) | (with_reducible refine Kd.C_alloc ?_ _) | (with_reducible refine Kd.C_drewN ?_ _) | (with_reducible refine Kd.C_drew ?_) | exact HR401_0.out)) hb); have n4_ := Aside0.mk (below_step (by repeat (first | (with_reducible first | exact HB.out | apply below_alloc | apply pw_below_drewN | apply below_drew1) | exact HB.out)) hb); clear HO_2; clear HO_9; clear HO_11; clear HR401_0; clear HB; have HO_2 := n0_; have HO_9 := n1_; have HO_11 := n2_; have HR401_0 := n3_; have HB := n4_; clear n0_ n1_ n2_ n3_ n4_; (try clear hb); (try clear hb2); (try clear hk); (try clear hi))); try go_wp2_with (first | (go_at_call 10; (with_reducible refine (antiquarylaw09_sanity.calls k5  t410 _ A84.out (by first | rfl | exact HT.out)).mono ?_); rintro e w85 ⟨rfl, hb⟩; have n0_ := Aside0.mk (Kd.V_below (by (with_reducible repeat (first | apply Kd.V_alloc | apply Kd.V_drewN | apply Kd.V_drew)); exact HO_2.out) hb); have n1_ := Aside0.mk (Kd.R_below (by (with_reducible repeat (first | apply Kd.R_alloc | apply Kd.R_drewN | apply Kd.R_drew)); exact HO_9.out) hb); have n2_ := Aside0.mk (Kd.N_below (by (with_reducible repeat (first | apply Kd.N_alloc | apply Kd.N_drewN | apply Kd.N_drew)); exact HO_11.out) hb); have n3_ := Aside0.mk (Kd.C_below (by repeat (first | (with_reducible exact HR401_0.out) | (with_reducible refine Kd.C_alloc ?_ _) | (with_reducible refine Kd.C_drewN ?_ _) | (with_reducible refine Kd.C_drew ?_) | exact HR401_0.out)) hb); have n4_ := Aside0.mk (below_step (by repeat (first | (with_reducible first | exact HB.out | apply below_alloc | apply pw_below_drewN | apply below_drew1) | exact HB.out)) hb); clear HO_2; clear HO_9; clear HO_11; clear HR401_0; clear HB; have HO_2 := n0_; have HO_9 := n1_; have HO_11 := n2_; have HR401_0 := n3_; have HB := n4_; clear n0_ n1_ n2_ n3_ n4_; (try clear hb); (try clear hb2); (try clear hk); (try clear hi))))
                                        go_ret
                                        exact ⟨by first | rfl | (simp [errW_none, errW_some] <;> rfl) | (simp [*, errW_none, errW_some] <;> rfl), by repeat (first | (with_reducible first | exact HB.out | apply below_alloc | apply pw_below_drewN | apply below_drew1) | exact HB.out)⟩
                    · rw [if_neg c41] at H
                      exact absurd H (by simp)
                  · rw [if_neg c40] at H
                    exact absurd H (by simp)
          · rw [if_neg c17] at H
            exact absurd H (by simp)
        · rw [if_neg c16] at H
          exact absurd H (by simp)
end Go.Proofs.Ytoidpkpgeeeggaa.Q
end
section
namespace Go.Proofs.Ytoidpkpgeeeggaa.Q
open Go.RowKit Go.Proofs.YtoidpkpgeeeggaaW.PrintWords Go.Proofs.YtoidpkpgeeeggaaW.PrintLast Go.Proofs.YtoidpkpgeeeggaaW.PrintMore
attribute [local go_sem] max2_int min2_int max_two min_two max_three min_three max_four min_four   -- for this text's walks alone
set_option linter.unusedVariables false
set_option linter.unusedSimpArgs false
def antiquarylaw09_some.l0 : Nat → List (List Int) → List Int → Int → List (List Int) → Int → Option ((List (List Int)))
  | 0, _, _, _, _, _ => none
  | k + 1, x0, x1, x2, x7, x8 => if x8 < x2 then (if x8 < (x1.length : Int) then (if 0 ≤ x8 then (if (x0.length : Int) = 0 then (none) else (if 0 ≤ (Int.tmod (wrap64 (rd x1 x8)) (x0.length : Int)) then (if (Int.tmod (wrap64 (rd x1 x8)) (x0.length : Int)) < (x0.length : Int) then (if x7.length < 5864062014805 then (antiquarylaw09_some.l0 k x0 x1 x2 (x7 ++ [rd_L1 x0 (Int.tmod (wrap64 (rd x1 x8)) (x0.length : Int))]) (wrap64 (x8 + 1))) else (none)) else (none)) else (none))) else (none)) else (if 0 < (x0.length : Int) then (if x7.length < 5864062014805 then (antiquarylaw09_some.l0 k x0 x1 x2 (x7 ++ [rd_L1 x0 0]) (wrap64 (x8 + 1))) else (none)) else (none))) else (some x7)
def antiquarylaw09_some.f (k : Nat) (l0 : List (List Int)) (l1 : List Int) (a2 : Int) : Option ((List (List Int))) := antiquarylaw09_some.l0 k l0 l1 a2 ([] : List (List Int)) 0
end Go.Proofs.Ytoidpkpgeeeggaa.Q
end
section
namespace Go.Proofs.Ytoidpkpgeeeggaa.Q
open Go.RowKit Go.Proofs.YtoidpkpgeeeggaaW.PrintWords Go.Proofs.YtoidpkpgeeeggaaW.PrintLast Go.Proofs.YtoidpkpgeeeggaaW.PrintMore
attribute [local go_sem] max2_int min2_int max_two min_two max_three min_three max_four min_four   -- for this text's walks alone
set_option linter.unusedVariables false
set_option linter.unusedSimpArgs false
mutual
def antiquarylaw09_PivotsCoverWell.j0 : Nat → Int → List (List Int) → Int → List Int → Bool → Option (Bool)
  | 0, _, _, _, _, _ => none
  | k + 1, x0, x1, x2, x3, x33 => if x33 = true then ((antiquarylaw09_sanity.f k).bind fun t432 => (some t432)) else ((pivot_Choose.f x0 x1 (wrap64 (1 + (Int.tmod (wrap64 (x2)) 8)))).bind fun bt433 => (if bt433.2 = 0 then (if (bt433.1.length : Int) < 1 then (antiquarylaw09_PivotsCoverWell.j1 k x0 x1 x3 (wrap64 (1 + (Int.tmod (wrap64 (x2)) 8))) bt433.1 true) else (if (bt433.1.length : Int) > (wrap64 (1 + (Int.tmod (wrap64 (x2)) 8))) then (antiquarylaw09_PivotsCoverWell.j1 k x0 x1 x3 (wrap64 (1 + (Int.tmod (wrap64 (x2)) 8))) bt433.1 true) else (if 0 < (bt433.1.length : Int) then (antiquarylaw09_PivotsCoverWell.j1 k x0 x1 x3 (wrap64 (1 + (Int.tmod (wrap64 (x2)) 8))) bt433.1 ((rd bt433.1 0) != 0)) else (none)))) else (antiquarylaw09_PivotsCoverWell.j1 k x0 x1 x3 (wrap64 (1 + (Int.tmod (wrap64 (x2)) 8))) bt433.1 true)))
def antiquarylaw09_PivotsCoverWell.j1 : Nat → Int → List (List Int) → List Int → Int → List Int → Bool → Option (Bool)
  | 0, _, _, _, _, _, _ => none
  | k + 1, x0, x1, x3, x9, x10, x64 => if x64 = true then (some false) else (antiquarylaw09_PivotsCoverWell.l0 k x0 x1 x3 x9 x10 ([] : List (List Int)) 0)
def antiquarylaw09_PivotsCoverWell.l0 : Nat → Int → List (List Int) → List Int → Int → List Int → List (List Int) → Int → Option (Bool)
  | 0, _, _, _, _, _, _, _ => none
  | k + 1, x0, x1, x3, x9, x10, x12, x13 => if x13 < (x10.length : Int) then (if 0 ≤ x13 then (if (rd x10 x13) < 0 then (some false) else (if (rd x10 x13) ≥ (x1.length : Int) then (some false) else (if 0 ≤ (rd x10 x13) then (if (rd x10 x13) < (x1.length : Int) then (if x12.length < 5864062014805 then (antiquarylaw09_PivotsCoverWell.l0 k x0 x1 x3 x9 x10 (x12 ++ [rd_L1 x1 (rd x10 x13)]) (wrap64 (x13 + 1))) else (none)) else (none)) else (none)))) else (none)) else ((pivot_Cover.f k x0 x12 x1).bind fun bt445 => (if bt445.2 = 0 then (if (x10.length : Int) < x9 then (antiquarylaw09_PivotsCoverWell.j3 k x0 x1 x3 x9 x12 bt445.1 (bt445.1 != 0)) else (antiquarylaw09_PivotsCoverWell.j3 k x0 x1 x3 x9 x12 bt445.1 false)) else (antiquarylaw09_PivotsCoverWell.j3 k x0 x1 x3 x9 x12 bt445.1 true)))
def antiquarylaw09_PivotsCoverWell.j3 : Nat → Int → List (List Int) → List Int → Int → List (List Int) → Int → Bool → Option (Bool)
  | 0, _, _, _, _, _, _, _ => none
  | k + 1, x0, x1, x3, x9, x12, x14, x113 => if x113 = true then (some false) else (antiquarylaw09_PivotsCoverWell.l1 k x0 x1 x3 x9 x12 x14 0)
def antiquarylaw09_PivotsCoverWell.l1 : Nat → Int → List (List Int) → List Int → Int → List (List Int) → Int → Int → Option (Bool)
  | 0, _, _, _, _, _, _, _ => none
  | k + 1, x0, x1, x3, x9, x12, x14, x16 => if x16 < (x12.length : Int) then (antiquarylaw09_PivotsCoverWell.l2 k x0 x1 x3 x9 x12 x14 x16 0) else ((antiquarylaw09_some.f k x1 x3 x9).bind fun t450 => ((pivot_Cover.f k x0 t450 x1).bind fun bt453 => ((antiquarylaw09_sanity.f k).bind fun t455 => (if t455 = true then (if bt453.2 = 0 then ((metric_High.f x0 bt453.1 bt453.1).bind fun t456 => (some (decide (x14 ≤ t456)))) else (some false)) else (some false)))))
def antiquarylaw09_PivotsCoverWell.l2 : Nat → Int → List (List Int) → List Int → Int → List (List Int) → Int → Int → Int → Option (Bool)
  | 0, _, _, _, _, _, _, _, _ => none
  | k + 1, x0, x1, x3, x9, x12, x14, x16, x17 => if x17 < x16 then (if 0 ≤ x16 then (if x16 < (x12.length : Int) then (if 0 ≤ x17 then (if x17 < (x12.length : Int) then ((vector_Key.f k x0 (rd_L1 x12 x16) (rd_L1 x12 x17)).bind fun t449 => (if t449 = 0 then (some false) else (if t449 < x14 then (some false) else (antiquarylaw09_PivotsCoverWell.l2 k x0 x1 x3 x9 x12 x14 x16 (wrap64 (x17 + 1)))))) else (none)) else (none)) else (none)) else (none)) else (antiquarylaw09_PivotsCoverWell.l1 k x0 x1 x3 x9 x12 x14 (wrap64 (x16 + 1)))
end
theorem antiquarylaw09_PivotsCoverWell.j1_no (k : Nat) {x0} {x1} {x2} {x3} {x4} : antiquarylaw09_PivotsCoverWell.j1 k x0 x1 x2 x3 x4 true ≠ some true := by cases k <;> simp [antiquarylaw09_PivotsCoverWell.j1]
end Go.Proofs.Ytoidpkpgeeeggaa.Q
end
section
namespace Go.Proofs.Ytoidpkpgeeeggaa.Q
open Go.RowKit Go.Proofs.YtoidpkpgeeeggaaW.PrintWords Go.Proofs.YtoidpkpgeeeggaaW.PrintLast Go.Proofs.YtoidpkpgeeeggaaW.PrintMore
attribute [local go_sem] max2_int min2_int max_two min_two max_three min_three max_four min_four   -- for this text's walks alone
set_option linter.unusedVariables false
set_option linter.unusedSimpArgs false
mutual
def antiquarylaw09_PivotMoreIsBetter.j0 : Nat → Int → List (List Int) → List (List Int) → List Int → List Int → Bool → Option (Bool)
  | 0, _, _, _, _, _, _ => none
  | k + 1, x0, x1, x2, x3, x4, x67 => if x67 = true then ((antiquarylaw09_sanity.f k).bind fun t463 => (some t463)) else ((some (([] : List (List Int)) : List (List Int))).bind fun y464 => (if y464.length + x1.length < 5864062014805 then ((some (y464 ++ x1 : List (List Int))).bind fun y467 => (if y467.length < 5864062014805 then ((some (y467 ++ [x4] : List (List Int))).bind fun y470 => ((pivot_Cover.f k x0 x1 x2).bind fun bt473 => ((pivot_Cover.f k x0 y470 x2).bind fun bt475 => ((pivot_Shells.f x0 x1 x2).bind fun bt477 => ((pivot_Shells.f x0 y470 x2).bind fun bt481 => ((pivot_Table.f k x0 y470 (([x3] : List (List Int)))).bind fun bt488 => (if bt473.2 = 0 then (if bt475.2 = 0 then (if bt477.2 = 0 then (if bt481.2 = 0 then (if bt488.2 = 0 then (if (bt488.1.length : Int) = 1 then (if 0 < (bt488.1.length : Int) then (if ((rd_L1 bt488.1 0).length : Int) = (y470.length : Int) then (antiquarylaw09_PivotMoreIsBetter.j1 k x0 x1 x3 y470 bt477.1 bt481.1 bt488.1 (decide (bt475.1 > bt473.1))) else (antiquarylaw09_PivotMoreIsBetter.j1 k x0 x1 x3 y470 bt477.1 bt481.1 bt488.1 true)) else (none)) else (antiquarylaw09_PivotMoreIsBetter.j1 k x0 x1 x3 y470 bt477.1 bt481.1 bt488.1 true)) else (antiquarylaw09_PivotMoreIsBetter.j1 k x0 x1 x3 y470 bt477.1 bt481.1 bt488.1 true)) else (antiquarylaw09_PivotMoreIsBetter.j1 k x0 x1 x3 y470 bt477.1 bt481.1 bt488.1 true)) else (antiquarylaw09_PivotMoreIsBetter.j1 k x0 x1 x3 y470 bt477.1 bt481.1 bt488.1 true)) else (antiquarylaw09_PivotMoreIsBetter.j1 k x0 x1 x3 y470 bt477.1 bt481.1 bt488.1 true)) else (antiquarylaw09_PivotMoreIsBetter.j1 k x0 x1 x3 y470 bt477.1 bt481.1 bt488.1 true)))))))) else (none))) else (none)))
def antiquarylaw09_PivotMoreIsBetter.j1 : Nat → Int → List (List Int) → List Int → List (List Int) → List (S57) → List (S57) → List (List Int) → Bool → Option (Bool)
  | 0, _, _, _, _, _, _, _, _ => none
  | k + 1, x0, x1, x3, x11, x16, x18, x20, x147 => if x147 = true then (some false) else (if 0 < (x20.length : Int) then (if 0 ≤ (x1.length : Int) then (if (x1.length : Int) ≤ ((rd_L1 x20 0).length : Int) then ((pivot_Low.f x0 x16 ((rd_L1 x20 0).take ((x1.length : Int) : Int).toNat)).bind fun bt499 => ((pivot_Low.f x0 x18 (rd_L1 x20 0)).bind fun bt502 => ((pivot_High.f x0 x16 ((rd_L1 x20 0).take ((x1.length : Int) : Int).toNat)).bind fun bt510 => ((pivot_High.f x0 x18 (rd_L1 x20 0)).bind fun bt513 => ((pivot_Nearest.f k x0 x1 x3).bind fun bt515 => ((pivot_Nearest.f k x0 x11 x3).bind fun bt518 => (if bt499.2 = 0 then (if bt502.2 = 0 then (if bt510.2 = 0 then (if bt513.2 = 0 then (if bt515.2.2 = 0 then ((antiquarylaw09_sanity.f k).bind fun t521 => (if t521 = true then (if bt518.2.2 = 0 then (if bt502.1 ≥ bt499.1 then (if bt513.1 ≤ bt510.1 then (if bt502.1 ≤ bt513.1 then (if bt518.2.1 ≤ bt515.2.1 then (if bt518.1 = bt515.1 then (if bt518.2.1 = bt515.2.1 then (some true) else (if bt518.1 = (x1.length : Int) then (some (decide (bt518.2.1 < bt515.2.1))) else (some false))) else (if bt518.1 = (x1.length : Int) then (some (decide (bt518.2.1 < bt515.2.1))) else (some false))) else (some false)) else (some false)) else (some false)) else (some false)) else (some false)) else (some false))) else ((antiquarylaw09_sanity.f k).bind fun t522 => (if t522 = true then (some false) else (some false)))) else ((antiquarylaw09_sanity.f k).bind fun t523 => (if t523 = true then (some false) else (some false)))) else ((antiquarylaw09_sanity.f k).bind fun t524 => (if t524 = true then (some false) else (some false)))) else ((antiquarylaw09_sanity.f k).bind fun t525 => (if t525 = true then (some false) else (some false)))) else ((antiquarylaw09_sanity.f k).bind fun t526 => (if t526 = true then (some false) else (some false)))))))))) else (none)) else (none)) else (none))
end
theorem antiquarylaw09_PivotMoreIsBetter.j1_no (k : Nat) {x0} {x1} {x2} {x3} {x4} {x5} {x6} : antiquarylaw09_PivotMoreIsBetter.j1 k x0 x1 x2 x3 x4 x5 x6 true ≠ some true := by cases k <;> simp [antiquarylaw09_PivotMoreIsBetter.j1]
end Go.Proofs.Ytoidpkpgeeeggaa.Q
end
section
namespace Go.Proofs.Ytoidpkpgeeeggaa.Q
open Go.RowKit Go.Proofs.YtoidpkpgeeeggaaW.PrintWords Go.Proofs.YtoidpkpgeeeggaaW.PrintLast Go.Proofs.YtoidpkpgeeeggaaW.PrintMore
attribute [local go_sem] max2_int min2_int max_two min_two max_three min_three max_four min_four   -- for this text's walks alone
set_option linter.unusedVariables false
set_option linter.unusedSimpArgs false
mutual
def pivot_Join.j0 : Nat → List (S57) → List (S57) → Bool → Option ((List (S57)) × Int)
  | 0, _, _, _ => none
  | k + 1, x0, x1, x24 => if x24 = true then (some (([] : List (S57)), 1)) else (pivot_Join.l0 k x1 ([] : List (S57)) x0 (x0.length : Int) 0)
def pivot_Join.l0 : Nat → List (S57) → List (S57) → List (S57) → Int → Int → Option ((List (S57)) × Int)
  | 0, _, _, _, _, _ => none
  | k + 1, x1, x6, x25, x26, x27 => if x27 < x26 then (if 0 ≤ x27 then (if x27 < (x25.length : Int) then ((pivot_of.f ((rd_T57 x25 x27).f0) ((rd_T57 x25 x27).f1)).bind fun bt531 => (if x27 < (x1.length : Int) then ((pivot_pair_int_with.f bt531.1 bt531.2 ((rd_T57 x1 x27).f0)).bind fun bt534 => ((pivot_pair_int_with.f bt534.1 bt534.2 ((rd_T57 x1 x27).f1)).bind fun bt537 => (if x6.length < 8796093022208 then (pivot_Join.l0 k x1 (x6 ++ [(⟨bt537.1, bt537.2⟩ : S57)]) x25 x26 (wrap64 (x27 + 1))) else (none)))) else (none))) else (none)) else (none)) else (some (x6, 0))
end
def pivot_Join.f (k : Nat) (l0 : List (S57)) (l1 : List (S57)) : Option ((List (S57)) × Int) := (pivot_Valid.f k l0).bind fun t527 => (if t527 = true then ((pivot_Valid.f k l1).bind fun t528 => (if t528 = true then (pivot_Join.j0 k l0 l1 ((l0.length : Int) != (l1.length : Int))) else (pivot_Join.j0 k l0 l1 true))) else (pivot_Join.j0 k l0 l1 true))
end Go.Proofs.Ytoidpkpgeeeggaa.Q
end
section
namespace Go.Proofs.Ytoidpkpgeeeggaa.Q
open Go.RowKit Go.Proofs.YtoidpkpgeeeggaaW.PrintWords Go.Proofs.YtoidpkpgeeeggaaW.PrintLast Go.Proofs.YtoidpkpgeeeggaaW.PrintMore
attribute [local go_sem] max2_int min2_int max_two min_two max_three min_three max_four min_four   -- for this text's walks alone
set_option linter.unusedVariables false
set_option linter.unusedSimpArgs false
mutual
def antiquarylaw09_PivotShellsJoin.j0 : Nat → Int → List (S57) → List (S57) → List Int → List Int → Bool → Option (Bool)
  | 0, _, _, _, _, _, _ => none
  | k + 1, x0, x1, x2, x3, x4, x57 => if x57 = true then ((antiquarylaw09_sanity.f k).bind fun t645 => (some t645)) else ((pivot_Join.f k x1 x2).bind fun bt646 => ((pivot_Join.f k x2 x1).bind fun bt650 => (if bt646.2 = 0 then (if bt650.2 = 0 then ((antiquaryref09_SameShells.f k bt646.1 bt650.1).bind fun t654 => (if t654 = true then ((pivot_Valid.f k bt646.1).bind fun t655 => (antiquarylaw09_PivotShellsJoin.j1 k x0 x1 x2 x3 x4 bt646.1 (!t655))) else (antiquarylaw09_PivotShellsJoin.j1 k x0 x1 x2 x3 x4 bt646.1 true))) else (antiquarylaw09_PivotShellsJoin.j1 k x0 x1 x2 x3 x4 bt646.1 true)) else (antiquarylaw09_PivotShellsJoin.j1 k x0 x1 x2 x3 x4 bt646.1 true))))
def antiquarylaw09_PivotShellsJoin.j1 : Nat → Int → List (S57) → List (S57) → List Int → List Int → List (S57) → Bool → Option (Bool)
  | 0, _, _, _, _, _, _, _ => none
  | k + 1, x0, x1, x2, x3, x4, x11, x87 => if x87 = true then (some false) else ((pivot_In.f k x1 x4).bind fun t656 => (if t656 = true then ((pivot_In.f k x11 x4).bind fun t657 => (antiquarylaw09_PivotShellsJoin.j2 k x0 x1 x2 x3 x11 (!t657))) else ((pivot_In.f k x2 x4).bind fun t658 => (if t658 = true then ((pivot_In.f k x11 x4).bind fun t659 => (antiquarylaw09_PivotShellsJoin.j2 k x0 x1 x2 x3 x11 (!t659))) else (antiquarylaw09_PivotShellsJoin.j2 k x0 x1 x2 x3 x11 false)))))
def antiquarylaw09_PivotShellsJoin.j2 : Nat → Int → List (S57) → List (S57) → List Int → List (S57) → Bool → Option (Bool)
  | 0, _, _, _, _, _, _ => none
  | k + 1, x0, x1, x2, x3, x11, x101 => if x101 = true then (some false) else ((pivot_Low.f x0 x11 x3).bind fun bt660 => (if bt660.2 = 0 then ((pivot_Low.f x0 x1 x3).bind fun bt663 => ((pivot_Low.f x0 x2 x3).bind fun bt665 => ((pivot_High.f x0 x11 x3).bind fun bt667 => ((pivot_High.f x0 x1 x3).bind fun bt669 => ((pivot_High.f x0 x2 x3).bind fun bt671 => (if bt663.2 = 0 then (if bt665.2 = 0 then (if bt667.2 = 0 then (if bt669.2 = 0 then ((antiquarylaw09_sanity.f k).bind fun t673 => (if t673 = true then (if bt671.2 = 0 then (if bt660.1 ≤ (mn bt663.1 bt665.1) then (some (decide (bt667.1 ≥ (mx bt669.1 bt671.1)))) else (some false)) else (some false)) else (some false))) else ((antiquarylaw09_sanity.f k).bind fun t674 => (if t674 = true then (some false) else (some false)))) else ((antiquarylaw09_sanity.f k).bind fun t675 => (if t675 = true then (some false) else (some false)))) else ((antiquarylaw09_sanity.f k).bind fun t676 => (if t676 = true then (some false) else (some false)))) else ((antiquarylaw09_sanity.f k).bind fun t677 => (if t677 = true then (some false) else (some false))))))))) else ((antiquarylaw09_sanity.f k).bind fun t662 => (some t662))))
end
theorem antiquarylaw09_PivotShellsJoin.j1_no (k : Nat) {x0} {x1} {x2} {x3} {x4} {x5} : antiquarylaw09_PivotShellsJoin.j1 k x0 x1 x2 x3 x4 x5 true ≠ some true := by cases k <;> simp [antiquarylaw09_PivotShellsJoin.j1]
theorem antiquarylaw09_PivotShellsJoin.j2_no (k : Nat) {x0} {x1} {x2} {x3} {x4} : antiquarylaw09_PivotShellsJoin.j2 k x0 x1 x2 x3 x4 true ≠ some true := by cases k <;> simp [antiquarylaw09_PivotShellsJoin.j2]
end Go.Proofs.Ytoidpkpgeeeggaa.Q
end
section
set_option linter.unusedVariables false
namespace Go.Proofs.Ytoidpkpgeeeggaa.EvShell
open Go.RowKit Go.Proofs.Ytoidpkpgeeeggaa.Q Go.Proofs.YtoidpkpgeeeggaaW.PrintWords Plain
theorem rdT (l : List S57) (i : Nat) : rd_T57 l (i : Int) = l.getD i z57 := by unfold rd_T57; rw [Int.toNat_natCast]
theorem valid_iff (l : List S57) : validSh l ↔ (∀ i, i < l.length → 0 ≤ (rd_T57 l (i : Int)).f0 ∧ (rd_T57 l (i : Int)).f0 ≤ (rd_T57 l (i : Int)).f1 ∧ (rd_T57 l (i : Int)).f1 ≤ 134217728) ∧ l.length ≤ 8 := by
  unfold validSh
  rw [all_lt l z57]
  simp only [rdT]
def joins (a b : List S57) : Prop := validSh a ∧ validSh b ∧ a.length = b.length
instance (a b : List S57) : Decidable (joins a b) := by unfold joins; infer_instance
theorem at_valid {a : List S57} (h : validSh a) {i : Nat} (hi : i < a.length) : 0 ≤ (rd_T57 a (i : Int)).f0 ∧ (rd_T57 a (i : Int)).f0 ≤ (rd_T57 a (i : Int)).f1 ∧ (rd_T57 a (i : Int)).f1 ≤ 134217728 := ((valid_iff a).1 h).1 i hi
/-- keys in shells -/
def inSh (l : List S57) (ks : List Int) : Prop := validSh l ∧ ks.length = l.length ∧ ∀ i, i < l.length → (rd_T57 l (i : Int)).f0 ≤ rd ks (i : Int) ∧ rd ks (i : Int) ≤ (rd_T57 l (i : Int)).f1
instance (l : List S57) (ks : List Int) : Decidable (inSh l ks) := by unfold inSh; infer_instance
theorem has_is (lo hi x : Int) (h : lo ≤ hi) : pivot_pair_int_has.f lo hi x = some (decide (lo ≤ x ∧ x ≤ hi)) := by
  unfold pivot_pair_int_has.f pivot_pair_int_with.f
  refine Plain.bind_of rfl ?_
  congr 1
  rw [Bool.eq_iff_iff, Bool.and_eq_true, beq_iff_eq, beq_iff_eq, decide_eq_true_eq]
  unfold mn mx
  dsimp only
  split <;> split <;> omega
theorem in_ev {l : List S57} {ks : List Int} (hl : l.length ≤ 4611686018427387904) : Ev (fun k => pivot_In.f k l ks) (decide (inSh l ks)) := by
  have no : ¬ inSh l ks → Ev (fun k => pivot_In.j0 k l ks true) (decide (inSh l ks)) := fun h => by
    refine ev_succ ?_
    simp only [pivot_In.j0]
    exact ev_pos (by first | rfl | trivial) (ev_some (decide_eq_false h).symm)
  refine ev_bind (pivot_Valid.ev l hl) ?_
  by_cases h1 : validSh l
  · refine ev_pos (by simpa using h1) ?_
    have h8 := h1.2
    by_cases h3 : ks.length = l.length
    · rw [show ((ks.length : Int) != (l.length : Int)) = false by simp [h3]]
      refine ev_succ ?_
      simp only [pivot_In.j0]
      refine ev_neg (by simp) ?_
      refine ev_cast (ev_count (G := fun i k => pivot_In.l0 k ks l (l.length : Int) (i : Int)) (n := l.length) (r := decide (inSh l ks)) (fun i => ∀ j, j < i → (rd_T57 l (j : Int)).f0 ≤ rd ks (j : Int) ∧ rd ks (j : Int) ≤ (rd_T57 l (j : Int)).f1) (fun j hj => by omega) (fun i hi hI h => ?_) (fun hI => ?_)) rfl
      · refine ev_succ ?_
        simp only [pivot_In.l0]
        have va := at_valid h1 hi
        refine ev_pos (by omega) (ev_pos (by omega) (ev_pos (by omega) (ev_ob (show pivot_of.f _ _ = some (_, _) from rfl) (ev_pos (by omega) (ev_ob (has_is _ _ _ va.2.1) ?_)))))
        by_cases c : (rd_T57 l (i : Int)).f0 ≤ rd ks (i : Int) ∧ rd ks (i : Int) ≤ (rd_T57 l (i : Int)).f1
        · refine ev_pos (by simpa using c) ?_
          rw [wsuc i (by omega)]
          refine h (fun j hj => ?_)
          rcases Nat.lt_succ_iff_lt_or_eq.1 hj with h1 | rfl
          · exact hI j h1
          · exact c
        · exact ev_neg (by simpa using c) (ev_some (decide_eq_false (fun h => c (h.2.2 i hi))).symm)
      · refine ev_succ ?_
        simp only [pivot_In.l0]
        exact ev_neg (by omega) (ev_some (decide_eq_true (⟨h1, h3, hI⟩ : inSh l ks)).symm)
    · rw [show ((ks.length : Int) != (l.length : Int)) = true by rw [bne_iff_ne]; omega]
      exact no (fun h => h3 h.2.1)
  · exact ev_neg (by simpa using h1) (no (fun h => h1 h.1))
/-- the shells and keys that Low and High take -/
def askedSh (m : Int) (l : List S57) (ks : List Int) : Prop := ((1 ≤ m ∧ m ≤ 3) ∧ validSh l ∧ ks.length = l.length) ∧ keysGood ks
instance (m : Int) (l : List S57) (ks : List Int) : Decidable (askedSh m l ks) := by unfold askedSh; infer_instance
def lowOf (m : Int) (l : List S57) (ks : List Int) : Nat → Int := bestAt (fun b s k => mx b (Plain.gap m s.f0 s.f1 k)) 0 l ks
def highOf (m : Int) (l : List S57) (ks : List Int) : Nat → Int := bestAt (fun b s k => mn b (Plain.high m k s.f1)) 134217728 l ks
theorem low_is (m : Int) {l : List S57} {ks : List Int} (hl : l.length ≤ 4611686018427387904) (hk : ks.length ≤ 4611686018427387904) : pivot_Low.f m l ks = some (if askedSh m l ks then (lowOf m l ks l.length, 0) else (0, 1)) := if_pos ⟨hl, hk⟩
theorem high_is (m : Int) {l : List S57} {ks : List Int} (hl : l.length ≤ 4611686018427387904) (hk : ks.length ≤ 4611686018427387904) : pivot_High.f m l ks = some (if askedSh m l ks then (highOf m l ks l.length, 0) else (0, 1)) := if_pos ⟨hl, hk⟩
end Go.Proofs.Ytoidpkpgeeeggaa.EvShell
end
section
set_option linter.unusedVariables false
namespace Go.Proofs.Ytoidpkpgeeeggaa.EvTab
open Go.RowKit Go.Proofs.Ytoidpkpgeeeggaa.Q Go.Proofs.YtoidpkpgeeeggaaW.PrintWords Plain Go
theorem few_ev (l : List (List Int)) (most : Int) (hm : most ≤ 1000) : Ev (fun k => antiquaryref09_Few.f k l most) (decide ((l.length : Int) ≤ most ∧ ∀ v ∈ l, v.length ≤ 40)) := by
  unfold antiquaryref09_Few.f
  by_cases h : (l.length : Int) > most
  · exact ev_pos h (ev_some (decide_eq_false (fun h2 => by have := h2.1; omega)).symm)
  refine ev_neg h ?_
  have hall := all_lt l [] (fun v => v.length ≤ 40)
  refine ev_count (G := fun i k => antiquaryref09_Few.l0 k l (i : Int)) (n := l.length) (fun i => ∀ j, j < i → (l.getD j []).length ≤ 40) (fun j hj => by omega) (fun i hi hI h2 => ?_) (fun hI => ?_)
  · refine ev_succ ?_
    simp only [antiquaryref09_Few.l0]
    refine ev_pos (by omega) (ev_pos (by omega) ?_)
    rw [show rd_L1 l (i : Int) = l.getD i [] by unfold rd_L1; rw [Int.toNat_natCast]]
    by_cases c : ((l.getD i []).length : Int) > 40
    · exact ev_pos c (ev_some (decide_eq_false (fun h => by have := hall.1 h.2 i hi; omega)).symm)
    · refine ev_neg c ?_
      rw [wsuc i (by omega)]
      refine h2 (fun j hj => ?_)
      rcases Nat.lt_succ_iff_lt_or_eq.1 hj with h1 | rfl
      · exact hI j h1
      · omega
  · refine ev_succ ?_
    simp only [antiquaryref09_Few.l0]
    refine ev_neg (by omega) (ev_some ?_)
    symm
    rw [decide_eq_true_eq]
    exact ⟨by omega, hall.2 hI⟩
theorem few_of {l : List (List Int)} {most : Int} (hm : most ≤ 1000) (h : (l.length : Int) ≤ most ∧ ∀ v ∈ l, v.length ≤ 40) : pivot_few l := ⟨by omega, fun v hv => by have := h.2 v hv; omega⟩
def isPivots (m : Int) (p : List (List Int)) : Prop := (1 ≤ m ∧ m ≤ 3) ∧ pivot_isFit p ∧ p.length ≤ 8
instance (m : Int) (p : List (List Int)) : Decidable (isPivots m p) := by unfold isPivots; infer_instance
theorem row0_fit {l : List (List Int)} (h : pivot_isFit l) : isVec (rowOf l 0) := (h.2.2 _ (rowOf_mem (i := 0) (by have := h.1; omega))).1
theorem tableOf_length (m : Int) (p l : List (List Int)) : (tableOf m p l).length = l.length := by simp [tableOf]
theorem keysOf_length (m : Int) (p : List (List Int)) (v : List Int) : (keysOf m p v).length = p.length := by simp [keysOf]
theorem row_table {m : Int} {p l : List (List Int)} {i : Nat} (h : i < l.length) : rowOf (tableOf m p l) i = keysOf m p (rowOf l i) := by
  unfold rowOf tableOf; simp [List.getD_eq_getElem?_getD, h]
end Go.Proofs.Ytoidpkpgeeeggaa.EvTab
end
section
set_option linter.unusedVariables false
namespace Go.Proofs.Ytoidpkpgeeeggaa.EvFit
open Go.RowKit Go.Proofs.Ytoidpkpgeeeggaa.Q Go.Proofs.YtoidpkpgeeeggaaW.PrintWords Plain Go.Proofs.Ytoidpkpgeeeggaa.EvTab Go
def sized (l : List (List Int)) : Prop := l.length ≤ 9223372036854775807 ∧ ∀ v ∈ l, v.length ≤ 9223372036854775807
theorem vec_iff (v : List Int) : isVec v ↔ (∀ i, i < v.length → -1000 ≤ rd v (i : Int) ∧ rd v (i : Int) ≤ 1000) ∧ 1 ≤ v.length ∧ v.length ≤ 32 := by
  unfold isVec
  rw [all_lt v 0]
  simp only [rd, Int.toNat_natCast]
theorem rvec_ev {v : List Int} (hv : v.length ≤ 9223372036854775807) : Ev (fun k => antiquaryref04_Valid.f k v) (decide (isVec v)) := by
  have hi := vec_iff v
  refine ev_count (G := fun i k => antiquaryref04_Valid.l0 k v (i : Int)) (n := v.length) (fun i => ∀ j, j < i → -1000 ≤ rd v (j : Int) ∧ rd v (j : Int) ≤ 1000) (fun j hj => by omega) (fun i hl hI h => ?_) (fun hI => ?_)
  · refine ev_succ ?_
    simp only [antiquaryref04_Valid.l0]
    refine ev_pos (by omega) (ev_pos (by omega) ?_)
    have bad : ¬ (-1000 ≤ rd v (i : Int) ∧ rd v (i : Int) ≤ 1000) → false = decide (isVec v) := fun c => (decide_eq_false (fun h => c ((hi.1 h).1 i hl))).symm
    by_cases c1 : rd v (i : Int) < -1000
    · exact ev_pos c1 (ev_some (bad (by omega)))
    refine ev_neg c1 ?_
    by_cases c2 : rd v (i : Int) > 1000
    · exact ev_pos c2 (ev_some (bad (by omega)))
    refine ev_neg c2 ?_
    rw [wsuc i (by omega)]
    refine h (fun j hj => ?_)
    rcases Nat.lt_succ_iff_lt_or_eq.1 hj with h1 | rfl
    · exact hI j h1
    · omega
  · refine ev_succ ?_
    simp only [antiquaryref04_Valid.l0]
    refine ev_neg (by omega) ?_
    by_cases c : (v.length : Int) ≥ 1
    · refine ev_pos c (ev_some ?_)
      rw [Bool.eq_iff_iff, decide_eq_true_eq, decide_eq_true_eq, hi]
      exact ⟨fun h => ⟨hI, by omega, by omega⟩, fun h => by have := h.2.2; omega⟩
    · exact ev_neg c (ev_some (decide_eq_false (fun h => by have := ((hi.1 h).2).1; omega)).symm)
theorem fit_iff (l : List (List Int)) : pivot_isFit l ↔ (∀ i, i < l.length → isVec (rowOf l i) ∧ (rowOf l i).length = (rowOf l 0).length) ∧ 1 ≤ l.length ∧ l.length ≤ 4096 := by
  unfold pivot_isFit
  rw [all_lt l []]
  constructor
  · rintro ⟨h1, h2, h3⟩
    exact ⟨fun i hi => ⟨(h3 i hi).2.1, (h3 i hi).2.2.symm⟩, h1, h2⟩
  · rintro ⟨h1, h2, h3⟩
    exact ⟨h2, h3, fun i hi => ⟨(h1 0 (by omega)).1, (h1 i hi).1, (h1 i hi).2.symm⟩⟩
theorem fit_ev {l : List (List Int)} (hl : sized l) : Ev (fun k => antiquaryref09_Fit.f k l) (decide (pivot_isFit l)) := by
  have hi := fit_iff l
  have l1 := hl.1
  refine ev_count (G := fun i k => antiquaryref09_Fit.l0 k l (i : Int)) (n := l.length) (fun i => ∀ j, j < i → isVec (rowOf l j) ∧ (rowOf l j).length = (rowOf l 0).length) (fun j hj => by omega) (fun i hlt hI h => ?_) (fun hI => ?_)
  · refine ev_succ ?_
    simp only [antiquaryref09_Fit.l0]
    refine ev_pos (by omega) (ev_pos (by omega) ?_)
    rw [rdL_row, show rd_L1 l 0 = rowOf l 0 from rdL_row l 0]
    refine ev_bind (rvec_ev (hl.2 _ (rowOf_mem hlt))) ?_
    by_cases c1 : isVec (rowOf l i)
    · refine ev_pos (decide_eq_true c1) (ev_pos (by omega) ?_)
      by_cases c2 : ((rowOf l i).length : Int) = ((rowOf l 0).length : Int)
      · refine ev_pos c2 ?_
        rw [wsuc i (by omega)]
        refine h (fun j hj => ?_)
        rcases Nat.lt_succ_iff_lt_or_eq.1 hj with h1 | rfl
        · exact hI j h1
        · exact ⟨c1, by omega⟩
      · exact ev_neg c2 (ev_some (decide_eq_false (fun h => c2 (by have := ((hi.1 h).1 i hlt).2; omega))).symm)
    · exact ev_neg (fun h => c1 (of_decide_eq_true h)) (ev_some (decide_eq_false (fun h => c1 ((hi.1 h).1 i hlt).1)).symm)
  · refine ev_succ ?_
    simp only [antiquaryref09_Fit.l0]
    refine ev_neg (by omega) ?_
    by_cases c : (l.length : Int) ≥ 1
    · refine ev_pos c (ev_some ?_)
      rw [Bool.eq_iff_iff, decide_eq_true_eq, decide_eq_true_eq, hi]
      exact ⟨fun h => ⟨hI, by omega, by omega⟩, fun h => by have := h.2.2; omega⟩
    · exact ev_neg c (ev_some (decide_eq_false (fun h => by have := ((hi.1 h).2).1; omega)).symm)
theorem pivotsG_ev (m : Int) {p : List (List Int)} (hp : sized p) : Ev (fun k => antiquaryref09_Pivots.f k m p) (decide (isPivots m p)) := by
  unfold antiquaryref09_Pivots.f
  refine ev_ob (ref09_Metric_is m) ?_
  by_cases h1 : 1 ≤ m ∧ m ≤ 3
  · refine ev_pos (by simpa using h1) (ev_bind (fit_ev hp) ?_)
    by_cases h2 : pivot_isFit p
    · refine ev_pos (by simpa using h2) (ev_some ?_)
      rw [Bool.eq_iff_iff, decide_eq_true_eq, decide_eq_true_eq]
      exact ⟨fun h => ⟨h1, h2, by omega⟩, fun h => by have := h.2.2; omega⟩
    · exact ev_neg (by simpa using h2) (ev_some (decide_eq_false (fun h => h2 h.2.1)).symm)
  · exact ev_neg (by simpa using h1) (ev_some (decide_eq_false (fun h => h1 h.1)).symm)
theorem bothG_ev (m : Int) {p l : List (List Int)} (hp : sized p) (hl : sized l) : Ev (fun k => antiquaryref09_Both.f k m p l) (decide (tabOk m p l)) := by
  unfold antiquaryref09_Both.f
  refine ev_bind (pivotsG_ev m hp) ?_
  by_cases h1 : isPivots m p
  · refine ev_pos (decide_eq_true h1) (ev_bind (fit_ev hl) ?_)
    by_cases h2 : pivot_isFit l
    · have a1 := h1.2.1.1
      have a2 := h2.1
      refine ev_pos (by simpa using h2) (ev_pos (by omega) (ev_pos (by omega) (ev_some ?_)))
      rw [show rd_L1 l 0 = rowOf l 0 from rdL_row l 0, show rd_L1 p 0 = rowOf p 0 from rdL_row p 0, Bool.eq_iff_iff, beq_iff_eq, decide_eq_true_eq]
      exact ⟨fun h => ⟨h1, h2, row0_fit h1.2.1, row0_fit h2, by omega⟩, fun (h : tabOk m p l) => by have := h.2.2.2.2; omega⟩
    · exact ev_neg (by simpa using h2) (ev_some (decide_eq_false (fun h => h2 h.2.1)).symm)
  · exact ev_neg (fun h => h1 (of_decide_eq_true h)) (ev_some (decide_eq_false (fun h => h1 h.1)).symm)
/-- lists that fit are small -/
theorem fit_small {l : List (List Int)} (h : pivot_isFit l) : pivot_smallRows l := ⟨by have := h.2.1; omega, fun v hv => by have := (h.2.2 v hv).2.1.2.2; omega⟩
end Go.Proofs.Ytoidpkpgeeeggaa.EvFit
end
section
set_option linter.unusedVariables false
namespace Go.Proofs.Ytoidpkpgeeeggaa.Hold
open Go.RowKit Go.Proofs.Ytoidpkpgeeeggaa.Q Go.Proofs.YtoidpkpgeeeggaaW.PrintWords Plain Go.Proofs.Ytoidpkpgeeeggaa.EvTab Go.Proofs.Ytoidpkpgeeeggaa.EvShell Go.Proofs.Ytoidpkpgeeeggaa.EvFit Go
theorem rd_keys {m : Int} {p : List (List Int)} {v : List Int} {j : Nat} (h : j < p.length) : rd (keysOf m p v) (j : Int) = key m (rowOf p j) v := by
  unfold rd keysOf rowOf
  rw [Int.toNat_natCast]
  simp [List.getD_eq_getElem?_getD, h]
theorem shellUp_spec (k : Nat) : ∀ (rows : List (List Int)) (s : Int × Int), ((shellUp k s rows).1 ≤ s.1 ∧ s.2 ≤ (shellUp k s rows).2) ∧ (∀ row ∈ rows, (shellUp k s rows).1 ≤ rd row (k : Int) ∧ rd row (k : Int) ≤ (shellUp k s rows).2) ∧
    ((shellUp k s rows).1 = s.1 ∨ ∃ row ∈ rows, (shellUp k s rows).1 = rd row (k : Int)) ∧ ((shellUp k s rows).2 = s.2 ∨ ∃ row ∈ rows, (shellUp k s rows).2 = rd row (k : Int))
  | [], s => ⟨⟨Int.le_refl _, Int.le_refl _⟩, (fun row h => by cases h), .inl rfl, .inl rfl⟩
  | r :: rows, s => by
    have e : shellUp k s (r :: rows) = shellUp k (mn s.1 (rd r (k : Int)), mx s.2 (rd r (k : Int))) rows := rfl
    obtain ⟨⟨h1, h2⟩, h3, h4, h5⟩ := shellUp_spec k rows (mn s.1 (rd r (k : Int)), mx s.2 (rd r (k : Int)))
    rw [← e] at h1 h2 h3 h4 h5
    have a1 : mn s.1 (rd r (k : Int)) ≤ s.1 ∧ mn s.1 (rd r (k : Int)) ≤ rd r (k : Int) ∧ (mn s.1 (rd r (k : Int)) = s.1 ∨ mn s.1 (rd r (k : Int)) = rd r (k : Int)) := by unfold mn; split <;> omega
    have a2 : s.2 ≤ mx s.2 (rd r (k : Int)) ∧ rd r (k : Int) ≤ mx s.2 (rd r (k : Int)) ∧ (mx s.2 (rd r (k : Int)) = s.2 ∨ mx s.2 (rd r (k : Int)) = rd r (k : Int)) := by unfold mx; split <;> omega
    dsimp only at h1 h2 h4 h5
    refine ⟨⟨by omega, by omega⟩, fun row hr => ?_, ?_, ?_⟩
    · rcases List.mem_cons.1 hr with rfl | hr
      · omega
      · exact h3 row hr
    · rcases h4 with h4 | ⟨row, hr, h4⟩
      · rcases a1.2.2 with h | h
        · exact .inl (by omega)
        · exact .inr ⟨r, List.mem_cons_self, by omega⟩
      · exact .inr ⟨row, List.mem_cons_of_mem _ hr, h4⟩
    · rcases h5 with h5 | ⟨row, hr, h5⟩
      · rcases a2.2.2 with h | h
        · exact .inl (by omega)
        · exact .inr ⟨r, List.mem_cons_self, by omega⟩
      · exact .inr ⟨row, List.mem_cons_of_mem _ hr, h5⟩
def shells (m : Int) (p l : List (List Int)) : List S57 := shellsOf (tableOf m p l) p.length
theorem shells_length (m : Int) (p l : List (List Int)) : (shells m p l).length = p.length := by simp [shells, shellsOf]
theorem rd_shells {m : Int} {p l : List (List Int)} {j : Nat} (h : j < p.length) : rd_T57 (shells m p l) (j : Int) = shellAt (tableOf m p l) j := by
  unfold rd_T57 shells shellsOf
  rw [Int.toNat_natCast]
  simp [List.getD_eq_getElem?_getD, h]
/-- what shell j is: the least and the greatest key -/
theorem shell_spec {m : Int} {p l : List (List Int)} (hl : 0 < l.length) {j : Nat} (hj : j < p.length) :
    (∀ i, i < l.length → (rd_T57 (shells m p l) (j : Int)).f0 ≤ key m (rowOf p j) (rowOf l i) ∧ key m (rowOf p j) (rowOf l i) ≤ (rd_T57 (shells m p l) (j : Int)).f1) ∧
    (∃ i, i < l.length ∧ key m (rowOf p j) (rowOf l i) = (rd_T57 (shells m p l) (j : Int)).f0) ∧ (∃ i, i < l.length ∧ key m (rowOf p j) (rowOf l i) = (rd_T57 (shells m p l) (j : Int)).f1) := by
  rw [rd_shells hj]
  unfold shellAt
  dsimp only
  obtain ⟨_, h3, h4, h5⟩ := shellUp_spec j (tableOf m p l) (rd (rowOf (tableOf m p l) 0) (j : Int), rd (rowOf (tableOf m p l) 0) (j : Int))
  have r0 : rd (rowOf (tableOf m p l) 0) (j : Int) = key m (rowOf p j) (rowOf l 0) := by rw [row_table hl, rd_keys hj]
  rw [r0] at h3 h4 h5 ⊢
  have rows : ∀ row, row ∈ tableOf m p l ↔ ∃ i, i < l.length ∧ row = keysOf m p (rowOf l i) := fun row => by
    unfold tableOf
    rw [List.mem_map]
    constructor
    · rintro ⟨v, hv, rfl⟩
      obtain ⟨i, hi, rfl⟩ := List.mem_iff_getElem.1 hv
      exact ⟨i, hi, by unfold rowOf; simp [List.getD_eq_getElem?_getD, hi]⟩
    · rintro ⟨i, hi, rfl⟩
      exact ⟨_, rowOf_mem hi, rfl⟩
  refine ⟨fun i hi => ?_, ?_, ?_⟩
  · have := h3 _ ((rows _).2 ⟨i, hi, rfl⟩)
    rw [rd_keys hj] at this
    exact this
  · rcases h4 with h4 | ⟨row, hr, h4⟩
    · exact ⟨0, hl, h4.symm⟩
    · obtain ⟨i, hi, rfl⟩ := (rows _).1 hr
      rw [rd_keys hj] at h4
      exact ⟨i, hi, h4.symm⟩
  · rcases h5 with h5 | ⟨row, hr, h5⟩
    · exact ⟨0, hl, h5.symm⟩
    · obtain ⟨i, hi, rfl⟩ := (rows _).1 hr
      rw [rd_keys hj] at h5
      exact ⟨i, hi, h5.symm⟩
theorem tab_alike {m : Int} {p l : List (List Int)} (h : tabOk m p l) {i j : Nat} (hj : j < p.length) (hi : i < l.length) : alike (rowOf p j) (rowOf l i) := tabOk_alike h (rowOf_mem hj) (rowOf_mem hi)
theorem shells_valid {m : Int} {p l : List (List Int)} (h : tabOk m p l) : validSh (shells m p l) := by
  have l0 : 0 < l.length := h.2.1.1
  rw [valid_iff, shells_length]
  refine ⟨fun j hj => ?_, h.1.2.2⟩
  obtain ⟨h1, ⟨i, hi, e1⟩, ⟨i2, hi2, e2⟩⟩ := shell_spec (m := m) l0 hj
  have a := h1 0 l0
  have k1 := key_isKey m (tab_alike h hj hi)
  have k2 := key_isKey m (tab_alike h hj hi2)
  rw [e1] at k1
  rw [e2] at k2
  exact ⟨k1.1, by omega, k2.2⟩
theorem keys_good {m : Int} {p : List (List Int)} {v : List Int} (h : ∀ x ∈ p, alike x v) : keysGood (keysOf m p v) := fun k hk => by
  obtain ⟨x, hx, rfl⟩ := List.mem_map.1 hk
  exact key_isKey m (h x hx)
theorem keys_in {m : Int} {p l : List (List Int)} (h : tabOk m p l) {i : Nat} (hi : i < l.length) : inSh (shells m p l) (keysOf m p (rowOf l i)) := by
  refine ⟨shells_valid h, by rw [keysOf_length, shells_length], fun j hj => ?_⟩
  rw [shells_length] at hj
  rw [rd_keys hj]
  exact (shell_spec (by omega) hj).1 i hi
theorem asked_shells {m : Int} {p l : List (List Int)} (h : tabOk m p l) {v : List Int} (hv : ∀ x ∈ p, alike x v) : askedSh m (shells m p l) (keysOf m p v) :=
  ⟨⟨h.1.1, shells_valid h, by rw [keysOf_length, shells_length]⟩, keys_good hv⟩
/-- the key of a vector and an element is from Low to High -/
theorem bounds_hold {m : Int} {p l : List (List Int)} (h : tabOk m p l) {v : List Int} (hv : ∀ x ∈ p, alike x v) {i : Nat} (hi : i < l.length) : ∀ n, n ≤ p.length →
    lowOf m (shells m p l) (keysOf m p v) n ≤ key m v (rowOf l i) ∧ key m v (rowOf l i) ≤ highOf m (shells m p l) (keysOf m p v) n
  | 0, _ => by
    have p0 : 0 < p.length := h.1.2.1.1
    have k := key_isKey m (alike_trans (alike_symm (hv _ (rowOf_mem p0))) (tab_alike h p0 hi))
    exact ⟨k.1, k.2⟩
  | n + 1, hn => by
    obtain ⟨i1, i2⟩ := bounds_hold h hv hi n (by omega)
    have hj : n < p.length := by omega
    have av := hv _ (rowOf_mem hj)
    have al := tab_alike h hj hi
    have ks := at_valid (shells_valid h) (i := n) (by rw [shells_length]; exact hj)
    have hs := (shell_spec (m := m) (l := l) (by omega) hj).1 i hi
    have kv := key_isKey m av
    have kl := key_isKey m al
    have b := key_between m (alike_symm av) al
    rw [key_comm m v (rowOf p n)] at b
    have g := gap_le m kv ⟨ks.1, by omega⟩ ⟨by omega, ks.2.2⟩ kl hs.1 hs.2
    have r := high_mono m kv kl hs.2
    have e := rd_keys (m := m) (v := v) hj
    unfold lowOf at i1 ⊢
    unfold highOf at i2 ⊢
    simp only [bestAt, e]
    generalize bestAt (fun b s k => mx b (gap m s.f0 s.f1 k)) 0 (shells m p l) (keysOf m p v) n = x1 at *
    generalize bestAt (fun b s k => mn b (high m k s.f1)) 134217728 (shells m p l) (keysOf m p v) n = x2 at *
    unfold mx mn
    constructor
    · split <;> omega
    · split <;> omega
/-- one vector more -/
theorem tab_snoc {m : Int} {p l : List (List Int)} (h : tabOk m p l) (hl : l.length ≤ 4000) {v : List Int} (hv : alike (rowOf p 0) v) : tabOk m p (l ++ [v]) := by
  have l0 : 0 < l.length := h.2.1.1
  have e : rowOf (l ++ [v]) 0 = rowOf l 0 := by unfold rowOf; rw [List.getD_eq_getElem?_getD, List.getD_eq_getElem?_getD, List.getElem?_append_left l0]
  refine ⟨h.1, ⟨by simp, by simp; omega, fun x hx => ?_⟩, ?_⟩
  · rw [e]
    rcases List.mem_append.1 hx with hx | hx
    · exact h.2.1.2.2 x hx
    · rw [List.mem_singleton] at hx; subst hx
      exact alike_trans (alike_symm h.2.2) hv
  · rw [e]; exact h.2.2
theorem row_snoc {l : List (List Int)} {v : List Int} {i : Nat} (h : i < l.length) : rowOf (l ++ [v]) i = rowOf l i := by unfold rowOf; rw [List.getD_eq_getElem?_getD, List.getD_eq_getElem?_getD, List.getElem?_append_left h]
theorem row_last (l : List (List Int)) (v : List Int) : rowOf (l ++ [v]) l.length = v := by unfold rowOf; simp [List.getD_eq_getElem?_getD]
end Go.Proofs.Ytoidpkpgeeeggaa.Hold
end
section
set_option linter.unusedVariables false
namespace Go.Proofs.Ytoidpkpgeeeggaa.EvCover
open Go.RowKit Go.Proofs.Ytoidpkpgeeeggaa.Q Go.Proofs.YtoidpkpgeeeggaaW.PrintWords Plain Go.Proofs.Ytoidpkpgeeeggaa.EvTab Go
theorem alike_is {p q : List Int} (hp : p.length ≤ 4611686018427387904) : vector_Alike.f p q = some (decide (alike p q)) := by
  by_cases h : p.length = q.length
  · exact vector_Alike.is p q hp (by omega)
  · unfold vector_Alike.f
    rw [if_neg (by omega), decide_eq_false (fun h2 => h h2.2.2)]
def isNear (m : Int) (p : List (List Int)) (v : List Int) : Prop := isPivots m p ∧ alike (rowOf p 0) v
instance (m : Int) (p : List (List Int)) (v : List Int) : Decidable (isNear m p v) := by unfold isNear; infer_instance
end Go.Proofs.Ytoidpkpgeeeggaa.EvCover
end
section
set_option linter.unusedVariables false
namespace Go.Proofs.Ytoidpkpgeeeggaa.Sane
open Go.RowKit Go.Proofs.Ytoidpkpgeeeggaa.Q Go.Proofs.YtoidpkpgeeeggaaW.PrintWords Plain
theorem sanity_is : antiquarylaw09_sanity.f 60 = some true := by decide +kernel
theorem sanity_ev : Ev (fun k => antiquarylaw09_sanity.f k) true := ev_ofx (fun k => antiquarylaw09_sanity.mono k) ⟨60, sanity_is⟩
end Go.Proofs.Ytoidpkpgeeeggaa.Sane
end
section
set_option linter.unusedVariables false
namespace Go.Proofs.Ytoidpkpgeeeggaa.Pure
open Go.RowKit Go.Proofs.Ytoidpkpgeeeggaa.Q Go.Proofs.YtoidpkpgeeeggaaW.PrintWords Plain Go.Proofs.Ytoidpkpgeeeggaa.EvTab Go.Proofs.Ytoidpkpgeeeggaa.EvShell Go.Proofs.Ytoidpkpgeeeggaa.EvFit Go.Proofs.Ytoidpkpgeeeggaa.Hold Go.Proofs.Ytoidpkpgeeeggaa.EvCover
theorem PivotBoundsHold (m : Int) (p l : List (List Int)) (v : List Int) (_ : (Go.Lit.int .i64 m).wf = true) (hp : p.length ≤ Go.maxLen) (hp2 : ∀ v ∈ p, v.length ≤ Go.maxLen ∧ ∀ x ∈ v, (Go.Lit.int .i64 x).wf = true)
    (hl : l.length ≤ Go.maxLen) (_ : ∀ v ∈ l, v.length ≤ Go.maxLen ∧ ∀ x ∈ v, (Go.Lit.int .i64 x).wf = true) (_ : v.length ≤ Go.maxLen) (_ : ∀ x ∈ v, (Go.Lit.int .i64 x).wf = true) :
    ∃ k, antiquarylaw09_PivotBoundsHold.f k m p l v = some true := by
  unfold Go.maxLen at hp hp2
  refine ev_ex ?_
  have other : Ev (fun k => antiquarylaw09_PivotBoundsHold.j0 k m p l v true) true := by
    refine ev_succ ?_
    simp only [antiquarylaw09_PivotBoundsHold.j0]
    exact ev_pos (by first | rfl | trivial) (ev_bind Sane.sanity_ev (ev_some rfl))
  refine ev_bind (few_ev l 30 (by omega)) ?_
  by_cases h1 : (l.length : Int) ≤ 30 ∧ ∀ v ∈ l, v.length ≤ 40
  rotate_left
  · exact ev_neg (by simpa using h1) other
  have fl := few_of (by omega) h1
  refine ev_pos (decide_eq_true h1) (ev_bind (bothG_ev m (p := p) (l := l) ⟨by omega, fun v hv => by have := (hp2 v hv).1; omega⟩ ⟨by have := fl.1; omega, fun v hv => by have := fl.2 v hv; omega⟩) ?_)
  by_cases h2 : tabOk m p l
  rotate_left
  · exact ev_neg (fun h => h2 (of_decide_eq_true h)) other
  have p0 : 0 < p.length := h2.1.2.1.1
  have l0 : 0 < l.length := h2.2.1.1
  have sp := fit_small h2.1.2.1
  have sl := fit_small h2.2.1
  refine ev_pos (decide_eq_true h2) (ev_pos (by omega) ?_)
  rw [show rd_L1 p 0 = rowOf p 0 from rdL_row p 0]
  refine ev_ob (alike_is (sp.2 _ (rowOf_mem p0))) ?_
  by_cases h3 : alike (rowOf p 0) v
  rotate_left
  · rw [decide_eq_false h3]; exact other
  rw [decide_eq_true h3]
  have h4 := tab_snoc h2 (by omega) h3
  have av : ∀ x ∈ p, alike x v := fun x hx => alike_trans (alike_symm (h2.1.2.1.2.2 x hx)) h3
  have sl2 := fit_small h4.2.1
  have tl := tableOf_length m p (l ++ [v])
  have tlen : ((tableOf m p (l ++ [v])).length : Int) = (l.length : Int) + 1 := by rw [tl]; simp
  refine ev_succ ?_
  simp only [antiquarylaw09_PivotBoundsHold.j0]
  have es : pivot_Shells.f m p l = some (shells m p l, 0) := (if_pos ⟨sp, sl⟩ : pivot_Shells.f m p l = _).trans (by rw [if_pos h2]; rfl)
  have et := pivot_Table.ev (m := m) sp sl2
  rw [if_pos h4] at et
  refine ev_neg (by simp) (ev_ob es (ev_ob rfl (ev_pos (by simp; omega) (ev_ob rfl (ev_pos (by simp; omega) (ev_bind et (ev_pos rfl (ev_pos rfl (ev_pos ?_ (ev_bind (pivot_Valid.ev _ ?_) (ev_pos ?_ ?_)))))))))))
  · dsimp only; rw [tlen]; exact (w64 (by omega) (by omega)).symm
  · dsimp only; rw [shells_length]; have := h2.1.2.2; omega
  · exact decide_eq_true (shells_valid h2)
  have shl := shells_length m p l
  have p8 := h2.1.2.2
  rw [show ((shells m p l, (0 : Int)).1.length : Int) = (p.length : Int) by dsimp only; rw [shl], show ((p.length : Int) != (p.length : Int)) = false by simp]
  refine ev_succ ?_
  simp only [antiquarylaw09_PivotBoundsHold.j1]
  have rt : ∀ i, i < l.length → rd_L1 (tableOf m p (l ++ [v])) (i : Int) = keysOf m p (rowOf l i) := fun i hi => by
    rw [rdL_row, row_table (by simp; omega), row_snoc hi]
  have rv : rd_L1 (tableOf m p (l ++ [v])) (l.length : Int) = keysOf m p v := by rw [rdL_row, row_table (by simp), row_last]
  have kl := keysOf_length m p v
  refine ev_neg (by simp) (ev_pos (by omega) (ev_pos (by omega) ?_))
  rw [rv]
  have ak := asked_shells h2 av
  refine ev_ob (low_is m (by omega) (by omega)) (ev_ob (high_is m (by omega) (by omega)) ?_)
  rw [if_pos ak, if_pos ak]
  refine ev_pos rfl ?_
  rw [show ((highOf m (shells m p l) (keysOf m p v) (shells m p l).length, (0 : Int)).2 != 0) = false by simp]
  refine ev_succ ?_
  simp only [antiquarylaw09_PivotBoundsHold.j2]
  refine ev_neg (by simp) ?_
  obtain ⟨t, ht⟩ : ∃ t, tableOf m p (l ++ [v]) = t := ⟨_, rfl⟩
  obtain ⟨s, hs⟩ : ∃ s, shells m p l = s := ⟨_, rfl⟩
  have hin : ∀ i, i < l.length → inSh s (keysOf m p (rowOf l i)) := fun i hi => by rw [← hs]; exact keys_in h2 hi
  have hb : ∀ i, i < l.length → lowOf m s (keysOf m p v) s.length ≤ key m v (rowOf l i) ∧ key m v (rowOf l i) ≤ highOf m s (keysOf m p v) s.length := fun i hi => by
    rw [← hs, shl]; exact bounds_hold h2 av hi p.length (Nat.le_refl _)
  have hsp : ∀ j, j < p.length → (∃ i, i < l.length ∧ key m (rowOf p j) (rowOf l i) = (rd_T57 s (j : Int)).f0) ∧ (∃ i, i < l.length ∧ key m (rowOf p j) (rowOf l i) = (rd_T57 s (j : Int)).f1) := fun j hj => by
    rw [← hs]; exact (shell_spec l0 hj).2
  rw [ht] at rt tlen ⊢
  rw [hs] at shl ⊢
  clear es et
  refine ev_cast (ev_count0 (G := fun i k => antiquarylaw09_PivotBoundsHold.l0 k m l v s t (lowOf m s (keysOf m p v) s.length) (highOf m s (keysOf m p v) s.length) (i : Int)) (n := l.length) (r := true) (fun i hi h => ?_) ?_) rfl
  · refine ev_succ ?_
    simp only [antiquarylaw09_PivotBoundsHold.l0]
    have b := hb i hi
    rw [rt i hi, rdL_row]
    refine ev_pos (by omega) (ev_pos (by omega) (ev_bind (vector_Key.ev h2.1.1 (alike_trans (alike_symm (av _ (rowOf_mem p0))) (tab_alike h2 p0 hi))) (ev_pos (by omega) (ev_bind (in_ev (by omega)) (ev_pos (decide_eq_true (hin i hi)) (ev_neg (by omega) (ev_neg (by omega) ?_)))))))
    rw [wsuc i (by omega)]
    exact h
  · refine ev_succ ?_
    simp only [antiquarylaw09_PivotBoundsHold.l0]
    refine ev_neg (by omega) ?_
    refine ev_cast (ev_count0 (G := fun j k => antiquarylaw09_PivotBoundsHold.l1 k l s t (j : Int)) (n := s.length) (r := true) (fun j hj h => ?_) ?_) rfl
    · refine ev_succ ?_
      simp only [antiquarylaw09_PivotBoundsHold.l1]
      refine ev_pos (by omega) ?_
      have hj2 : j < p.length := by omega
      obtain ⟨⟨i1, hi1, e1⟩, ⟨i2, hi2, e2⟩⟩ := hsp j hj2
      refine ev_cast (ev_count0 (G := fun i k => antiquarylaw09_PivotBoundsHold.l2 k l s t (j : Int) (decide (∃ i', i' < i ∧ key m (rowOf p j) (rowOf l i') = (rd_T57 s (j : Int)).f0)) (decide (∃ i', i' < i ∧ key m (rowOf p j) (rowOf l i') = (rd_T57 s (j : Int)).f1)) (i : Int)) (n := l.length) (r := true) (fun i hi h3 => ?_) ?_) ?_
      · refine ev_succ ?_
        simp only [antiquarylaw09_PivotBoundsHold.l2]
        have kl2 := keysOf_length m p (rowOf l i)
        rw [rt i hi, rd_keys hj2]
        refine ev_pos (by omega) ?_
        rw [wsuc i (by omega)]
        have step : ∀ z : Int, (∃ i', i' < i + 1 ∧ key m (rowOf p j) (rowOf l i') = z) ↔ (∃ i', i' < i ∧ key m (rowOf p j) (rowOf l i') = z) ∨ key m (rowOf p j) (rowOf l i) = z := fun z => by
          constructor
          · rintro ⟨i', h4, h5⟩
            rcases Nat.lt_succ_iff_lt_or_eq.1 h4 with h6 | rfl
            · exact .inl ⟨i', h6, h5⟩
            · exact .inr h5
          · rintro (⟨i', h4, h5⟩ | h5)
            · exact ⟨i', by omega, h5⟩
            · exact ⟨i, by omega, h5⟩
        have eqd : ∀ z : Int, (key m (rowOf p j) (rowOf l i) == z) = decide (key m (rowOf p j) (rowOf l i) = z) := fun z => by rw [Bool.eq_iff_iff, beq_iff_eq, decide_eq_true_eq]
        by_cases c1 : ∃ i', i' < i ∧ key m (rowOf p j) (rowOf l i') = (rd_T57 s (j : Int)).f0
        · refine ev_pos (decide_eq_true c1) ?_
          rw [decide_eq_true ((step _).2 (.inl c1))] at h3
          by_cases c2 : ∃ i', i' < i ∧ key m (rowOf p j) (rowOf l i') = (rd_T57 s (j : Int)).f1
          · rw [decide_eq_true ((step _).2 (.inl c2))] at h3
            exact ev_pos (decide_eq_true c2) h3
          · refine ev_neg (fun h => c2 (of_decide_eq_true h)) (ev_pos (by omega) (ev_pos (by omega) (ev_pos (by omega) (ev_pos (by omega) (ev_pos (by omega) ?_)))))
            rw [eqd]
            rw [show decide (∃ i', i' < i + 1 ∧ key m (rowOf p j) (rowOf l i') = (rd_T57 s (j : Int)).f1) = decide (key m (rowOf p j) (rowOf l i) = (rd_T57 s (j : Int)).f1) from decide_eq_decide.2 ((step _).trans ⟨fun h => h.resolve_left c2, .inr⟩)] at h3
            exact h3
        · refine ev_neg (fun h => c1 (of_decide_eq_true h)) (ev_pos (by omega) (ev_pos (by omega) (ev_pos (by omega) (ev_pos (by omega) (ev_pos (by omega) ?_)))))
          rw [eqd, eqd]
          rw [show decide (∃ i', i' < i + 1 ∧ key m (rowOf p j) (rowOf l i') = (rd_T57 s (j : Int)).f0) = decide (key m (rowOf p j) (rowOf l i) = (rd_T57 s (j : Int)).f0) from decide_eq_decide.2 ((step _).trans ⟨fun h => h.resolve_left c1, .inr⟩)] at h3
          by_cases c2 : ∃ i', i' < i ∧ key m (rowOf p j) (rowOf l i') = (rd_T57 s (j : Int)).f1
          · rw [decide_eq_true ((step _).2 (.inl c2))] at h3
            exact ev_pos (decide_eq_true c2) h3
          · rw [show decide (∃ i', i' < i + 1 ∧ key m (rowOf p j) (rowOf l i') = (rd_T57 s (j : Int)).f1) = decide (key m (rowOf p j) (rowOf l i) = (rd_T57 s (j : Int)).f1) from decide_eq_decide.2 ((step _).trans ⟨fun h => h.resolve_left c2, .inr⟩)] at h3
            exact ev_neg (fun h => c2 (of_decide_eq_true h)) h3
      · refine ev_succ ?_
        simp only [antiquarylaw09_PivotBoundsHold.l2]
        refine ev_neg (by omega) (ev_pos (decide_eq_true ⟨i1, hi1, e1⟩) (ev_pos (decide_eq_true ⟨i2, hi2, e2⟩) ?_))
        rw [wsuc j (by omega)]
        exact h
      · rfl
    · refine ev_succ ?_
      simp only [antiquarylaw09_PivotBoundsHold.l1]
      exact ev_neg (by omega) (ev_bind Sane.sanity_ev (ev_some rfl))
end Go.Proofs.Ytoidpkpgeeeggaa.Pure
end
section
set_option linter.unusedVariables false
namespace Go.Proofs.Ytoidpkpgeeeggaa.Open
open Go.RowKit Go.Proofs.Ytoidpkpgeeeggaa.Q Go.Proofs.YtoidpkpgeeeggaaW.PrintWords Go.Deep
theorem open_rows {H : Type} {enc : TypeId × Value → H} {P : Program} {w : World} {base : Nat} {held : Bool} {t e q : TypeId} {a : Option Addr} {len cap : Nat} {d : DataW H} {ps : List MemPlace}
    (ht : P.underlying t = some (.slice e)) (he : P.underlying e = some (.slice q)) (hq : P.underlying q = some (.int .i64)) (ce : P.cellsOf e = 1) (cq : P.cellsOf q = 1) (h : DataW.Trod enc P w base (fun _ => true) held t (.slice a len cap) d ps) (ty : Nat) :
    ∃ l : List (List Int), l.length = len ∧ len ≤ cap ∧ cap ≤ maxLen ∧ Kd.C (Kd.slice ty (Kd.int .i64)) w a len l ∧ ∀ v ∈ l, v.length ≤ maxLen ∧ ∀ x ∈ v, (Lit.int .i64 x).wf = true := by
  obtain ⟨fuel, hf⟩ := h
  rcases open_int_rows ht he hq ce cq hf with ⟨hcs, _⟩ | ⟨x, len', cap', A, L, C, Z, hcs, _, hl, hm, _, hx⟩
  · simp [Value.cells] at hcs
    obtain ⟨rfl, rfl, rfl⟩ := hcs
    exact ⟨[], rfl, Nat.le_refl _, Nat.zero_le _, Kd.C_nil _ _, by simp⟩
  · simp [Value.cells] at hcs
    obtain ⟨rfl, rfl, rfl⟩ := hcs
    have hlen : ∀ r, r < cap → ((Z r).take (L r)).length = L r := fun r hr => by
      have := hx r hr
      rw [List.length_take]; omega
    refine ⟨(List.range len).map (fun r => (Z r).take (L r)), by simp, hl, hm, ⟨by simp, by have := hm; unfold maxLen at this; omega, fun _ => ⟨x, rfl, fun j p hp => ?_⟩⟩, ?_⟩
    · have hj : j < len := by
        rcases Nat.lt_or_ge j len with h | h
        · exact h
        · rw [List.getElem?_eq_none (by simp; omega)] at hp; cases hp
      rw [List.getElem?_map, List.getElem?_range hj] at hp
      cases hp
      obtain ⟨hc, hLC, hCm, hZ, hwf, hnone, hsome⟩ := hx j (by omega)
      have hL := hlen j (by omega)
      refine ⟨[.slice (A j) (L j) (C j)], rfl, ⟨A j, C j, by rw [hL], by rw [hL]; exact hLC, ?_⟩, fun i u hu => ?_⟩
      · refine ⟨rfl, by rw [hL]; unfold maxLen at hCm; omega, fun hpos => ?_⟩
        cases hA : A j with
        | none =>
          have hp2 : 0 < L j := by rw [← hL]; exact hpos
          have := hnone hA
          omega
        | some a' =>
          refine ⟨a', rfl, fun c p hp => ⟨[.int .i64 p], rfl, ?_, fun i u hu => ?_⟩⟩
          · exact rfl
          · have hc2 : c < L j := by
              have h6 : c < (List.take (L j) (Z j)).length := (List.getElem?_eq_some_iff.1 hp).1
              omega
            match i, hu with
            | 0, hu =>
              cases hu
              have h3 := (hsome a' hA).2 c (by omega)
              have h4 : (Z j).getD c 0 = p := by
                rw [List.getElem?_take, if_pos hc2] at hp
                rw [List.getD_eq_getElem?_getD, hp]; rfl
              rw [h4] at h3
              show w.cell? (a'.add (c * 1 + 0)) = _
              rw [Nat.mul_one]
              exact h3
            | i + 1, hu => simp at hu
      · match i, hu with
        | 0, hu => cases hu; simpa [Kd.slice] using hc
        | i + 1, hu => simp at hu
    · intro v hv
      obtain ⟨r, hr, rfl⟩ := List.mem_map.1 hv
      have hr := List.mem_range.1 hr
      obtain ⟨_, hLC, hCm, hZ, hwf, _⟩ := hx r (by omega)
      exact ⟨by rw [hlen r (by omega)]; omega, fun y hy => hwf y (List.mem_of_mem_take hy)⟩
end Go.Proofs.Ytoidpkpgeeeggaa.Open
end
