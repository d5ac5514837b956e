/- A part of the proof of CodeTablesAsSpecified: what the row's text reaches (packed by a program of this claim out of its texts). -/
import Derived.Test.YtgpdfalopdhjlaaKCodeTablesAsSpecifiede
import Derived.Deep.Matrix
import Derived.Lib.SmallJoins
import Derived.ChangeShapes
section
namespace Go.Proofs.Ytgpdfalopdhjlaa.Q
open Go.RowKit Go.Proofs.YtgpdfalopdhjlaaW.PrintWords Go.Proofs.YtgpdfalopdhjlaaW.PrintLast Go.Proofs.YtgpdfalopdhjlaaW.PrintMore
attribute [local go_sem] max2_int min2_int max_two min_two max_three min_three max_four min_four   -- for this text's walks alone
set_option linter.unusedVariables false
set_option linter.unusedSimpArgs false
mutual
def antiquaryref08_Table.l0 : Nat → Int → List Int → List (List Int) → Int → Int → List Int → List (List (List Int)) → Option ((List (List Int)))
  | 0, _, _, _, _, _, _, _ => none
  | k + 1, x1, x2, x7, x8, x381000, x381001, x381002 => if x8 < (x381001.length : Int) then (antiquaryref08_Table.l1 k x1 x2 x7 x8 ([] : List Int) 0 x381000 x381001 x381002) else (some x7)
def antiquaryref08_Table.l1 : Nat → Int → List Int → List (List Int) → Int → List Int → Int → Int → List Int → List (List (List Int)) → Option ((List (List Int)))
  | 0, _, _, _, _, _, _, _, _, _ => none
  | k + 1, x1, x2, x7, x8, x9, x10, x381000, x381001, x381002 => if 0 ≤ x8 then (if x8 < (x381002.length : Int) then (if x10 < ((rd_L2 x381002 x8).length : Int) then (if 0 ≤ x10 then ((antiquaryref08_Part.f x381000 x381001 x381002 x8 x2).bind fun t384 => ((antiquaryref04_Key.f k x1 (rd_L1 (rd_L2 x381002 x8) x10) t384).bind fun t387 => (if x9.length < 17592186044416 then (antiquaryref08_Table.l1 k x1 x2 x7 x8 (x9 ++ [t387]) (wrap64 (x10 + 1)) x381000 x381001 x381002) else (none)))) else (none)) else (if x7.length < 5864062014805 then (antiquaryref08_Table.l0 k x1 x2 (x7 ++ [x9]) (wrap64 (x8 + 1)) x381000 x381001 x381002) else (none))) else (none)) else (none)
end
def antiquaryref08_Table.f (k : Nat) (a0_0 : Int) (l0_1 : List Int) (l0_2 : List (List (List Int))) (a1 : Int) (l2 : List Int) : Option ((List (List Int))) := antiquaryref08_Table.l0 k a1 l2 ([] : List (List Int)) 0 a0_0 l0_1 l0_2
def antiquaryref08_Table.T9 : Bool × List (List Nat × List Nat) := (true, [([], []), ([], []), ([], []), ([2], [2]), ([], []), ([3, 4], [3, 4]), ([5], [5]), ([], []), ([6, 7], [6, 7]), ([8], [8]), ([], []), ([], []), ([], []), ([10, 11, 12], [10, 11, 12]), ([1, 9, 13, 13], [1, 9, 13]), ([14], [14]), ([0, 15, 14], [0, 15]), ([16, 16, 0, 1, 2, 3, 4, 5, 6, 7, 8, 9, 10, 11, 12, 13, 14, 15, 16], [0, 16])])
def antiquaryref08_Table.B9 : List Nat := [0, 0, 0, 4, 0, 28, 60, 0, 252, 508, 0, 0, 0, 7168, 16382, 32766, 65535, 131071]
theorem antiquaryref08_Table.tab9 : rtab .any (opsOf Try.f22 9) = antiquaryref08_Table.T9 := by kernel_rfl
theorem antiquaryref08_Table.bits9 : waitsOk antiquaryref08_Table.T9.2 antiquaryref08_Table.B9 = true := by kernel_rfl
set_option maxHeartbeats 8000000 in
set_option maxRecDepth 100000 in
theorem antiquaryref08_Table.calls (k : Nat) (a0_0 : Int) (A0_1 : Option Addr) (c0_1 : Nat) (l0_1 : List Int) (A0_2 : Option Addr) (c0_2 : Nat) (l0_2 : List (List (List Int))) (a1 : Int) (A2 : Option Addr) (c2 : Nat) (l2 : List Int) (r : List (List Int)) (w : World) (hr0_1 : Kd.C (Kd.int .i64) w A0_1 l0_1.length l0_1) (hc0_1 : l0_1.length ≤ c0_1) (hr0_2 : Kd.C (Kd.slice 22 (Kd.slice 3 (Kd.int .i64))) w A0_2 l0_2.length l0_2) (hc0_2 : l0_2.length ≤ c0_2) (hr2 : Kd.C (Kd.int .i64) w A2 l2.length l2) (hc2 : l2.length ≤ c2) (h : antiquaryref08_Table.f k a0_0 l0_1 l0_2 a1 l2 = some r) :
    Calls Try.prog 22 #[.agg #[.int .i64 a0_0, .slice A0_1 l0_1.length c0_1, .slice A0_2 l0_2.length c0_2], .int .i64 a1, .slice A2 l2.length c2] w fun e w' => ∃ v0_ : Value, e = .returned (v0_) ∧ Kd.S (Kd.slice 3 (Kd.int .i64)) 22 w' w.heap.size (fun _ => True) v0_ r ∧ Below w.heap.size w w' := by
  have hu25 := Try.underlying25
  have HR0_1 := Aside0.mk hr0_1
  have HC0_1 := Aside0.mk hc0_1
  clear hr0_1 hc0_1
  have HR0_2 := Aside0.mk hr0_2
  have HC0_2 := Aside0.mk hc0_2
  clear hr0_2 hc0_2
  have HR2 := Aside0.mk hr2
  have HC2 := Aside0.mk hc2
  clear hr2 hc2
  have HB := Aside0.mk (Below.refl w.heap.size w)
  have H : (antiquaryref08_Table.l0 k a1 l2 ([] : List (List Int)) 0 a0_0 l0_1 l0_2) = some r := h
  clear h
  have H' := Aside0.mk H
  clear H
  go_enter Try.func22, Try.ntmps22
  go_wp2_with (first | ((with_reducible refine gate_dst (N := 3) rfl ?_); refine box_event ?hg (N := 3) ?hd (cs := #[.int .i64 a0_0, .slice A0_1 l0_1.length c0_1, .slice A0_2 l0_2.length c0_2]) (t := 25) ?hr ?_; (case hd => rfl); (case hg => rfl); (case hr => first | (go_simp; done) | (go_simp; rfl)); intro gb380 hg w4 hbox hb; have n0_ := Aside0.mk (below_step (by repeat (first | (with_reducible first | exact HB.out | apply below_alloc | apply pw_below_drewN | apply below_drew1) | exact HB.out)) hb); have n1_ := Aside0.mk (hbox); have n2_ := Aside0.mk ((by rw [hg]; exact (below_size (by repeat (first | (with_reducible first | exact HB.out | apply below_alloc | apply pw_below_drewN | apply below_drew1) | exact HB.out))) : w.heap.size ≤ gb380)); have n3_ := Aside0.mk ((by rw [hg]; exact (below_size (by repeat (first | (with_reducible first | exact HB.out | apply below_alloc | apply pw_below_drewN | apply below_drew1) | exact HB.out))) : w.heap.size ≤ gb380)); clear HB; have HB := n0_; have BK380 := n1_; have GW380 := n2_; have GE380 := n3_; clear n0_ n1_ n2_ n3_; clear hb hbox hg))
  go_loopg [7, 8] k (fun kq v7 v8 w' => ∃ (x7_1 : List (List Int)) (x8_1 : Int), v8 = .int .i64 x8_1 ∧ Aside0 (antiquaryref08_Table.l0 kq a1 l2 x7_1 x8_1 a0_0 l0_1 l0_2 = some r) ∧ Aside0 (kq ≤ k) ∧ Aside0 (Kd.S (Kd.slice 3 (Kd.int .i64)) 22 w' w.heap.size (fun _ => True) v7 x7_1) ∧ Aside0 (w'.heap[gb380]? = some (.cells #[.int .i64 a0_0, (.slice A0_1 l0_1.length c0_1), (.slice A0_2 l0_2.length c0_2)] 25 (0, 0))) ∧ Aside0 (Below w.heap.size w w'))
  case atStart => exact ⟨(([] : List (List Int))), (0), (by first | rfl | (simp; done) | (simp [*]; done)), H', ⟨Nat.le_refl _⟩, ⟨by first | exact Kd.S_nil _ _ _ _ _ | exact Kd.N_nil _ _ _ _ _ | exact Kd.V_nil _ _ _ _ _ | exact Kd.Q_nil _ _ _ _ _ | exact Kd.R_nil _ _ _ _ _⟩, ⟨by (with_reducible repeat (first | refine blk_drewN ?_ _ | refine blk_drew ?_ | refine blk_alloc ?_ _)); exact BK380.out⟩, ⟨by repeat (first | (with_reducible first | exact HB.out | apply below_alloc | apply pw_below_drewN | apply below_drew1 | refine below_set ?_ GE380.out) | exact HB.out)⟩⟩
  case round =>
    clear H'
    try clear c2
    try clear p2
    obtain ⟨x7_1, x8_1, rfl, HA, HK1, HO_7, BK380, HB⟩ := hrel
    cases gk with
    | zero => exact absurd HA.out (by simp [antiquaryref08_Table.l0])
    | succ k1 =>
      have H := HA.out
      clear HA
      simp only [antiquaryref08_Table.l0] at H
      by_cases c5 : x8_1 < (l0_1.length : Int)
      · rw [if_pos c5] at H
        have c5b0 : decide (x8_1 < (l0_1.length : Int)) = true := decide_eq_true c5
        clear c5
        have H' := Aside0.mk H
        clear H
        have hcz6_0 : wr.cell? ⟨gb380, 0, none⟩ = some (.int .i64 a0_0) := (blk_cell BK380.out 0).trans rfl
        have hcz6_1 : wr.cell? ⟨gb380, 1, none⟩ = some (.slice A0_1 l0_1.length c0_1) := (blk_cell BK380.out 1).trans rfl
        have hcz6_2 : wr.cell? ⟨gb380, 2, none⟩ = some (.slice A0_2 l0_2.length c0_2) := (blk_cell BK380.out 2).trans rfl
        have hfz6_0 := blk_frozen BK380.out 0
        have hfz6_1 := blk_frozen BK380.out 1
        have hfz6_2 := blk_frozen BK380.out 2
        go_wp2
        go_loopg [9, 10] k1 (fun kq v9 v10 w' => ∃ (x9_2 : List Int) (x10_2 : Int), v10 = .int .i64 x10_2 ∧ Aside0 (antiquaryref08_Table.l1 kq a1 l2 x7_1 x8_1 x9_2 x10_2 a0_0 l0_1 l0_2 = some r) ∧ Aside0 (kq ≤ k1) ∧ Aside0 (Kd.S (Kd.slice 3 (Kd.int .i64)) 22 w' w.heap.size (fun k_ => some k_ ≠ (v9 : Value).ownBlock) u7 x7_1) ∧ Aside0 (Kd.R (Kd.int .i64) 3 w' w.heap.size (fun _ => True) v9 x9_2) ∧ Aside0 (w'.heap[gb380]? = some (.cells #[.int .i64 a0_0, (.slice A0_1 l0_1.length c0_1), (.slice A0_2 l0_2.length c0_2)] 25 (0, 0))) ∧ Aside0 (Below w.heap.size w w'))
        case atStart => exact ⟨(([] : List Int)), (0), (by first | rfl | (simp; done) | (simp [*]; done)), H', ⟨Nat.le_refl _⟩, ⟨by (with_reducible repeat (first | apply Kd.S_alloc | apply Kd.S_drewN | apply Kd.S_drew)); exact Kd.S_mono HO_7.out (fun _ hk => (by simp [Value.ownBlock]))⟩, ⟨by first | exact Kd.R_nil _ _ _ _ _ | exact Kd.N_nil _ _ _ _ _ | exact Kd.V_nil _ _ _ _ _ | exact Kd.Q_nil _ _ _ _ _ | exact Kd.S_nil _ _ _ _ _⟩, ⟨by (with_reducible repeat (first | refine blk_drewN ?_ _ | refine blk_drew ?_ | refine blk_alloc ?_ _)); exact BK380.out⟩, ⟨by repeat (first | (with_reducible first | exact HB.out | apply below_alloc | apply pw_below_drewN | apply below_drew1 | refine below_set ?_ GE380.out) | exact HB.out)⟩⟩
        case round =>
          clear H'
          try clear c2
          try clear p2
          try clear c5
          try clear c5b0
          try clear hcz6_0
          try clear hcz6_1
          try clear hcz6_2
          try clear hfz6_0
          try clear hfz6_1
          try clear hfz6_2
          try clear p2
          obtain ⟨x9_2, x10_2, rfl, HA, HK2, HO_7, HO_9, BK380, HB⟩ := hrel
          cases gk with
          | zero => exact absurd HA.out (by simp [antiquaryref08_Table.l1])
          | succ k2 =>
            have H := HA.out
            clear HA
            simp only [antiquaryref08_Table.l1] at H
            by_cases c7 : 0 ≤ x8_1
            · rw [if_pos c7] at H
              have c7b0 : decide (0 ≤ x8_1) = true := decide_eq_true c7
              clear c7
              by_cases c8 : x8_1 < (l0_2.length : Int)
              · rw [if_pos c8] at H
                have c8b0 : decide (x8_1 < (l0_2.length : Int)) = true := decide_eq_true c8
                clear c8
                by_cases c9 : x10_2 < ((rd_L2 l0_2 x8_1).length : Int)
                · rw [if_pos c9] at H
                  have c9b0 : decide (x10_2 < ((rd_L2 l0_2 x8_1).length : Int)) = true := decide_eq_true c9
                  clear c9
                  by_cases c10 : 0 ≤ x10_2
                  · rw [if_pos c10] at H
                    have c10b0 : decide (0 ≤ x10_2) = true := decide_eq_true c10
                    clear c10
                    replace H := Option.bind_eq_some_iff.mp H
                    obtain ⟨t384, A110, H⟩ := H
                    replace H : ((antiquaryref04_Key.f k2 a1 (rd_L1 (rd_L2 l0_2 x8_1) x10_2) t384).bind fun t387 => (if x9_2.length < 17592186044416 then (antiquaryref08_Table.l1 k2 a1 l2 x7_1 x8_1 (x9_2 ++ [t387]) (wrap64 (x10_2 + 1)) a0_0 l0_1 l0_2) else (none))) = some r := H
                    have A11 := Aside0.mk A110
                    clear A110
                    replace H := Option.bind_eq_some_iff.mp H
                    obtain ⟨t387, A120, H⟩ := H
                    replace H : (if x9_2.length < 17592186044416 then (antiquaryref08_Table.l1 k2 a1 l2 x7_1 x8_1 (x9_2 ++ [t387]) (wrap64 (x10_2 + 1)) a0_0 l0_1 l0_2) else (none)) = some r := H
                    have A12 := Aside0.mk A120
                    clear A120
                    by_cases c13 : x9_2.length < 17592186044416
                    · rw [if_pos c13] at H
                      have LMc13 := Aside0.mk c13
                      clear c13
                      obtain ⟨y388, hy388⟩ : ∃ y_ : List Int, y_ = (x9_2 ++ [t387]) := ⟨_, rfl⟩
                      replace H : (antiquaryref08_Table.l1 k2 a1 l2 x7_1 x8_1 y388 (wrap64 (x10_2 + 1)) a0_0 l0_1 l0_2) = some r := by first | (rw [hy388]; with_reducible exact H) | (have H2_ := (Option.bind_some _ _).symm.trans H; rw [hy388]; with_reducible exact H2_) | (have H2_ := (Option.bind_some _ _).symm.trans H; with_reducible exact H2_) | with_reducible exact H | (rw [hy388]; exact H) | exact H
                      have Ny388 := Aside0.mk hy388
                      clear hy388
                      have H' := Aside0.mk H
                      clear H
                      have hcz14_0 : wr.cell? ⟨gb380, 0, none⟩ = some (.int .i64 a0_0) := (blk_cell BK380.out 0).trans rfl
                      have hcz14_1 : wr.cell? ⟨gb380, 1, none⟩ = some (.slice A0_1 l0_1.length c0_1) := (blk_cell BK380.out 1).trans rfl
                      have hcz14_2 : wr.cell? ⟨gb380, 2, none⟩ = some (.slice A0_2 l0_2.length c0_2) := (blk_cell BK380.out 2).trans rfl
                      have hfz14_0 := blk_frozen BK380.out 0
                      have hfz14_1 := blk_frozen BK380.out 1
                      have hfz14_2 := blk_frozen BK380.out 2
                      have p381 : 0 ≤ (x8_1 : Int) := of_decide_eq_true (by first | (with_reducible assumption) | assumption)
                      have q381 : x8_1 < (l0_2.length : Int) := of_decide_eq_true (by first | (with_reducible assumption) | assumption)
                      obtain ⟨ad381, A381_0, c381_0, e381, hx381_0, hl381_0, hi381_0⟩ := at_L2 HR0_2.out x8_1 p381 q381
                      cases e381
                      replace hx381_0 := (HB.out.cell (World.block_lt_of_cell? w _ hx381_0)).trans hx381_0
                      have HR381_0 := Aside0.mk hi381_0
                      have HC381_0 := Aside0.mk hl381_0
                      clear hi381_0 hl381_0
                      replace p381 := eq_true p381
                      replace q381 := eq_true q381
                      try go_wp2
                      have n0_ := Aside0.mk (Kd.S_drew HO_7.out)
                      have n1_ := Aside0.mk (Kd.R_drew HO_9.out)
                      have n2_ := Aside0.mk (blk_drew BK380.out)
                      have n3_ := Aside0.mk (below_drew1 HB.out)
                      clear HO_7
                      clear HO_9
                      clear BK380
                      clear HB
                      have HO_7 := n0_
                      have HO_9 := n1_
                      have BK380 := n2_
                      have HB := n3_
                      clear n0_ n1_ n2_ n3_
                      have p382 : 0 ≤ (x8_1 : Int) := of_decide_eq_true (by first | (with_reducible assumption) | assumption)
                      have q382 : x8_1 < (l0_2.length : Int) := of_decide_eq_true (by first | (with_reducible assumption) | assumption)
                      obtain ⟨ad382, A382_0, c382_0, e382, hx382_0, hl382_0, hi382_0⟩ := at_L2 HR0_2.out x8_1 p382 q382
                      have hw382_0 := hx382_0
                      obtain rfl : ad381 = ad382 := (by injection e382)
                      replace hx382_0 := (HB.out.cell (World.block_lt_of_cell? w _ hx382_0)).trans hx382_0
                      have HR382_0 := Aside0.mk hi382_0
                      have HC382_0 := Aside0.mk hl382_0
                      clear hi382_0 hl382_0
                      replace p382 := eq_true p382
                      replace q382 := eq_true q382
                      have p383 : 0 ≤ (x10_2 : Int) := of_decide_eq_true (by first | (with_reducible assumption) | assumption)
                      have q383 : x10_2 < ((rd_L2 l0_2 x8_1).length : Int) := of_decide_eq_true (by first | (with_reducible assumption) | assumption)
                      obtain ⟨ad383, A383_0, c383_0, e383, hx383_0, hl383_0, hi383_0⟩ := at_L1 HR382_0.out x10_2 p383 q383
                      have hw383_0 := hx383_0
                      cases e383
                      replace hx383_0 := (HB.out.cell (World.block_lt_of_cell? w _ hx383_0)).trans hx383_0
                      have HR383_0 := Aside0.mk hi383_0
                      have HC383_0 := Aside0.mk hl383_0
                      clear hi383_0 hl383_0
                      replace p383 := eq_true p383
                      replace q383 := eq_true q383
                      refine start_ (n := 18) (S := fun w' => w'.cell? ⟨gb380, 0, none⟩ = some (.int .i64 a0_0) ∧ w'.cell? ⟨gb380, 1, none⟩ = some (.slice A0_1 l0_1.length c0_1) ∧ w'.cell? ⟨gb380, 2, none⟩ = some (.slice (some ad381) l0_2.length c0_2) ∧ w'.cell? (ad381.add (x8_1).toNat) = some (.slice (some ad383) (rd_L2 l0_2 x8_1).length c382_0) ∧ w'.cell? (ad383.add (x10_2).toNat) = some (.slice A383_0 (rd_L1 (rd_L2 l0_2 x8_1) x10_2).length c383_0)) (ds := []) #[false, false, false, false, false, false, false, false, false, false, false, false, false, false, false, false, false, false] (by kernel_rfl) rfl rfl ⟨(blk_cell BK380.out 0).trans rfl, (blk_cell BK380.out 1).trans rfl, (blk_cell BK380.out 2).trans rfl, ((HB.out.cell (World.block_lt_of_cell? w _ hw382_0)).trans hw382_0), ((HB.out.cell (World.block_lt_of_cell? w _ hw383_0)).trans hw383_0)⟩ (fun hHeld => ?_); refine with_tabW antiquaryref08_Table.tab9 antiquaryref08_Table.bits9 (fun HT_ HW_ => ?_)
                      generalize wr.drew = w15 at HO_7 HO_9 BK380 HB HR382_0 HR383_0 hx382_0 hx383_0 hHeld ⊢
                      refine pure_ (i := 0) (N := some 28) (v := ?_) (a' := ?_) #[true, false, false, false, false, false, false, false, false, false, false, false, false, false, false, false, false, false] rfl rfl (any_of HT_.out (by kernel_rfl)) (fun _ _ _ h => h) (Or.inl ⟨by rfl, ?_⟩) ?_ ?_
                      rotate_left
                      · intro w'
                        go_simp
                        with_reducible rfl
                      rotate_left
                      · simp only [Act.put, List.setIfInBounds_toArray, List.set_cons_zero, List.set_cons_succ, i64_w, i32_w]
                        rfl
                      refine pure_ (i := 1) (N := some 29) (v := ?_) (a' := ?_) #[true, true, false, false, false, false, false, false, false, false, false, false, false, false, false, false, false, false] rfl rfl (any_of HT_.out (by kernel_rfl)) (fun _ _ _ h => h) (Or.inl ⟨by rfl, ?_⟩) ?_ ?_
                      rotate_left
                      · intro w'
                        go_simp
                        with_reducible rfl
                      rotate_left
                      · simp only [Act.put, List.setIfInBounds_toArray, List.set_cons_zero, List.set_cons_succ, i64_w, i32_w]
                        rfl
                      refine pure_ (i := 2) (N := some 30) (v := ?_) (a' := ?_) #[true, true, true, false, false, false, false, false, false, false, false, false, false, false, false, false, false, false] rfl rfl (any_of HT_.out (by kernel_rfl)) (fun _ _ _ h => h) (Or.inl ⟨by rfl, ?_⟩) ?_ ?_
                      rotate_left
                      · intro w'
                        go_simp
                        with_reducible rfl
                      rotate_left
                      · simp only [Act.put, List.setIfInBounds_toArray, List.set_cons_zero, List.set_cons_succ, i64_w, i32_w]
                        rfl
                      refine pure_ (i := 4) (N := some 32) (v := ?_) (a' := ?_) #[true, true, true, false, true, false, false, false, false, false, false, false, false, false, false, false, false, false] rfl rfl (any_of HT_.out (by kernel_rfl)) (fun _ _ _ h => h) (Or.inl ⟨by rfl, ?_⟩) ?_ ?_
                      rotate_left
                      · intro w'
                        go_simp
                        with_reducible rfl
                      rotate_left
                      · simp only [Act.put, List.setIfInBounds_toArray, List.set_cons_zero, List.set_cons_succ, i64_w, i32_w]
                        rfl
                      refine pure_ (i := 7) (N := some 35) (v := ?_) (a' := ?_) #[true, true, true, false, true, false, false, true, false, false, false, false, false, false, false, false, false, false] rfl rfl (any_of HT_.out (by kernel_rfl)) (fun _ _ _ h => h) (Or.inl ⟨by rfl, ?_⟩) ?_ ?_
                      rotate_left
                      · intro w'
                        go_simp
                        with_reducible rfl
                      rotate_left
                      · simp only [Act.put, List.setIfInBounds_toArray, List.set_cons_zero, List.set_cons_succ, i64_w, i32_w]
                        rfl
                      refine pure_ (i := 11) (N := some 39) (v := ?_) (a' := ?_) #[true, true, true, false, true, false, false, true, false, false, false, true, false, false, false, false, false, false] rfl rfl (any_of HT_.out (by kernel_rfl)) (fun _ _ _ h => h) (Or.inl ⟨by rfl, ?_⟩) ?_ ?_
                      rotate_left
                      · intro w'
                        go_simp
                        with_reducible rfl
                      rotate_left
                      · simp only [Act.put, List.setIfInBounds_toArray, List.set_cons_zero, List.set_cons_succ, i64_w, i32_w]
                        rfl
                      refine pure_ (i := 12) (N := some 40) (v := ?_) (a' := ?_) #[true, true, true, false, true, false, false, true, false, false, false, true, true, false, false, false, false, false] rfl rfl (any_of HT_.out (by kernel_rfl)) (fun _ _ _ h => h) (Or.inl ⟨by rfl, ?_⟩) ?_ ?_
                      rotate_left
                      · intro w'
                        go_simp
                        with_reducible rfl
                      rotate_left
                      · simp only [Act.put, List.setIfInBounds_toArray, List.set_cons_zero, List.set_cons_succ, i64_w, i32_w]
                        rfl
                      refine take_ (i := 3) (N := some 31) (v := ?_) (a' := ?_) #[true, true, true, true, true, false, false, true, false, false, false, true, true, false, false, false, false, false] rfl rfl (take_ofW HT_.out HW_.out (by kernel_rfl)) (fun _ _ _ h => h) (Or.inl ⟨by rfl, ?_⟩) hHeld ?_ ?_
                      rotate_left
                      · rintro w' ⟨s0, s1, s2, s3, s4⟩
                        go_simp
                        with_reducible rfl
                      rotate_left
                      · simp only [Act.put, List.setIfInBounds_toArray, List.set_cons_zero, List.set_cons_succ, i64_w, i32_w]
                        rfl
                      refine pure_ (i := 5) (N := some 33) (v := ?_) (a' := ?_) #[true, true, true, true, true, true, false, true, false, false, false, true, true, false, false, false, false, false] rfl rfl (any_of HT_.out (by kernel_rfl)) (fun _ _ _ h => h) (Or.inl ⟨by rfl, ?_⟩) ?_ ?_
                      rotate_left
                      · intro w'
                        go_simp
                        with_reducible rfl
                      rotate_left
                      · simp only [Act.put, List.setIfInBounds_toArray, List.set_cons_zero, List.set_cons_succ, i64_w, i32_w]
                        rfl
                      refine take_ (i := 6) (N := some 34) (v := ?_) (a' := ?_) #[true, true, true, true, true, true, true, true, false, false, false, true, true, false, false, false, false, false] rfl rfl (take_ofW HT_.out HW_.out (by kernel_rfl)) (fun _ _ _ h => h) (Or.inl ⟨by rfl, ?_⟩) hHeld ?_ ?_
                      rotate_left
                      · rintro w' ⟨s0, s1, s2, s3, s4⟩
                        go_simp
                        with_reducible rfl
                      rotate_left
                      · simp only [Act.put, List.setIfInBounds_toArray, List.set_cons_zero, List.set_cons_succ, i64_w, i32_w]
                        rfl
                      refine pure_ (i := 8) (N := some 36) (v := ?_) (a' := ?_) #[true, true, true, true, true, true, true, true, true, false, false, true, true, false, false, false, false, false] rfl rfl (any_of HT_.out (by kernel_rfl)) (fun _ _ _ h => h) (Or.inl ⟨by rfl, ?_⟩) ?_ ?_
                      rotate_left
                      · intro w'
                        go_simp
                        with_reducible rfl
                      rotate_left
                      · simp only [Act.put, List.setIfInBounds_toArray, List.set_cons_zero, List.set_cons_succ, i64_w, i32_w]
                        rfl
                      refine take_ (i := 9) (N := some 37) (v := ?_) (a' := ?_) #[true, true, true, true, true, true, true, true, true, true, false, true, true, false, false, false, false, false] rfl rfl (take_ofW HT_.out HW_.out (by kernel_rfl)) (fun _ _ _ h => h) (Or.inl ⟨by rfl, ?_⟩) hHeld ?_ ?_
                      rotate_left
                      · rintro w' ⟨s0, s1, s2, s3, s4⟩
                        go_simp
                        with_reducible rfl
                      rotate_left
                      · simp only [Act.put, List.setIfInBounds_toArray, List.set_cons_zero, List.set_cons_succ, i64_w, i32_w]
                        rfl
                      refine take_ (i := 10) (N := some 38) (v := ?_) (a' := ?_) #[true, true, true, true, true, true, true, true, true, true, true, true, true, false, false, false, false, false] rfl rfl (take_ofW HT_.out HW_.out (by kernel_rfl)) (fun _ _ _ h => h) (Or.inl ⟨by rfl, ?_⟩) hHeld ?_ ?_
                      rotate_left
                      · rintro w' ⟨s0, s1, s2, s3, s4⟩
                        go_simp
                        with_reducible rfl
                      rotate_left
                      · simp only [Act.put, List.setIfInBounds_toArray, List.set_cons_zero, List.set_cons_succ, i64_w, i32_w]
                        rfl
                      refine one_ (i := 13) (N := some 41) #[true, true, true, true, true, true, true, true, true, true, true, true, true, true, false, false, false, false] rfl rfl (one_of HT_.out (by kernel_rfl)) (by decide) (fun K hK => ?_)
                      refine goes_ Try.func49 (by kernel_rfl) rfl #[.agg #[.int .i64 a0_0, .slice A0_1 l0_1.length c0_1, .slice (some ad381) l0_2.length c0_2], .int .i64 x8_1, .slice A2 l2.length c2] (by rfl) rfl rfl (by (try simp only [List.map_toArray, List.map_cons, List.map_nil]); first | done | rfl | (simp only [List.length_drop, List.length_take]; rfl)) ?_
                      with_reducible refine (antiquaryref08_Part.calls a0_0 _ _ l0_1 _ _ l0_2 x8_1 (fun k_ => k_ < w.heap.size) _ _ l2 t384 _ ?side1 ?side2 ?side3 ?side4 ?side5 A11.out).mono ?_
                      (case side1 => repeat (first | exact (Kd.C_below HR0_1.out HB.out) | (with_reducible refine Kd.C_alloc ?_ _) | (with_reducible refine Kd.C_drewN ?_ _) | (with_reducible refine Kd.C_drew ?_)))
                      (case side2 => exact HC0_1.out)
                      (case side3 => repeat (first | exact (Kd.C_below HR0_2.out HB.out) | (with_reducible refine Kd.C_alloc ?_ _) | (with_reducible refine Kd.C_drewN ?_ _) | (with_reducible refine Kd.C_drew ?_)))
                      (case side4 => exact HC0_2.out)
                      (case side5 => exact Kd.V_mk HC2.out (Kd.F_below (Kd.C_F (Kd.heap_int .i64) HR2.out) (by repeat (first | (with_reducible first | exact HB.out | apply below_alloc | apply pw_below_drewN | apply below_drew1 | refine below_set ?_ GE380.out) | exact HB.out))))
                      rintro e w16 ⟨v385, rfl, ho0, hb⟩
                      refine ⟨_, rfl, ?_⟩
                      have n0_ := Aside0.mk (Kd.S_below (by (with_reducible repeat (first | apply Kd.S_alloc | apply Kd.S_drewN | apply Kd.S_drew)); exact HO_7.out) hb)
                      have n1_ := Aside0.mk (Kd.R_below (by (with_reducible repeat (first | apply Kd.R_alloc | apply Kd.R_drewN | apply Kd.R_drew)); exact HO_9.out) hb)
                      have n2_ := Aside0.mk (Kd.V_lower (Kd.V_mono (ok' := fun k_ => some k_ ≠ (u7 : Value).ownBlock ∧ some k_ ≠ (u9 : Value).ownBlock ∧ k_ ≠ gb380) ho0 (fun k_ hk_ => ⟨Or.elim hk_ (fun hs_ => fun e_ => Nat.not_le.2 hs_ (Kd.S_base HO_7.out k_ e_.symm)) (fun hn_ => (Kd.fresh' (Kd.S_lt (by (with_reducible repeat (first | apply Kd.S_alloc | apply Kd.S_drewN | apply Kd.S_drew)); exact HO_7.out)) k_ hn_)), Or.elim hk_ (fun hs_ => fun e_ => Nat.not_le.2 hs_ (Kd.R_base HO_9.out k_ e_.symm)) (fun hn_ => (Kd.fresh' (Kd.R_lt (by (with_reducible repeat (first | apply Kd.R_alloc | apply Kd.R_drewN | apply Kd.R_drew)); exact HO_9.out)) k_ hn_)), Or.elim hk_ (fun hs_ => fun e_ => Nat.not_le.2 hs_ (by rw [e_]; exact GW380.out)) (fun hn_ => (Kd.freshB (g := gb380) (o := .cells #[.int .i64 a0_0, .slice A0_1 l0_1.length c0_1, .slice (some ad381) l0_2.length c0_2] 25 (0, 0)) (by (with_reducible repeat (first | refine blk_drewN ?_ _ | refine blk_drew ?_ | refine blk_alloc ?_ _)); exact BK380.out) k_ hn_))⟩)) (below_size (by repeat (first | (with_reducible first | exact HB.out | apply below_alloc | apply pw_below_drewN | apply below_drew1 | refine below_set ?_ GE380.out) | exact HB.out))))
                      have n3_ := Aside0.mk (blk_below (g := gb380) (o := .cells #[.int .i64 a0_0, .slice A0_1 l0_1.length c0_1, .slice (some ad381) l0_2.length c0_2] 25 (0, 0)) (by (with_reducible repeat (first | refine blk_drewN ?_ _ | refine blk_drew ?_ | refine blk_alloc ?_ _)); exact BK380.out) hb)
                      have n4_ := Aside0.mk (below_step (by repeat (first | (with_reducible first | exact HB.out | apply below_alloc | apply pw_below_drewN | apply below_drew1 | refine below_set ?_ GE380.out) | exact HB.out)) hb)
                      clear HO_7
                      clear HO_9
                      clear BK380
                      clear HB
                      have HO_7 := n0_
                      have HO_9 := n1_
                      have HO386 := n2_
                      have BK380 := n3_
                      have HB := n4_
                      clear n0_ n1_ n2_ n3_ n4_
                      (try clear hb)
                      (try clear hb2)
                      (try clear hk)
                      (try clear hi)
                      (try clear ho0)
                      obtain ⟨Ao17, co17, eo17⟩ := Kd.V_slice HO386.out
                      (first | subst eo17 | (injection eo17 with f1_ f2_ f3_; have f4_ := f1_.symm; have f5_ := f3_.symm; clear f1_ f2_ f3_; subst f4_; subst f5_))
                      refine hK.out _ _ ⟨(blk_cell BK380.out 0).trans rfl, (blk_cell BK380.out 1).trans rfl, (blk_cell BK380.out 2).trans rfl, ((HB.out.cell (World.block_lt_of_cell? w _ hw382_0)).trans hw382_0), ((HB.out.cell (World.block_lt_of_cell? w _ hw383_0)).trans hw383_0)⟩ (fun hHeld => ?_)
                      clear hK K
                      refine norm_ (a' := ?_) ?_ ?_
                      rotate_left
                      · show Act.put _ (some 41) _ = _
                        simp only [Act.put, List.setIfInBounds_toArray, List.set_cons_zero, List.set_cons_succ, i64_w, i32_w]
                        rfl
                      refine one_ (i := 14) (N := some 42) #[true, true, true, true, true, true, true, true, true, true, true, true, true, true, true, false, false, false] rfl rfl (one_of HT_.out (by kernel_rfl)) (by decide) (fun K hK => ?_)
                      refine goes_ Try.func29 (by kernel_rfl) rfl #[.int .i64 a1, .slice A383_0 (rd_L1 (rd_L2 l0_2 x8_1) x10_2).length c383_0, .slice Ao17 t384.length co17] (by rfl) rfl rfl (by (try simp only [List.map_toArray, List.map_cons, List.map_nil]); first | done | rfl | (simp only [List.length_drop, List.length_take]; rfl)) ?_
                      with_reducible refine (antiquaryref04_Key.calls k2 a1 _ _ (rd_L1 (rd_L2 l0_2 x8_1) x10_2) _ _ t384 t387 _ ?side1 ?side2 ?side3 ?side4 A12.out).mono ?_
                      (case side1 => repeat (first | exact (Kd.C_below HR383_0.out HB.out) | (with_reducible refine Kd.C_alloc ?_ _) | (with_reducible refine Kd.C_drewN ?_ _) | (with_reducible refine Kd.C_drew ?_)))
                      (case side2 => exact HC383_0.out)
                      (case side3 => repeat (first | exact (Kd.V_reads' HO386.out).2.2 | (with_reducible refine Kd.C_alloc ?_ _) | (with_reducible refine Kd.C_drewN ?_ _) | (with_reducible refine Kd.C_drew ?_)))
                      (case side4 => exact (Kd.V_reads' HO386.out).2.1)
                      rintro e w18 ⟨rfl, hb⟩
                      refine ⟨_, rfl, ?_⟩
                      have n0_ := Aside0.mk (Kd.S_below (by (with_reducible repeat (first | apply Kd.S_alloc | apply Kd.S_drewN | apply Kd.S_drew)); exact HO_7.out) hb)
                      have n1_ := Aside0.mk (Kd.R_below (by (with_reducible repeat (first | apply Kd.R_alloc | apply Kd.R_drewN | apply Kd.R_drew)); exact HO_9.out) hb)
                      have n2_ := Aside0.mk (Kd.V_below (by (with_reducible repeat (first | apply Kd.V_alloc | apply Kd.V_drewN | apply Kd.V_drew)); exact HO386.out) hb)
                      have n3_ := Aside0.mk (blk_below (g := gb380) (o := .cells #[.int .i64 a0_0, .slice A0_1 l0_1.length c0_1, .slice (some ad381) l0_2.length c0_2] 25 (0, 0)) (by (with_reducible repeat (first | refine blk_drewN ?_ _ | refine blk_drew ?_ | refine blk_alloc ?_ _)); exact BK380.out) hb)
                      have n4_ := Aside0.mk (below_step (by repeat (first | (with_reducible first | exact HB.out | apply below_alloc | apply pw_below_drewN | apply below_drew1 | refine below_set ?_ GE380.out) | exact HB.out)) hb)
                      clear HO_7
                      clear HO_9
                      clear HO386
                      clear BK380
                      clear HB
                      have HO_7 := n0_
                      have HO_9 := n1_
                      have HO386 := n2_
                      have BK380 := n3_
                      have HB := n4_
                      clear n0_ n1_ n2_ n3_ n4_
                      (try clear hb)
                      (try clear hb2)
                      (try clear hk)
                      (try clear hi)
                      refine hK.out _ _ ⟨(blk_cell BK380.out 0).trans rfl, (blk_cell BK380.out 1).trans rfl, (blk_cell BK380.out 2).trans rfl, ((HB.out.cell (World.block_lt_of_cell? w _ hw382_0)).trans hw382_0), ((HB.out.cell (World.block_lt_of_cell? w _ hw383_0)).trans hw383_0)⟩ (fun hHeld => ?_)
                      clear hK K
                      refine norm_ (a' := ?_) ?_ ?_
                      rotate_left
                      · show Act.put _ (some 42) _ = _
                        simp only [Act.put, List.setIfInBounds_toArray, List.set_cons_zero, List.set_cons_succ, i64_w, i32_w]
                        rfl
                      refine one_ (i := 15) (N := some 43) #[true, true, true, true, true, true, true, true, true, true, true, true, true, true, true, true, false, false] rfl rfl (one_of HT_.out (by kernel_rfl)) (by decide) (fun K hK => ?_)
                      refine value_ (w1 := ?_) (v := ?_) (by rfl) rfl ?_ ?_
                      rotate_left 2
                      · go_simp
                        constructor
                        · rfl
                        · rfl
                      refine hK.out _ _ ⟨(blk_cell (blk_alloc BK380.out _) 0).trans rfl, (blk_cell (blk_alloc BK380.out _) 1).trans rfl, (blk_cell (blk_alloc BK380.out _) 2).trans rfl, (World.cell?_alloc_lt _ _ _ (World.block_lt_of_cell? _ _ (((HB.out.cell (World.block_lt_of_cell? w _ hw382_0)).trans hw382_0)))).trans (((HB.out.cell (World.block_lt_of_cell? w _ hw382_0)).trans hw382_0)), (World.cell?_alloc_lt _ _ _ (World.block_lt_of_cell? _ _ (((HB.out.cell (World.block_lt_of_cell? w _ hw383_0)).trans hw383_0)))).trans (((HB.out.cell (World.block_lt_of_cell? w _ hw383_0)).trans hw383_0))⟩ (fun hHeld => ?_)
                      clear hK K
                      refine norm_ (a' := ?_) ?_ ?_
                      rotate_left
                      · show Act.put _ (some 43) _ = _
                        simp only [Act.put, List.setIfInBounds_toArray, List.set_cons_zero, List.set_cons_succ, i64_w, i32_w]
                        rfl
                      refine one_ (i := 16) (N := some 44) #[true, true, true, true, true, true, true, true, true, true, true, true, true, true, true, true, true, false] rfl rfl (one_of HT_.out (by kernel_rfl)) (by decide) (fun K hK => ?_)
                      refine Kd.R_append_step (Kd.int .i64) (w0 := w) w.heap.size (by rfl) (.tmp 28) (.tmp 43) 22 3 (.int .i64 0) 8 rfl Try.underlying22 info3 rfl (by decide) (by omega) u9 x9_2 t387 [.int .i64 t387] (fun _ => True) (fun _ => False) rfl rfl ?aP (fun _ hk => hk.elim) ?aF ?aO ?aB ?aS ?aL ?_
                      (case aP => exact rfl)
                      (case aB => exact (by repeat (first | (with_reducible first | exact HB.out | apply below_alloc | apply pw_below_drewN | apply below_drew1 | refine below_set ?_ GE380.out) | exact HB.out)))
                      (case aF => exact (fun _ _ => trivial))
                      (case aO => exact (by (with_reducible repeat (first | apply Kd.R_alloc | apply Kd.R_drewN | apply Kd.R_drew)); exact HO_9.out))
                      (case aS => exact (below_size (by repeat (first | (with_reducible first | exact HB.out | apply below_alloc | apply pw_below_drewN | apply below_drew1 | refine below_set ?_ GE380.out) | exact HB.out))))
                      (case aL => have := LMc13.out; omega)
                      intro v389 w19 ho hb hg hat
                      rw [← Ny388.out] at ho
                      have n0_ := Aside0.mk (Kd.S_after (ok := (fun _ => True)) (by (with_reducible repeat (first | apply Kd.S_alloc | apply Kd.S_drewN | apply Kd.S_drew)); exact Kd.S_mono HO_7.out (fun _ hk => ⟨trivial, hk⟩)) hg hat)
                      have n1_ := Aside0.mk (blk_grown (g := gb380) (o := .cells #[.int .i64 a0_0, .slice A0_1 l0_1.length c0_1, .slice (some ad381) l0_2.length c0_2] 25 (0, 0)) (by (with_reducible repeat (first | refine blk_drewN ?_ _ | refine blk_drew ?_ | refine blk_alloc ?_ _)); exact BK380.out) hg (Kd.R_ne HO_9.out BK380.out (by decide)))
                      have n2_ := Aside0.mk (Kd.V_afterv (ok := (fun k_ => some k_ ≠ (u7 : Value).ownBlock ∧ k_ ≠ gb380)) (by (with_reducible repeat (first | apply Kd.V_alloc | apply Kd.V_drewN | apply Kd.V_drew)); exact Kd.V_mono HO386.out (fun _ hk => ⟨⟨hk.1, hk.2.2⟩, hk.2.1⟩)) hg hat)
                      have n3_ := Aside0.mk (hb)
                      have n4_ := Aside0.mk (ho)
                      clear HO_7
                      clear BK380
                      clear HO386
                      clear HB
                      clear HO_9
                      have HO_7 := n0_
                      have BK380 := n1_
                      have HO386 := n2_
                      have HB := n3_
                      have HO390 := n4_
                      clear n0_ n1_ n2_ n3_ n4_
                      clear ho hb hg hat
                      refine hK.out _ _ ⟨(blk_cell BK380.out 0).trans rfl, (blk_cell BK380.out 1).trans rfl, (blk_cell BK380.out 2).trans rfl, ((HB.out.cell (World.block_lt_of_cell? w _ hw382_0)).trans hw382_0), ((HB.out.cell (World.block_lt_of_cell? w _ hw383_0)).trans hw383_0)⟩ (fun hHeld => ?_)
                      clear hK K
                      refine norm_ (a' := ?_) ?_ ?_
                      rotate_left
                      · show Act.put _ (some 44) _ = _
                        simp only [Act.put, List.setIfInBounds_toArray, List.set_cons_zero, List.set_cons_succ, i64_w, i32_w]
                        rfl
                      refine pure_ (i := 17) (N := some 9) (v := ?_) (a' := ?_) #[true, true, true, true, true, true, true, true, true, true, true, true, true, true, true, true, true, true] rfl rfl (any_of HT_.out (by kernel_rfl)) (fun _ _ _ h => h) (Or.inl ⟨by rfl, ?_⟩) ?_ ?_
                      rotate_left
                      · intro w'
                        go_simp
                        with_reducible rfl
                      rotate_left
                      · simp only [Act.put, List.setIfInBounds_toArray, List.set_cons_zero, List.set_cons_succ, i64_w, i32_w]
                        rfl
                      refine done_ (done_of HT_.out (by kernel_rfl)) ?_
                      try go_wp2
                      go_roundg k2
                      case measure => have := HK1.out; have := HK2.out; omega
                      case rel => exact ⟨(y388), (wrap64 (x10_2 + 1)), (by first | rfl | (simp; done) | (simp [*]; done)), H', ⟨by have := HK1.out; have := HK2.out; omega⟩, ⟨by (with_reducible repeat (first | apply Kd.S_alloc | apply Kd.S_drewN | apply Kd.S_drew)); exact Kd.S_mono HO_7.out (fun _ hk => hk.2)⟩, ⟨by (with_reducible repeat (first | apply Kd.R_alloc | apply Kd.R_drewN | apply Kd.R_drew)); exact HO390.out⟩, ⟨by (with_reducible repeat (first | refine blk_drewN ?_ _ | refine blk_drew ?_ | refine blk_alloc ?_ _)); exact BK380.out⟩, ⟨by repeat (first | (with_reducible first | exact HB.out | apply below_alloc | apply pw_below_drewN | apply below_drew1 | refine below_set ?_ GE380.out) | exact HB.out)⟩⟩
                    · rw [if_neg c13] at H
                      exact absurd H (by simp)
                  · rw [if_neg c10] at H
                    exact absurd H (by simp)
                · rw [if_neg c9] at H
                  have c9b0 : decide (x10_2 < ((rd_L2 l0_2 x8_1).length : Int)) = false := decide_eq_false c9
                  clear c9
                  by_cases c20 : x7_1.length < 5864062014805
                  · rw [if_pos c20] at H
                    have LMc20 := Aside0.mk c20
                    clear c20
                    obtain ⟨y391, hy391⟩ : ∃ y_ : List (List Int), y_ = (x7_1 ++ [x9_2]) := ⟨_, rfl⟩
                    replace H : (antiquaryref08_Table.l0 k2 a1 l2 y391 (wrap64 (x8_1 + 1)) a0_0 l0_1 l0_2) = some r := by first | (rw [hy391]; with_reducible exact H) | (have H2_ := (Option.bind_some _ _).symm.trans H; rw [hy391]; with_reducible exact H2_) | (have H2_ := (Option.bind_some _ _).symm.trans H; with_reducible exact H2_) | with_reducible exact H | (rw [hy391]; exact H) | exact H
                    have Ny391 := Aside0.mk hy391
                    clear hy391
                    have H' := Aside0.mk H
                    clear H
                    have hcz21_0 : wr.cell? ⟨gb380, 0, none⟩ = some (.int .i64 a0_0) := (blk_cell BK380.out 0).trans rfl
                    have hcz21_1 : wr.cell? ⟨gb380, 1, none⟩ = some (.slice A0_1 l0_1.length c0_1) := (blk_cell BK380.out 1).trans rfl
                    have hcz21_2 : wr.cell? ⟨gb380, 2, none⟩ = some (.slice A0_2 l0_2.length c0_2) := (blk_cell BK380.out 2).trans rfl
                    have hfz21_0 := blk_frozen BK380.out 0
                    have hfz21_1 := blk_frozen BK380.out 1
                    have hfz21_2 := blk_frozen BK380.out 2
                    have p381 : 0 ≤ (x8_1 : Int) := of_decide_eq_true (by first | (with_reducible assumption) | assumption)
                    have q381 : x8_1 < (l0_2.length : Int) := of_decide_eq_true (by first | (with_reducible assumption) | assumption)
                    obtain ⟨ad381, A381_0, c381_0, e381, hx381_0, hl381_0, hi381_0⟩ := at_L2 HR0_2.out x8_1 p381 q381
                    cases e381
                    replace hx381_0 := (HB.out.cell (World.block_lt_of_cell? w _ hx381_0)).trans hx381_0
                    have HR381_0 := Aside0.mk hi381_0
                    have HC381_0 := Aside0.mk hl381_0
                    clear hi381_0 hl381_0
                    replace p381 := eq_true p381
                    replace q381 := eq_true q381
                    obtain ⟨Ao23, co23, eo23⟩ := Kd.R_slice HO_9.out
                    subst eo23
                    go_wp2_with (first | ((with_reducible refine gate_builtin (b := .append) (xs := #[.tmp 45, .tmp 47]) rfl ?_); at_builtin; refine Kd.S_append (Kd.slice 3 (Kd.int .i64)) (w0 := w) w.heap.size rfl (.tmp 45) (.tmp 47) 39 22 (.slice none 0 0) 24 rfl Try.underlying39 info22 rfl (by decide) (by omega) u7 x7_1 x9_2 [.slice Ao23 x9_2.length co23] (fun _ => True) (fun k_ => some k_ = (.slice Ao23 x9_2.length co23 : Value).ownBlock) rfl rfl ?aP (fun k_ hk_ => ((Kd.R_mono (ok' := fun k_ => ((fun _ => True)) k_ ∧ some k_ ≠ (u7 : Value).ownBlock) (Kd.R_apart' (HO_9.out) (Kd.S_typed HO_7.out) (by decide)) (fun k_ hk => ⟨trivial, hk.2⟩))).1 k_ hk_.symm) ?aF ?aO ?aB ?aS ?aL ?_; (case aP => exact Kd.M_row (Kd.R_mono (Kd.R_tight rfl (Kd.R_mono (ok' := fun k_ => ((fun _ => True)) k_ ∧ some k_ ≠ (u7 : Value).ownBlock) (Kd.R_apart' (HO_9.out) (Kd.S_typed HO_7.out) (by decide)) (fun k_ hk => ⟨trivial, hk.2⟩))) (fun _ h_ => h_))); (case aB => exact (by repeat (first | (with_reducible first | exact HB.out | apply below_alloc | apply pw_below_drewN | apply below_drew1 | refine below_set ?_ GE380.out) | exact HB.out))); (case aF => exact (fun _ _ => trivial)); (case aO => exact (by (with_reducible repeat (first | apply Kd.S_alloc | apply Kd.S_drewN | apply Kd.S_drew)); exact Kd.S_mono HO_7.out (fun k_ hk => ⟨trivial, fun e_ => hk e_⟩))); (case aS => exact (below_size (by repeat (first | (with_reducible first | exact HB.out | apply below_alloc | apply pw_below_drewN | apply below_drew1 | refine below_set ?_ GE380.out) | exact HB.out)))); (case aL => have := LMc20.out; omega); intro v392 w22 ho hb hg hat; rw [← Ny391.out] at ho; have n0_ := Aside0.mk (blk_grown (g := gb380) (o := .cells #[.int .i64 a0_0, .slice A0_1 l0_1.length c0_1, .slice (some ad381) l0_2.length c0_2] 25 (0, 0)) (by (with_reducible repeat (first | refine blk_drewN ?_ _ | refine blk_drew ?_ | refine blk_alloc ?_ _)); exact BK380.out) hg (Kd.S_ne HO_7.out BK380.out (by decide))); have n1_ := Aside0.mk (hb); have n2_ := Aside0.mk (ho); clear BK380; clear HB; clear HO_7; clear HO_9; have BK380 := n0_; have HB := n1_; have HO393 := n2_; clear n0_ n1_ n2_; clear ho hb hg hat))
                    go_roundg k2
                    case measure => have := HK1.out; have := HK2.out; omega
                    case rel => exact ⟨(y391), (wrap64 (x8_1 + 1)), (by first | rfl | (simp; done) | (simp [*]; done)), H', ⟨by have := HK1.out; have := HK2.out; omega⟩, ⟨by (with_reducible repeat (first | apply Kd.S_alloc | apply Kd.S_drewN | apply Kd.S_drew)); exact HO393.out⟩, ⟨by (with_reducible repeat (first | refine blk_drewN ?_ _ | refine blk_drew ?_ | refine blk_alloc ?_ _)); exact BK380.out⟩, ⟨by repeat (first | (with_reducible first | exact HB.out | apply below_alloc | apply pw_below_drewN | apply below_drew1 | refine below_set ?_ GE380.out) | exact HB.out)⟩⟩
                  · rw [if_neg c20] at H
                    exact absurd H (by simp)
              · rw [if_neg c8] at H
                exact absurd H (by simp)
            · rw [if_neg c7] at H
              exact absurd H (by simp)
      · rw [if_neg c5] at H
        have c5b0 : decide (x8_1 < (l0_1.length : Int)) = false := decide_eq_false c5
        clear c5
        obtain rfl := Option.some.inj H
        have hcz24_0 : wr.cell? ⟨gb380, 0, none⟩ = some (.int .i64 a0_0) := (blk_cell BK380.out 0).trans rfl
        have hcz24_1 : wr.cell? ⟨gb380, 1, none⟩ = some (.slice A0_1 l0_1.length c0_1) := (blk_cell BK380.out 1).trans rfl
        have hcz24_2 : wr.cell? ⟨gb380, 2, none⟩ = some (.slice A0_2 l0_2.length c0_2) := (blk_cell BK380.out 2).trans rfl
        have hfz24_0 := blk_frozen BK380.out 0
        have hfz24_1 := blk_frozen BK380.out 1
        have hfz24_2 := blk_frozen BK380.out 2
        go_wp2
        go_ret
        exact ⟨_, by first | rfl | (simp [errW_none, errW_some] <;> rfl) | (simp [*, errW_none, errW_some] <;> rfl), by (with_reducible repeat (first | apply Kd.S_alloc | apply Kd.S_drewN | apply Kd.S_drew)); exact HO_7.out, by repeat (first | (with_reducible first | exact HB.out | apply below_alloc | apply pw_below_drewN | apply below_drew1 | refine below_set ?_ GE380.out) | exact HB.out)⟩
mutual
def antiquaryref05_Isqrt.j0 : Nat → Int → Option (Int)
  | 0, _ => none
  | k + 1, x0 => antiquaryref05_Isqrt.l0 k x0 0 30
def antiquaryref05_Isqrt.l0 : Nat → Int → Int → Int → Option (Int)
  | 0, _, _, _ => none
  | k + 1, x0, x3, x4 => if x4 ≥ 0 then (if 0 ≤ x4 then (if (wrap64 ((wrap64 (x3 + (shl .i64 1 x4))) * (wrap64 (x3 + (shl .i64 1 x4))))) ≤ x0 then (antiquaryref05_Isqrt.l0 k x0 (wrap64 (x3 + (shl .i64 1 x4))) (wrap64 (x4 - 1))) else (antiquaryref05_Isqrt.l0 k x0 x3 (wrap64 (x4 - 1)))) else (none)) else (some x3)
end
def antiquaryref05_Isqrt.f (k : Nat) (a0 : Int) : Option (Int) := if a0 > 1152921504606846976 then (antiquaryref05_Isqrt.j0 k 1152921504606846976) else (antiquaryref05_Isqrt.j0 k a0)
set_option maxHeartbeats 8000000 in
set_option maxRecDepth 100000 in
theorem antiquaryref05_Isqrt.calls (k : Nat) (a0 : Int) (r : Int) (w : World) (h : antiquaryref05_Isqrt.f k a0 = some r) :
    Calls Try.prog 70 #[.int .i64 a0] w fun e w' => e = .returned (.int .i64 r) ∧ Drawn0 w w' := by
  have H : (if a0 > 1152921504606846976 then (antiquaryref05_Isqrt.j0 k 1152921504606846976) else (antiquaryref05_Isqrt.j0 k a0)) = some r := h
  clear h
  have HC2 := Aside0.mk H
  clear H
  go_enter Try.func70, Try.ntmps70
  go_upto_if 7 with (fail)
  go_cut [0] (fun v0 wc => ∃ (kq : Nat) (x0_1 : Int), v0 = .int .i64 x0_1 ∧ Aside0 (antiquaryref05_Isqrt.j0 kq x0_1 = some r) ∧ Aside0 (kq ≤ k) ∧ Drawn0 w wc)
  case first =>
    have H := HC2.out
    clear HC2
    by_cases c3 : a0 > 1152921504606846976
    · rw [if_pos c3] at H
      have c3b0 : decide (1152921504606846976 < a0) = true := decide_eq_true c3
      clear c3
      (first | rw [c3b0] | (simp only [i64_w, i32_w]; rw [c3b0]) | skip)
      have H' := Aside0.mk H
      clear H
      go_wp2
      go_meet
      case rel => exact ⟨_, (1152921504606846976), (by first | rfl | (simp; done) | (simp [*]; done)), H', ⟨by first | omega | exact Nat.le_refl _⟩, by repeat (first | exact Drawn0.refl _ | apply Drawn0.step)⟩
    · rw [if_neg c3] at H
      have c3b0 : decide (1152921504606846976 < a0) = false := decide_eq_false c3
      clear c3
      (first | rw [c3b0] | (simp only [i64_w, i32_w]; rw [c3b0]) | skip)
      have H' := Aside0.mk H
      clear H
      go_wp2
      go_meet
      case rel => exact ⟨_, (a0), (by first | rfl | (simp; done) | (simp [*]; done)), H', ⟨by first | omega | exact Nat.le_refl _⟩, by repeat (first | exact Drawn0.refl _ | apply Drawn0.step)⟩
  case rest =>
    clear HC2
    try clear p2
    try clear c3
    try clear c3b0
    obtain ⟨kq, x0_1, rfl, HA, HJ1, ⟨mc1, rfl⟩⟩ := hcut
    cases kq with
    | zero => exact absurd HA.out (by simp [antiquaryref05_Isqrt.j0])
    | succ kj1 =>
      have H := HA.out
      clear HA
      simp only [antiquaryref05_Isqrt.j0] at H
      have H' := Aside0.mk H
      clear H
      go_wp2
      go_loopg [3, 4] kj1 (fun kq v3 v4 w' => ∃ (x3_2 : Int) (x4_2 : Int), v3 = .int .i64 x3_2 ∧ v4 = .int .i64 x4_2 ∧ Aside0 (antiquaryref05_Isqrt.l0 kq x0_1 x3_2 x4_2 = some r) ∧ Aside0 (kq ≤ kj1) ∧ Drawn0 w w')
      case atStart => exact ⟨(0), (30), (by first | rfl | (simp; done) | (simp [*]; done)), (by first | rfl | (simp; done) | (simp [*]; done)), H', ⟨Nat.le_refl _⟩, by repeat (first | exact Drawn0.refl _ | apply Drawn0.step)⟩
      case round =>
        clear H'
        try clear c1
        try clear p2
        try clear c3
        try clear c3b0
        try clear p2
        obtain ⟨x3_2, x4_2, rfl, rfl, HA, HK2, ⟨m2, rfl⟩⟩ := hrel
        cases gk with
        | zero => exact absurd HA.out (by simp [antiquaryref05_Isqrt.l0])
        | succ k2 =>
          have H := HA.out
          clear HA
          simp only [antiquaryref05_Isqrt.l0] at H
          by_cases c4 : x4_2 ≥ 0
          · rw [if_pos c4] at H
            have c4b0 : decide (0 ≤ x4_2) = true := decide_eq_true c4
            clear c4
            by_cases c5 : 0 ≤ x4_2
            · rw [if_pos c5] at H
              have c5b0 := eq_true c5
              have c5b1 : decide (0 ≤ x4_2) = true := decide_eq_true c5
              clear c5
              obtain ⟨ji6, hji6⟩ : ∃ j_ : Int, (shl .i64 1 x4_2) = j_ := ⟨_, rfl⟩
              replace H : (if (wrap64 ((wrap64 (x3_2 + (ji6))) * (wrap64 (x3_2 + (ji6))))) ≤ x0_1 then (antiquaryref05_Isqrt.l0 k2 x0_1 (wrap64 (x3_2 + (ji6))) (wrap64 (x4_2 - 1))) else (antiquaryref05_Isqrt.l0 k2 x0_1 x3_2 (wrap64 (x4_2 - 1)))) = some r := by first | (rw [hji6] at H; exact H) | (simp only [hji6] at H ⊢; exact H)
              have hji6_ : (IntKind.i64.wrap (1 * 2 ^ min x4_2.toNat 64)) = ji6 := hji6
              have hji6z : x4_2 ≤ 64 → (IntKind.i64.wrap (1 * 2 ^ x4_2.toNat)) = ji6 := shl_small hji6
              have hji6u : (IntKind.i64.wrap (2 ^ min x4_2.toNat 64)) = ji6 := by have h_ := hji6_; rw [Int.one_mul] at h_; exact h_
              have hji6v : x4_2 ≤ 64 → (IntKind.i64.wrap (2 ^ x4_2.toNat)) = ji6 := fun hle_ => by have h_ := hji6z hle_; rw [Int.one_mul] at h_; exact h_
              have hji6y : (wrap64 (1 * 2 ^ min x4_2.toNat 64)) = ji6 := (i64_w _).symm.trans hji6_
              have hji6x : x4_2 ≤ 64 → (wrap64 (1 * 2 ^ x4_2.toNat)) = ji6 := fun h_ => (i64_w _).symm.trans (hji6z h_)
              by_cases c7 : (wrap64 ((wrap64 (x3_2 + (ji6))) * (wrap64 (x3_2 + (ji6))))) ≤ x0_1
              · rw [if_pos c7] at H
                have c7b0 : decide ((wrap64 ((wrap64 (x3_2 + (ji6))) * (wrap64 (x3_2 + (ji6))))) ≤ x0_1) = true := decide_eq_true c7
                clear c7
                have H' := Aside0.mk H
                clear H
                go_wp2
                go_roundg k2
                case measure => have := HJ1.out; have := HK2.out; omega
                case rel => exact ⟨(wrap64 (x3_2 + (ji6))), (wrap64 (x4_2 - 1)), (by first | rfl | (simp; done) | (simp only [← hji6] <;> (first | rfl | simp)) | (simp [*]; done)), (by first | rfl | (simp; done) | (simp [*]; done)), H', ⟨by have := HJ1.out; have := HK2.out; omega⟩, by repeat (first | exact Drawn0.refl _ | apply Drawn0.step)⟩
              · rw [if_neg c7] at H
                have c7b0 : decide ((wrap64 ((wrap64 (x3_2 + (ji6))) * (wrap64 (x3_2 + (ji6))))) ≤ x0_1) = false := decide_eq_false c7
                clear c7
                have H' := Aside0.mk H
                clear H
                go_wp2
                go_roundg k2
                case measure => have := HJ1.out; have := HK2.out; omega
                case rel => exact ⟨(x3_2), (wrap64 (x4_2 - 1)), (by first | rfl | (simp; done) | (simp [*]; done)), (by first | rfl | (simp; done) | (simp [*]; done)), H', ⟨by have := HJ1.out; have := HK2.out; omega⟩, by repeat (first | exact Drawn0.refl _ | apply Drawn0.step)⟩
            · rw [if_neg c5] at H
              exact absurd H (by simp)
          · rw [if_neg c4] at H
            have c4b0 : decide (0 ≤ x4_2) = false := decide_eq_false c4
            clear c4
            obtain rfl := Option.some.inj H
            go_wp2
            go_ret
            exact ⟨by first | rfl | (simp; done) | (simp [*]; done), by repeat (first | exact Drawn0.refl _ | apply Drawn0.step)⟩
def antiquaryref05_Low.f (k : Nat) (a0 : Int) (a1 : Int) (a2 : Int) : Option (Int) := if a0 = 2 then ((antiquaryref05_Isqrt.f k (wrap64 ((wrap64 (4 * a1)) * a2))).bind fun t394 => (some (wrap64 ((wrap64 (a1 + a2)) - t394)))) else (if a1 < a2 then (some (wrap64 (a2 - a1))) else (some (wrap64 (a1 - a2))))
set_option maxHeartbeats 8000000 in
set_option maxRecDepth 100000 in
theorem antiquaryref05_Low.calls (k : Nat) (a0 : Int) (a1 : Int) (a2 : Int) (r : Int) (w : World) (h : antiquaryref05_Low.f k a0 a1 a2 = some r) :
    Calls Try.prog 53 #[.int .i64 a0, .int .i64 a1, .int .i64 a2] w fun e w' => e = .returned (.int .i64 r) ∧ Below w.heap.size w w' := by
  have HB := Aside0.mk (Below.refl w.heap.size w)
  have H : (if a0 = 2 then ((antiquaryref05_Isqrt.f k (wrap64 ((wrap64 (4 * a1)) * a2))).bind fun t394 => (some (wrap64 ((wrap64 (a1 + a2)) - t394)))) else (if a1 < a2 then (some (wrap64 (a2 - a1))) else (some (wrap64 (a1 - a2))))) = some r := h
  clear h
  by_cases c4 : a0 = 2
  · rw [if_pos c4] at H
    have c4b0 : (a0 == 2) = true := beq_iff_eq.mpr c4
    have c4b1 : (a0 != 2) = false := bne_eq_false_iff_eq.mpr c4
    clear c4
    replace H := Option.bind_eq_some_iff.mp H
    obtain ⟨t394, A50, H⟩ := H
    replace H : (some (wrap64 ((wrap64 (a1 + a2)) - t394))) = some r := H
    have A5 := Aside0.mk A50
    clear A50
    obtain rfl := Option.some.inj H
    go_enter Try.func53, Try.ntmps53
    go_wp2_with (first | ((with_reducible refine gate_callee (f := 70) rfl ?_); refine goesL_ (some 16) rfl rfl Try.func70 (by kernel_rfl) rfl #[.int .i64 (wrap64 ((wrap64 (4 * a1)) * a2))] rfl (by (try simp only [List.map_toArray, List.map_cons, List.map_nil]); first | done | rfl | (simp only [List.length_drop, List.length_take]; rfl)) ?_; (with_reducible refine (antiquaryref05_Isqrt.calls k (wrap64 ((wrap64 (4 * a1)) * a2)) t394 _ A5.out).mono ?_); rintro e w' ⟨rfl, ⟨nd, rfl⟩⟩; refine ⟨_, rfl, ?_⟩))
    go_ret
    exact ⟨by first | rfl | (simp [errW_none, errW_some] <;> rfl) | (simp [*, errW_none, errW_some] <;> rfl), by repeat (first | (with_reducible first | exact HB.out | apply below_alloc | apply pw_below_drewN | apply below_drew1) | exact HB.out)⟩
  · rw [if_neg c4] at H
    have c4b0 : (a0 == 2) = false := beq_eq_false_iff_ne.mpr c4
    have c4b1 : (a0 != 2) = true := bne_iff_ne.mpr c4
    by_cases c6 : a1 < a2
    · rw [if_pos c6] at H
      have c6b0 : decide (a1 < a2) = true := decide_eq_true c6
      clear c6
      obtain rfl := Option.some.inj H
      go_enter Try.func53, Try.ntmps53
      go_wp2
      go_ret
      exact ⟨by first | rfl | (simp [errW_none, errW_some] <;> rfl) | (simp [*, errW_none, errW_some] <;> rfl), by repeat (first | (with_reducible first | exact HB.out | apply below_alloc | apply pw_below_drewN | apply below_drew1) | exact HB.out)⟩
    · rw [if_neg c6] at H
      have c6b0 : decide (a1 < a2) = false := decide_eq_false c6
      clear c6
      obtain rfl := Option.some.inj H
      go_enter Try.func53, Try.ntmps53
      go_wp2
      go_ret
      exact ⟨by first | rfl | (simp [errW_none, errW_some] <;> rfl) | (simp [*, errW_none, errW_some] <;> rfl), by repeat (first | (with_reducible first | exact HB.out | apply below_alloc | apply pw_below_drewN | apply below_drew1) | exact HB.out)⟩
def antiquaryref05_High.f (k : Nat) (a0 : Int) (a1 : Int) (a2 : Int) : Option (Int) := if a0 = 2 then ((antiquaryref05_Isqrt.f k (wrap64 ((wrap64 (4 * a1)) * a2))).bind fun t395 => (if (wrap64 ((wrap64 (a1 + a2)) + t395)) > 134217728 then (some 134217728) else (some (wrap64 ((wrap64 (a1 + a2)) + t395))))) else (if (wrap64 (a1 + a2)) > 134217728 then (some 134217728) else (some (wrap64 (a1 + a2))))
set_option maxHeartbeats 8000000 in
set_option maxRecDepth 100000 in
theorem antiquaryref05_High.calls (k : Nat) (a0 : Int) (a1 : Int) (a2 : Int) (r : Int) (w : World) (h : antiquaryref05_High.f k a0 a1 a2 = some r) :
    Calls Try.prog 54 #[.int .i64 a0, .int .i64 a1, .int .i64 a2] w fun e w' => e = .returned (.int .i64 r) ∧ Drawn0 w w' := by
  have H : (if a0 = 2 then ((antiquaryref05_Isqrt.f k (wrap64 ((wrap64 (4 * a1)) * a2))).bind fun t395 => (if (wrap64 ((wrap64 (a1 + a2)) + t395)) > 134217728 then (some 134217728) else (some (wrap64 ((wrap64 (a1 + a2)) + t395))))) else (if (wrap64 (a1 + a2)) > 134217728 then (some 134217728) else (some (wrap64 (a1 + a2))))) = some r := h
  clear h
  by_cases c4 : a0 = 2
  · rw [if_pos c4] at H
    have c4b0 : (a0 == 2) = true := beq_iff_eq.mpr c4
    have c4b1 : (a0 != 2) = false := bne_eq_false_iff_eq.mpr c4
    clear c4
    replace H := Option.bind_eq_some_iff.mp H
    obtain ⟨t395, A50, H⟩ := H
    replace H : (if (wrap64 ((wrap64 (a1 + a2)) + t395)) > 134217728 then (some 134217728) else (some (wrap64 ((wrap64 (a1 + a2)) + t395)))) = some r := H
    have A5 := Aside0.mk A50
    clear A50
    by_cases c6 : (wrap64 ((wrap64 (a1 + a2)) + t395)) > 134217728
    · rw [if_pos c6] at H
      have c6b0 : decide (134217728 < (wrap64 ((wrap64 (a1 + a2)) + t395))) = true := decide_eq_true c6
      clear c6
      obtain rfl := Option.some.inj H
      go_enter Try.func54, Try.ntmps54
      go_wp2_with (first | ((with_reducible refine gate_callee (f := 70) rfl ?_); refine goesL_ (some 18) rfl rfl Try.func70 (by kernel_rfl) rfl #[.int .i64 (wrap64 ((wrap64 (4 * a1)) * a2))] rfl (by (try simp only [List.map_toArray, List.map_cons, List.map_nil]); first | done | rfl | (simp only [List.length_drop, List.length_take]; rfl)) ?_; (with_reducible refine (antiquaryref05_Isqrt.calls k (wrap64 ((wrap64 (4 * a1)) * a2)) t395 _ A5.out).mono ?_); rintro e w' ⟨rfl, ⟨nd, rfl⟩⟩; refine ⟨_, rfl, ?_⟩))
      go_ret
      exact ⟨by first | rfl | (simp; done) | (simp [*]; done), by repeat (first | exact Drawn0.refl _ | apply Drawn0.step)⟩
    · rw [if_neg c6] at H
      have c6b0 : decide (134217728 < (wrap64 ((wrap64 (a1 + a2)) + t395))) = false := decide_eq_false c6
      clear c6
      obtain rfl := Option.some.inj H
      go_enter Try.func54, Try.ntmps54
      go_wp2_with (first | ((with_reducible refine gate_callee (f := 70) rfl ?_); refine goesL_ (some 18) rfl rfl Try.func70 (by kernel_rfl) rfl #[.int .i64 (wrap64 ((wrap64 (4 * a1)) * a2))] rfl (by (try simp only [List.map_toArray, List.map_cons, List.map_nil]); first | done | rfl | (simp only [List.length_drop, List.length_take]; rfl)) ?_; (with_reducible refine (antiquaryref05_Isqrt.calls k (wrap64 ((wrap64 (4 * a1)) * a2)) t395 _ A5.out).mono ?_); rintro e w' ⟨rfl, ⟨nd, rfl⟩⟩; refine ⟨_, rfl, ?_⟩))
      go_ret
      exact ⟨by first | rfl | (simp; done) | (simp [*]; done), by repeat (first | exact Drawn0.refl _ | apply Drawn0.step)⟩
  · rw [if_neg c4] at H
    have c4b0 : (a0 == 2) = false := beq_eq_false_iff_ne.mpr c4
    have c4b1 : (a0 != 2) = true := bne_iff_ne.mpr c4
    by_cases c7 : (wrap64 (a1 + a2)) > 134217728
    · rw [if_pos c7] at H
      have c7b0 : decide (134217728 < (wrap64 (a1 + a2))) = true := decide_eq_true c7
      clear c7
      obtain rfl := Option.some.inj H
      go_enter Try.func54, Try.ntmps54
      go_wp2
      go_ret
      exact ⟨by first | rfl | (simp; done) | (simp [*]; done), by repeat (first | exact Drawn0.refl _ | apply Drawn0.step)⟩
    · rw [if_neg c7] at H
      have c7b0 : decide (134217728 < (wrap64 (a1 + a2))) = false := decide_eq_false c7
      clear c7
      obtain rfl := Option.some.inj H
      go_enter Try.func54, Try.ntmps54
      go_wp2
      go_ret
      exact ⟨by first | rfl | (simp; done) | (simp [*]; done), by repeat (first | exact Drawn0.refl _ | apply Drawn0.step)⟩
def antiquaryref08_Bounds.f (k : Nat) (a0 : Int) (a1 : Int) (a2 : Int) : Option (Int × Int) := (antiquaryref05_Low.f k a0 a1 a2).bind fun t397 => ((antiquaryref05_High.f k a0 a1 a2).bind fun t398 => (some (t397, t398)))
set_option maxHeartbeats 8000000 in
set_option maxRecDepth 100000 in
theorem antiquaryref08_Bounds.calls (k : Nat) (a0 : Int) (a1 : Int) (a2 : Int) (r1 : Int) (r2 : Int) (w : World) (h : antiquaryref08_Bounds.f k a0 a1 a2 = some (r1, r2)) :
    Calls Try.prog 24 #[.int .i64 a0, .int .i64 a1, .int .i64 a2] w fun e w' => e = .returned (.agg #[.int .i64 r1, .int .i64 r2]) ∧ Below w.heap.size w w' := by
  have hu44 := Try.underlying44
  have HB := Aside0.mk (Below.refl w.heap.size w)
  have H : ((antiquaryref05_Low.f k a0 a1 a2).bind fun t397 => ((antiquaryref05_High.f k a0 a1 a2).bind fun t398 => (some (t397, t398)))) = some (r1, r2) := h
  clear h
  replace H := Option.bind_eq_some_iff.mp H
  obtain ⟨t397, A40, H⟩ := H
  replace H : ((antiquaryref05_High.f k a0 a1 a2).bind fun t398 => (some (t397, t398))) = some (r1, r2) := H
  have A4 := Aside0.mk A40
  clear A40
  replace H := Option.bind_eq_some_iff.mp H
  obtain ⟨t398, A50, H⟩ := H
  replace H : (some (t397, t398)) = some (r1, r2) := H
  have A5 := Aside0.mk A50
  clear A50
  simp only [Option.some.injEq, Prod.mk.injEq] at H
  obtain ⟨rfl, rfl⟩ := H
  go_enter Try.func24, Try.ntmps24
  go_wp2_with (first | ((with_reducible refine gate_dst (N := 6) rfl ?_); refine box_event ?hg (N := 6) ?hd (cs := #[.int .i64 0, .int .i64 0]) (t := 44) ?hr ?_; (case hd => rfl); (case hg => rfl); (case hr => first | (go_simp; done) | (go_simp; rfl)); intro gb396 hg w6 hbox hb; have n0_ := Aside0.mk (below_step (by repeat (first | (with_reducible first | exact HB.out | apply below_alloc | apply pw_below_drewN | apply below_drew1) | exact HB.out)) hb); have n1_ := Aside0.mk (hbox); have n2_ := Aside0.mk ((by rw [hg]; exact (below_size (by repeat (first | (with_reducible first | exact HB.out | apply below_alloc | apply pw_below_drewN | apply below_drew1) | exact HB.out))) : w.heap.size ≤ gb396)); have n3_ := Aside0.mk ((by rw [hg]; exact (below_size (by repeat (first | (with_reducible first | exact HB.out | apply below_alloc | apply pw_below_drewN | apply below_drew1) | exact HB.out))) : w.heap.size ≤ gb396)); clear HB; have HB := n0_; have BK396 := n1_; have GW396 := n2_; have GE396 := n3_; clear n0_ n1_ n2_ n3_; clear hb hbox hg) | ((with_reducible refine gate_callee (f := 53) rfl ?_); refine goesL_ (some 10) rfl rfl Try.func53 (by kernel_rfl) rfl #[.int .i64 a0, .int .i64 a1, .int .i64 a2] rfl (by (try simp only [List.map_toArray, List.map_cons, List.map_nil]); first | done | rfl | (simp only [List.length_drop, List.length_take]; rfl)) ?_; (with_reducible refine (antiquaryref05_Low.calls k a0 a1 a2 t397 _ A4.out).mono ?_); rintro e w7 ⟨rfl, hb⟩; refine ⟨_, rfl, ?_⟩; have n0_ := Aside0.mk (blk_below (g := gb396) (o := .cells #[.int .i64 0, .int .i64 0] 44 (0, 0)) (by (with_reducible repeat (first | refine blk_drewN ?_ _ | refine blk_drew ?_ | refine blk_alloc ?_ _)); exact BK396.out) hb); have n1_ := Aside0.mk (below_step (by repeat (first | (with_reducible first | exact HB.out | apply below_alloc | apply pw_below_drewN | apply below_drew1 | refine below_set ?_ GE396.out) | exact HB.out)) hb); clear BK396; clear HB; have BK396 := n0_; have HB := n1_; clear n0_ n1_; (try clear hb); (try clear hb2); (try clear hk); (try clear hi)) | ((with_reducible refine gate_callee (f := 54) rfl ?_); refine goesL_ (some 14) rfl rfl Try.func54 (by kernel_rfl) rfl #[.int .i64 a0, .int .i64 a1, .int .i64 a2] rfl (by (try simp only [List.map_toArray, List.map_cons, List.map_nil]); first | done | rfl | (simp only [List.length_drop, List.length_take]; rfl)) ?_; (with_reducible refine (antiquaryref05_High.calls k a0 a1 a2 t398 _ A5.out).mono ?_); rintro e w' ⟨rfl, ⟨nd, rfl⟩⟩; refine ⟨_, rfl, ?_⟩; (try (rw [drewN_self w7]; generalize hq_ : World.drewN w7 _ = w7; have n0_ : Aside0 (w7.heap[gb396]? = some (.cells #[.int .i64 0, .int .i64 0] 44 (0, 0))) := ⟨by rw [← hq_]; exact (by (with_reducible repeat (first | refine blk_drewN ?_ _ | refine blk_drew ?_ | refine blk_alloc ?_ _)); exact BK396.out)⟩; have n1_ : Aside0 (Below w.heap.size w w7) := ⟨by rw [← hq_]; exact (by repeat (first | (with_reducible first | exact HB.out | apply below_alloc | apply pw_below_drewN | apply below_drew1 | refine below_set ?_ GE396.out) | exact HB.out))⟩; clear BK396 HB hq_; have BK396 := n0_; have HB := n1_; clear n0_ n1_)); have hcz8_0 : w7.cell? ⟨gb396, 0, none⟩ = some (.int .i64 0) := (blk_cell BK396.out 0).trans rfl; have hcz8_1 : w7.cell? ⟨gb396, 1, none⟩ = some (.int .i64 0) := (blk_cell BK396.out 1).trans rfl; have hfz8_0 := blk_frozen BK396.out 0; have hfz8_1 := blk_frozen BK396.out 1))
  refine bodyPost_ret (results_cell_row rfl _ _ gb396 44 #[.int .i64 t397, .int .i64 t398] (0, 0) _ rfl (by (with_reducible repeat (first | refine blk_drewN ?_ _ | refine blk_drew ?_ | refine blk_alloc ?_ _)); refine blk_put (cs := #[.int .i64 t397, .int .i64 0]) ?_ 1 _ rfl; (with_reducible repeat (first | refine blk_drewN ?_ _ | refine blk_drew ?_ | refine blk_alloc ?_ _)); refine blk_put (cs := #[.int .i64 0, .int .i64 0]) ?_ 0 _ rfl; (with_reducible repeat (first | refine blk_drewN ?_ _ | refine blk_drew ?_ | refine blk_alloc ?_ _)); exact BK396.out) Try.underlying44 rfl (by kernel_rfl)) rfl ?_
  exact ⟨by first | rfl | (simp [errW_none, errW_some] <;> rfl) | (simp [*, errW_none, errW_some] <;> rfl), by repeat (first | (with_reducible first | exact HB.out | apply below_alloc | apply pw_below_drewN | apply below_drew1 | refine below_set ?_ GE396.out) | exact HB.out)⟩
end Go.Proofs.Ytgpdfalopdhjlaa.Q
end
section
namespace Go.Proofs.Ytgpdfalopdhjlaa.Q
open Go.RowKit Go.Proofs.YtgpdfalopdhjlaaW.PrintWords Go.Proofs.YtgpdfalopdhjlaaW.PrintLast Go.Proofs.YtgpdfalopdhjlaaW.PrintMore
attribute [local go_sem] max2_int min2_int max_two min_two max_three min_three max_four min_four   -- for this text's walks alone
set_option linter.unusedVariables false
set_option linter.unusedSimpArgs false
def antiquaryref08_Sum.l0 : Nat → Int → List (List Int) → List Int → Int → Int → Option (Int)
  | 0, _, _, _, _, _ => none
  | k + 1, x0, x1, x2, x7, x8 => if x8 < (x2.length : Int) then (if 0 ≤ x8 then (if x8 < (x1.length : Int) then (if 0 ≤ (rd x2 x8) then (if (rd x2 x8) < ((rd_L1 x1 x8).length : Int) then (if x0 = 3 then (if (rd (rd_L1 x1 x8) (rd x2 x8)) > x7 then (antiquaryref08_Sum.l0 k x0 x1 x2 (rd (rd_L1 x1 x8) (rd x2 x8)) (wrap64 (x8 + 1))) else (antiquaryref08_Sum.l0 k x0 x1 x2 x7 (wrap64 (x8 + 1)))) else (antiquaryref08_Sum.l0 k x0 x1 x2 (wrap64 (x7 + (rd (rd_L1 x1 x8) (rd x2 x8)))) (wrap64 (x8 + 1)))) else (none)) else (none)) else (none)) else (none)) else (some x7)
def antiquaryref08_Sum.f (k : Nat) (a0 : Int) (l1 : List (List Int)) (l2 : List Int) : Option (Int) := antiquaryref08_Sum.l0 k a0 l1 l2 0 0
set_option maxHeartbeats 8000000 in
set_option maxRecDepth 100000 in
theorem antiquaryref08_Sum.calls (k : Nat) (a0 : Int) (A1 : Option Addr) (c1 : Nat) (l1 : List (List Int)) (A2 : Option Addr) (c2 : Nat) (l2 : List Int) (r : Int) (w : World) (hr1 : Kd.C (Kd.slice 3 (Kd.int .i64)) w A1 l1.length l1) (hc1 : l1.length ≤ c1) (hr2 : Kd.C (Kd.int .i64) w A2 l2.length l2) (hc2 : l2.length ≤ c2) (h : antiquaryref08_Sum.f k a0 l1 l2 = some r) :
    Calls Try.prog 28 #[.int .i64 a0, .slice A1 l1.length c1, .slice A2 l2.length c2] w fun e w' => e = .returned (.int .i64 r) ∧ Drawn0 w w' := by
  have HR1 := Aside0.mk hr1
  have HC1 := Aside0.mk hc1
  clear hr1 hc1
  have HR2 := Aside0.mk hr2
  have HC2 := Aside0.mk hc2
  clear hr2 hc2
  have H : (antiquaryref08_Sum.l0 k a0 l1 l2 0 0) = some r := h
  clear h
  have H' := Aside0.mk H
  clear H
  go_enter Try.func28, Try.ntmps28
  go_wp2
  repeat (go_quiet (fail); try go_wp2)
  go_loopg [7, 8] k (fun kq v7 v8 w' => ∃ (x7_1 : Int) (x8_1 : Int), v7 = .int .i64 x7_1 ∧ v8 = .int .i64 x8_1 ∧ Aside0 (antiquaryref08_Sum.l0 kq a0 l1 l2 x7_1 x8_1 = some r) ∧ Aside0 (kq ≤ k) ∧ Drawn0 w w')
  case atStart => exact ⟨(0), (0), (by first | rfl | (simp; done) | (simp [*]; done)), (by first | rfl | (simp; done) | (simp [*]; done)), H', ⟨Nat.le_refl _⟩, by repeat (first | exact Drawn0.refl _ | apply Drawn0.step)⟩
  case round =>
    clear H'
    try clear c1
    try clear c2
    try clear p2
    obtain ⟨x7_1, x8_1, rfl, rfl, HA, HK1, ⟨m1, rfl⟩⟩ := hrel
    cases gk with
    | zero => exact absurd HA.out (by simp [antiquaryref08_Sum.l0])
    | succ k1 =>
      have H := HA.out
      clear HA
      simp only [antiquaryref08_Sum.l0] at H
      by_cases c4 : x8_1 < (l2.length : Int)
      · rw [if_pos c4] at H
        have c4b0 : decide (x8_1 < (l2.length : Int)) = true := decide_eq_true c4
        clear c4
        by_cases c5 : 0 ≤ x8_1
        · rw [if_pos c5] at H
          have c5b0 : decide (0 ≤ x8_1) = true := decide_eq_true c5
          clear c5
          by_cases c6 : x8_1 < (l1.length : Int)
          · rw [if_pos c6] at H
            have c6b0 : decide (x8_1 < (l1.length : Int)) = true := decide_eq_true c6
            clear c6
            by_cases c7 : 0 ≤ (rd l2 x8_1)
            · rw [if_pos c7] at H
              have c7b0 : decide (0 ≤ (rd l2 x8_1)) = true := decide_eq_true c7
              clear c7
              by_cases c8 : (rd l2 x8_1) < ((rd_L1 l1 x8_1).length : Int)
              · rw [if_pos c8] at H
                have c8b0 : decide ((rd l2 x8_1) < ((rd_L1 l1 x8_1).length : Int)) = true := decide_eq_true c8
                clear c8
                by_cases c9 : a0 = 3
                · rw [if_pos c9] at H
                  have c9b0 : (a0 == 3) = true := beq_iff_eq.mpr c9
                  have c9b1 : (a0 != 3) = false := bne_eq_false_iff_eq.mpr c9
                  clear c9
                  by_cases c10 : (rd (rd_L1 l1 x8_1) (rd l2 x8_1)) > x7_1
                  · rw [if_pos c10] at H
                    have c10b0 : decide (x7_1 < (rd (rd_L1 l1 x8_1) (rd l2 x8_1))) = true := decide_eq_true c10
                    clear c10
                    have H' := Aside0.mk H
                    clear H
                    have p399 : 0 ≤ (x8_1 : Int) := of_decide_eq_true (by first | (with_reducible assumption) | assumption)
                    have q399 : x8_1 < (l1.length : Int) := of_decide_eq_true (by first | (with_reducible assumption) | assumption)
                    obtain ⟨ad399, A399_0, c399_0, e399, hx399_0, hl399_0, hi399_0⟩ := at_L1 HR1.out x8_1 p399 q399
                    cases e399
                    have HR399_0 := Aside0.mk hi399_0
                    have HC399_0 := Aside0.mk hl399_0
                    clear hi399_0 hl399_0
                    replace p399 := eq_true p399
                    replace q399 := eq_true q399
                    have p400 : 0 ≤ (x8_1 : Int) := of_decide_eq_true (by first | (with_reducible assumption) | assumption)
                    have q400 : x8_1 < (l2.length : Int) := of_decide_eq_true (by first | (with_reducible assumption) | assumption)
                    obtain ⟨ad400, e400, hx400_0⟩ := Kd.at_int HR2.out x8_1 p400 q400
                    cases e400
                    replace p400 := eq_true p400
                    replace q400 := eq_true q400
                    have p401 : 0 ≤ ((rd l2 x8_1) : Int) := of_decide_eq_true (by first | (with_reducible assumption) | assumption)
                    have q401 : (rd l2 x8_1) < ((rd_L1 l1 x8_1).length : Int) := of_decide_eq_true (by first | (with_reducible assumption) | assumption)
                    obtain ⟨ad401, e401, hx401_0⟩ := Kd.at_int HR399_0.out (rd l2 x8_1) p401 q401
                    cases e401
                    replace p401 := eq_true p401
                    replace q401 := eq_true q401
                    go_wp2
                    repeat (go_quiet (fail); try go_wp2)
                    go_roundg k1
                    case measure => have := HK1.out; omega
                    case rel => exact ⟨(rd (rd_L1 l1 x8_1) (rd l2 x8_1)), (wrap64 (x8_1 + 1)), (by first | rfl | (simp; done) | (simp [*]; done)), (by first | rfl | (simp; done) | (simp [*]; done)), H', ⟨by have := HK1.out; omega⟩, by repeat (first | exact Drawn0.refl _ | apply Drawn0.step)⟩
                  · rw [if_neg c10] at H
                    have c10b0 : decide (x7_1 < (rd (rd_L1 l1 x8_1) (rd l2 x8_1))) = false := decide_eq_false c10
                    clear c10
                    have H' := Aside0.mk H
                    clear H
                    have p399 : 0 ≤ (x8_1 : Int) := of_decide_eq_true (by first | (with_reducible assumption) | assumption)
                    have q399 : x8_1 < (l1.length : Int) := of_decide_eq_true (by first | (with_reducible assumption) | assumption)
                    obtain ⟨ad399, A399_0, c399_0, e399, hx399_0, hl399_0, hi399_0⟩ := at_L1 HR1.out x8_1 p399 q399
                    cases e399
                    have HR399_0 := Aside0.mk hi399_0
                    have HC399_0 := Aside0.mk hl399_0
                    clear hi399_0 hl399_0
                    replace p399 := eq_true p399
                    replace q399 := eq_true q399
                    have p400 : 0 ≤ (x8_1 : Int) := of_decide_eq_true (by first | (with_reducible assumption) | assumption)
                    have q400 : x8_1 < (l2.length : Int) := of_decide_eq_true (by first | (with_reducible assumption) | assumption)
                    obtain ⟨ad400, e400, hx400_0⟩ := Kd.at_int HR2.out x8_1 p400 q400
                    cases e400
                    replace p400 := eq_true p400
                    replace q400 := eq_true q400
                    have p401 : 0 ≤ ((rd l2 x8_1) : Int) := of_decide_eq_true (by first | (with_reducible assumption) | assumption)
                    have q401 : (rd l2 x8_1) < ((rd_L1 l1 x8_1).length : Int) := of_decide_eq_true (by first | (with_reducible assumption) | assumption)
                    obtain ⟨ad401, e401, hx401_0⟩ := Kd.at_int HR399_0.out (rd l2 x8_1) p401 q401
                    cases e401
                    replace p401 := eq_true p401
                    replace q401 := eq_true q401
                    go_wp2
                    repeat (go_quiet (fail); try go_wp2)
                    go_roundg k1
                    case measure => have := HK1.out; omega
                    case rel => exact ⟨(x7_1), (wrap64 (x8_1 + 1)), (by first | rfl | (simp; done) | (simp [*]; done)), (by first | rfl | (simp; done) | (simp [*]; done)), H', ⟨by have := HK1.out; omega⟩, by repeat (first | exact Drawn0.refl _ | apply Drawn0.step)⟩
                · rw [if_neg c9] at H
                  have c9b0 : (a0 == 3) = false := beq_eq_false_iff_ne.mpr c9
                  have c9b1 : (a0 != 3) = true := bne_iff_ne.mpr c9
                  have H' := Aside0.mk H
                  clear H
                  have p399 : 0 ≤ (x8_1 : Int) := of_decide_eq_true (by first | (with_reducible assumption) | assumption)
                  have q399 : x8_1 < (l1.length : Int) := of_decide_eq_true (by first | (with_reducible assumption) | assumption)
                  obtain ⟨ad399, A399_0, c399_0, e399, hx399_0, hl399_0, hi399_0⟩ := at_L1 HR1.out x8_1 p399 q399
                  cases e399
                  have HR399_0 := Aside0.mk hi399_0
                  have HC399_0 := Aside0.mk hl399_0
                  clear hi399_0 hl399_0
                  replace p399 := eq_true p399
                  replace q399 := eq_true q399
                  have p400 : 0 ≤ (x8_1 : Int) := of_decide_eq_true (by first | (with_reducible assumption) | assumption)
                  have q400 : x8_1 < (l2.length : Int) := of_decide_eq_true (by first | (with_reducible assumption) | assumption)
                  obtain ⟨ad400, e400, hx400_0⟩ := Kd.at_int HR2.out x8_1 p400 q400
                  cases e400
                  replace p400 := eq_true p400
                  replace q400 := eq_true q400
                  have p401 : 0 ≤ ((rd l2 x8_1) : Int) := of_decide_eq_true (by first | (with_reducible assumption) | assumption)
                  have q401 : (rd l2 x8_1) < ((rd_L1 l1 x8_1).length : Int) := of_decide_eq_true (by first | (with_reducible assumption) | assumption)
                  obtain ⟨ad401, e401, hx401_0⟩ := Kd.at_int HR399_0.out (rd l2 x8_1) p401 q401
                  cases e401
                  replace p401 := eq_true p401
                  replace q401 := eq_true q401
                  go_wp2
                  repeat (go_quiet (fail); try go_wp2)
                  go_roundg k1
                  case measure => have := HK1.out; omega
                  case rel => exact ⟨(wrap64 (x7_1 + (rd (rd_L1 l1 x8_1) (rd l2 x8_1)))), (wrap64 (x8_1 + 1)), (by first | rfl | (simp; done) | (simp [*]; done)), (by first | rfl | (simp; done) | (simp [*]; done)), H', ⟨by have := HK1.out; omega⟩, by repeat (first | exact Drawn0.refl _ | apply Drawn0.step)⟩
              · rw [if_neg c8] at H
                exact absurd H (by simp)
            · rw [if_neg c7] at H
              exact absurd H (by simp)
          · rw [if_neg c6] at H
            exact absurd H (by simp)
        · rw [if_neg c5] at H
          exact absurd H (by simp)
      · rw [if_neg c4] at H
        have c4b0 : decide (x8_1 < (l2.length : Int)) = false := decide_eq_false c4
        clear c4
        obtain rfl := Option.some.inj H
        go_wp2
        repeat (go_quiet (fail); try go_wp2)
        go_ret
        exact ⟨by first | rfl | (simp; done) | (simp [*]; done), by repeat (first | exact Drawn0.refl _ | apply Drawn0.step)⟩
def antiquarylaw08_CodeTablesAsSpecified.j0 : Nat → Int → List Int → List Int → Int → Int → Bool → Int → List Int → List (List (List Int)) → Option (Bool)
  | 0, _, _, _, _, _, _, _, _, _ => none
  | k + 1, x1, x2, x3, x4, x5, x41, x403000, x403001, x403002 => if x41 = true then ((antiquarylaw08_sanity.f k).bind fun t404 => (some t404)) else ((antiquaryref08_Table.f k x403000 x403001 x403002 x1 x3).bind fun t405 => ((antiquaryref08_Encode.f k x403000 x403001 x403002 x1 x2).bind fun t408 => ((code_Bounds.f x1 x4 x5).bind fun bt411 => ((antiquaryref08_Bounds.f k x1 x4 x5).bind fun bt413 => ((antiquarylaw08_sanity.f k).bind fun t416 => (if t416 = true then ((code_Table.f x403000 x403001 x403002 x1 x3).bind fun t417 => ((antiquaryref08_SameRows.f k t417 t405).bind fun t420 => (if t420 = true then ((code_Sum.f x1 t405 t408).bind fun t421 => ((antiquaryref08_Sum.f k x1 t405 t408).bind fun t422 => (if t421 = t422 then (if bt411.1 = bt413.1 then (some (bt411.2 == bt413.2)) else (some false)) else (some false)))) else (some false)))) else (some false)))))))
def antiquarylaw08_CodeTablesAsSpecified.f (k : Nat) (a0_0 : Int) (l0_1 : List Int) (l0_2 : List (List (List Int))) (a1 : Int) (l2 : List Int) (l3 : List Int) (a4 : Int) (a5 : Int) : Option (Bool) := (antiquarylaw08_right.f k a0_0 l0_1 l0_2 a1 l2 l3).bind fun t403 => (if t403 = true then (if a4 < 0 then (antiquarylaw08_CodeTablesAsSpecified.j0 k a1 l2 l3 a4 a5 true a0_0 l0_1 l0_2) else (if a4 > 134217728 then (antiquarylaw08_CodeTablesAsSpecified.j0 k a1 l2 l3 a4 a5 true a0_0 l0_1 l0_2) else (if a5 < 0 then (antiquarylaw08_CodeTablesAsSpecified.j0 k a1 l2 l3 a4 a5 true a0_0 l0_1 l0_2) else (antiquarylaw08_CodeTablesAsSpecified.j0 k a1 l2 l3 a4 a5 (decide (a5 > 134217728)) a0_0 l0_1 l0_2)))) else (antiquarylaw08_CodeTablesAsSpecified.j0 k a1 l2 l3 a4 a5 true a0_0 l0_1 l0_2))
set_option maxHeartbeats 8000000 in
set_option maxRecDepth 100000 in
theorem antiquarylaw08_CodeTablesAsSpecified.calls (k : Nat) (a0_0 : Int) (A0_1 : Option Addr) (c0_1 : Nat) (l0_1 : List Int) (A0_2 : Option Addr) (c0_2 : Nat) (l0_2 : List (List (List Int))) (a1 : Int) (A2 : Option Addr) (c2 : Nat) (l2 : List Int) (A3 : Option Addr) (c3 : Nat) (l3 : List Int) (a4 : Int) (a5 : Int) (r : Bool) (w : World) (hr0_1 : Kd.C (Kd.int .i64) w A0_1 l0_1.length l0_1) (hc0_1 : l0_1.length ≤ c0_1) (hr0_2 : Kd.C (Kd.slice 22 (Kd.slice 3 (Kd.int .i64))) w A0_2 l0_2.length l0_2) (hc0_2 : l0_2.length ≤ c0_2) (hr2 : Kd.C (Kd.int .i64) w A2 l2.length l2) (hc2 : l2.length ≤ c2) (hr3 : Kd.C (Kd.int .i64) w A3 l3.length l3) (hc3 : l3.length ≤ c3) (h : antiquarylaw08_CodeTablesAsSpecified.f k a0_0 l0_1 l0_2 a1 l2 l3 a4 a5 = some r) (hT : r = true) :
    Calls Try.prog 4 #[.agg #[.int .i64 a0_0, .slice A0_1 l0_1.length c0_1, .slice A0_2 l0_2.length c0_2], .int .i64 a1, .slice A2 l2.length c2, .slice A3 l3.length c3, .int .i64 a4, .int .i64 a5] w fun e w' => e = .returned (.bool r) ∧ Below w.heap.size w w' := by
  have HT := Aside0.mk hT
  clear hT
  have hu25 := Try.underlying25
  have hu44 := Try.underlying44
  have HR0_1 := Aside0.mk hr0_1
  have HC0_1 := Aside0.mk hc0_1
  clear hr0_1 hc0_1
  have HR0_2 := Aside0.mk hr0_2
  have HC0_2 := Aside0.mk hc0_2
  clear hr0_2 hc0_2
  have HR2 := Aside0.mk hr2
  have HC2 := Aside0.mk hc2
  clear hr2 hc2
  have HR3 := Aside0.mk hr3
  have HC3 := Aside0.mk hc3
  clear hr3 hc3
  have HB := Aside0.mk (Below.refl w.heap.size w)
  have H : ((antiquarylaw08_right.f k a0_0 l0_1 l0_2 a1 l2 l3).bind fun t403 => (if t403 = true then (if a4 < 0 then (antiquarylaw08_CodeTablesAsSpecified.j0 k a1 l2 l3 a4 a5 true a0_0 l0_1 l0_2) else (if a4 > 134217728 then (antiquarylaw08_CodeTablesAsSpecified.j0 k a1 l2 l3 a4 a5 true a0_0 l0_1 l0_2) else (if a5 < 0 then (antiquarylaw08_CodeTablesAsSpecified.j0 k a1 l2 l3 a4 a5 true a0_0 l0_1 l0_2) else (antiquarylaw08_CodeTablesAsSpecified.j0 k a1 l2 l3 a4 a5 (decide (a5 > 134217728)) a0_0 l0_1 l0_2)))) else (antiquarylaw08_CodeTablesAsSpecified.j0 k a1 l2 l3 a4 a5 true a0_0 l0_1 l0_2))) = some r := h
  clear h
  replace H := Option.bind_eq_some_iff.mp H
  obtain ⟨t403, A70, H⟩ := H
  replace H : (if t403 = true then (if a4 < 0 then (antiquarylaw08_CodeTablesAsSpecified.j0 k a1 l2 l3 a4 a5 true a0_0 l0_1 l0_2) else (if a4 > 134217728 then (antiquarylaw08_CodeTablesAsSpecified.j0 k a1 l2 l3 a4 a5 true a0_0 l0_1 l0_2) else (if a5 < 0 then (antiquarylaw08_CodeTablesAsSpecified.j0 k a1 l2 l3 a4 a5 true a0_0 l0_1 l0_2) else (antiquarylaw08_CodeTablesAsSpecified.j0 k a1 l2 l3 a4 a5 (decide (a5 > 134217728)) a0_0 l0_1 l0_2)))) else (antiquarylaw08_CodeTablesAsSpecified.j0 k a1 l2 l3 a4 a5 true a0_0 l0_1 l0_2)) = some r := H
  have A7 := Aside0.mk A70
  clear A70
  have HC8 := Aside0.mk H
  clear H
  go_enter Try.func4, Try.ntmps4
  go_upto_region 2 with (first | ((with_reducible refine gate_dst (N := 6) rfl ?_); refine box_event ?hg (N := 6) ?hd (cs := #[.int .i64 a0_0, .slice A0_1 l0_1.length c0_1, .slice A0_2 l0_2.length c0_2]) (t := 25) ?hr ?_; (case hd => rfl); (case hg => rfl); (case hr => first | (go_simp; done) | (go_simp; rfl)); intro gb402 hg w9 hbox hb; have n0_ := Aside0.mk (below_step (by repeat (first | (with_reducible first | exact HB.out | apply below_alloc | apply pw_below_drewN | apply below_drew1) | exact HB.out)) hb); have n1_ := Aside0.mk (hbox); have n2_ := Aside0.mk ((by rw [hg]; exact (below_size (by repeat (first | (with_reducible first | exact HB.out | apply below_alloc | apply pw_below_drewN | apply below_drew1) | exact HB.out))) : w.heap.size ≤ gb402)); have n3_ := Aside0.mk ((by rw [hg]; exact (below_size (by repeat (first | (with_reducible first | exact HB.out | apply below_alloc | apply pw_below_drewN | apply below_drew1) | exact HB.out))) : w.heap.size ≤ gb402)); clear HB; have HB := n0_; have BK402 := n1_; have GW402 := n2_; have GE402 := n3_; clear n0_ n1_ n2_ n3_; clear hb hbox hg; have hcz10_0 : w9.cell? ⟨gb402, 0, none⟩ = some (.int .i64 a0_0) := (blk_cell BK402.out 0).trans rfl; have hcz10_1 : w9.cell? ⟨gb402, 1, none⟩ = some (.slice A0_1 l0_1.length c0_1) := (blk_cell BK402.out 1).trans rfl; have hcz10_2 : w9.cell? ⟨gb402, 2, none⟩ = some (.slice A0_2 l0_2.length c0_2) := (blk_cell BK402.out 2).trans rfl; have hfz10_0 := blk_frozen BK402.out 0; have hfz10_1 := blk_frozen BK402.out 1; have hfz10_2 := blk_frozen BK402.out 2) | ((with_reducible refine gate_callee (f := 14) rfl ?_); refine goesL_ (some 23) rfl rfl Try.func14 (by kernel_rfl) rfl #[.agg #[.int .i64 a0_0, .slice A0_1 l0_1.length c0_1, .slice A0_2 l0_2.length c0_2], .int .i64 a1, .slice A2 l2.length c2, .slice A3 l3.length c3] rfl (by (try simp only [List.map_toArray, List.map_cons, List.map_nil]); first | done | rfl | (simp only [List.length_drop, List.length_take]; rfl)) ?_; (with_reducible refine (antiquarylaw08_right.calls k a0_0 _ _ l0_1 _ _ l0_2 a1 _ _ l2 _ _ l3 t403 _ ?side1 ?side2 ?side3 ?side4 ?side5 ?side6 ?side7 ?side8 A7.out).mono ?_); (case side1 => repeat (first | exact (Kd.C_below HR0_1.out HB.out) | (with_reducible refine Kd.C_alloc ?_ _) | (with_reducible refine Kd.C_drewN ?_ _) | (with_reducible refine Kd.C_drew ?_))); (case side2 => exact HC0_1.out); (case side3 => repeat (first | exact (Kd.C_below HR0_2.out HB.out) | (with_reducible refine Kd.C_alloc ?_ _) | (with_reducible refine Kd.C_drewN ?_ _) | (with_reducible refine Kd.C_drew ?_))); (case side4 => exact HC0_2.out); (case side5 => repeat (first | exact (Kd.C_below HR2.out HB.out) | (with_reducible refine Kd.C_alloc ?_ _) | (with_reducible refine Kd.C_drewN ?_ _) | (with_reducible refine Kd.C_drew ?_))); (case side6 => exact HC2.out); (case side7 => repeat (first | exact (Kd.C_below HR3.out HB.out) | (with_reducible refine Kd.C_alloc ?_ _) | (with_reducible refine Kd.C_drewN ?_ _) | (with_reducible refine Kd.C_drew ?_))); (case side8 => exact HC3.out); rintro e w11 ⟨rfl, hb⟩; refine ⟨_, rfl, ?_⟩; have n0_ := Aside0.mk (blk_below (g := gb402) (o := .cells #[.int .i64 a0_0, .slice A0_1 l0_1.length c0_1, .slice A0_2 l0_2.length c0_2] 25 (0, 0)) (by (with_reducible repeat (first | refine blk_drewN ?_ _ | refine blk_drew ?_ | refine blk_alloc ?_ _)); exact BK402.out) hb); have n1_ := Aside0.mk (below_step (by repeat (first | (with_reducible first | exact HB.out | apply below_alloc | apply pw_below_drewN | apply below_drew1 | refine below_set ?_ GE402.out) | exact HB.out)) hb); clear BK402; clear HB; have BK402 := n0_; have HB := n1_; clear n0_ n1_; (try clear hb); (try clear hb2); (try clear hk); (try clear hi)))
  (try simp only [Act.put, List.setIfInBounds_toArray, List.set_cons_zero, List.set_cons_succ])
  go_cut [41] (fun v41 wc => ∃ (kq : Nat) (x41_7 : Bool), v41 = .bool x41_7 ∧ Aside0 (antiquarylaw08_CodeTablesAsSpecified.j0 kq a1 l2 l3 a4 a5 x41_7 a0_0 l0_1 l0_2 = some r) ∧ Aside0 (kq ≤ k) ∧ Aside0 (wc.heap[gb402]? = some (.cells #[.int .i64 a0_0, (.slice A0_1 l0_1.length c0_1), (.slice A0_2 l0_2.length c0_2)] 25 (0, 0))) ∧ Aside0 (Below w.heap.size w wc))
  case first =>
    have H := HC8.out
    clear HC8
    by_cases c12 : t403 = true
    · subst c12
      have H1 : (if a4 < 0 then (antiquarylaw08_CodeTablesAsSpecified.j0 k a1 l2 l3 a4 a5 true a0_0 l0_1 l0_2) else (if a4 > 134217728 then (antiquarylaw08_CodeTablesAsSpecified.j0 k a1 l2 l3 a4 a5 true a0_0 l0_1 l0_2) else (if a5 < 0 then (antiquarylaw08_CodeTablesAsSpecified.j0 k a1 l2 l3 a4 a5 true a0_0 l0_1 l0_2) else (antiquarylaw08_CodeTablesAsSpecified.j0 k a1 l2 l3 a4 a5 (decide (a5 > 134217728)) a0_0 l0_1 l0_2)))) = some r := by rw [if_pos rfl] at H; exact H
      clear H
      have H := H1
      clear H1
      by_cases c13 : a4 < 0
      · rw [if_pos c13] at H
        have c13b0 : decide (a4 < 0) = true := decide_eq_true c13
        clear c13
        (first | rw [c13b0] | (simp only [i64_w, i32_w]; rw [c13b0]) | skip)
        have H' := Aside0.mk H
        clear H
        go_wp2
        go_meet
        case rel => exact ⟨_, (true), (by first | rfl | (simp; done) | (simp [*]; done)), H', ⟨by first | omega | exact Nat.le_refl _⟩, ⟨by (with_reducible repeat (first | refine blk_drewN ?_ _ | refine blk_drew ?_ | refine blk_alloc ?_ _)); exact BK402.out⟩, ⟨by repeat (first | (with_reducible first | exact HB.out | apply below_alloc | apply pw_below_drewN | apply below_drew1 | refine below_set ?_ GE402.out) | exact HB.out)⟩⟩
      · rw [if_neg c13] at H
        have c13b0 : decide (a4 < 0) = false := decide_eq_false c13
        clear c13
        (first | rw [c13b0] | (simp only [i64_w, i32_w]; rw [c13b0]) | skip)
        by_cases c14 : a4 > 134217728
        · rw [if_pos c14] at H
          have c14b0 : decide (134217728 < a4) = true := decide_eq_true c14
          clear c14
          have H' := Aside0.mk H
          clear H
          go_wp2
          go_meet
          case rel => exact ⟨_, (true), (by first | rfl | (simp; done) | (simp [*]; done)), H', ⟨by first | omega | exact Nat.le_refl _⟩, ⟨by (with_reducible repeat (first | refine blk_drewN ?_ _ | refine blk_drew ?_ | refine blk_alloc ?_ _)); exact BK402.out⟩, ⟨by repeat (first | (with_reducible first | exact HB.out | apply below_alloc | apply pw_below_drewN | apply below_drew1 | refine below_set ?_ GE402.out) | exact HB.out)⟩⟩
        · rw [if_neg c14] at H
          have c14b0 : decide (134217728 < a4) = false := decide_eq_false c14
          clear c14
          by_cases c15 : a5 < 0
          · rw [if_pos c15] at H
            have c15b0 : decide (a5 < 0) = true := decide_eq_true c15
            clear c15
            have H' := Aside0.mk H
            clear H
            go_wp2
            go_meet
            case rel => exact ⟨_, (true), (by first | rfl | (simp; done) | (simp [*]; done)), H', ⟨by first | omega | exact Nat.le_refl _⟩, ⟨by (with_reducible repeat (first | refine blk_drewN ?_ _ | refine blk_drew ?_ | refine blk_alloc ?_ _)); exact BK402.out⟩, ⟨by repeat (first | (with_reducible first | exact HB.out | apply below_alloc | apply pw_below_drewN | apply below_drew1 | refine below_set ?_ GE402.out) | exact HB.out)⟩⟩
          · rw [if_neg c15] at H
            have c15b0 : decide (a5 < 0) = false := decide_eq_false c15
            clear c15
            have H' := Aside0.mk H
            clear H
            go_wp2
            go_meet
            case rel => exact ⟨_, (decide (a5 > 134217728)), (by first | rfl | (simp; done) | (simp [*]; done)), H', ⟨by first | omega | exact Nat.le_refl _⟩, ⟨by (with_reducible repeat (first | refine blk_drewN ?_ _ | refine blk_drew ?_ | refine blk_alloc ?_ _)); exact BK402.out⟩, ⟨by repeat (first | (with_reducible first | exact HB.out | apply below_alloc | apply pw_below_drewN | apply below_drew1 | refine below_set ?_ GE402.out) | exact HB.out)⟩⟩
    · replace c12 := Bool.eq_false_iff.mpr c12
      subst c12
      have H1 : (antiquarylaw08_CodeTablesAsSpecified.j0 k a1 l2 l3 a4 a5 true a0_0 l0_1 l0_2) = some r := by rw [if_neg (show ¬ (false = true) by decide)] at H; exact H
      clear H
      have H := H1
      clear H1
      have H' := Aside0.mk H
      clear H
      go_wp2
      go_meet
      case rel => exact ⟨_, (true), (by first | rfl | (simp; done) | (simp [*]; done)), H', ⟨by first | omega | exact Nat.le_refl _⟩, ⟨by (with_reducible repeat (first | refine blk_drewN ?_ _ | refine blk_drew ?_ | refine blk_alloc ?_ _)); exact BK402.out⟩, ⟨by repeat (first | (with_reducible first | exact HB.out | apply below_alloc | apply pw_below_drewN | apply below_drew1 | refine below_set ?_ GE402.out) | exact HB.out)⟩⟩
  case rest =>
    clear HC8
    try clear c1
    try clear c2
    try clear p2
    try clear c3
    try clear c4
    try clear c12
    try clear c13
    try clear c13b0
    try clear c14
    try clear c14b0
    try clear c15
    try clear c15b0
    try clear hcz10_0
    try clear hcz10_1
    try clear hcz10_2
    try clear hfz10_0
    try clear hfz10_1
    try clear hfz10_2
    obtain ⟨kq, x41_7, rfl, HA, HJ7, BK402, HB⟩ := hcut
    cases kq with
    | zero => exact absurd HA.out (by simp [antiquarylaw08_CodeTablesAsSpecified.j0])
    | succ kj7 =>
      have H := HA.out
      clear HA
      simp only [antiquarylaw08_CodeTablesAsSpecified.j0] at H
      by_cases c16 : x41_7 = true
      · subst c16
        have H1 : ((antiquarylaw08_sanity.f kj7).bind fun t404 => (some t404)) = some r := by rw [if_pos rfl] at H; exact H
        clear H
        have H := H1
        clear H1
        replace H := Option.bind_eq_some_iff.mp H
        obtain ⟨t404, A170, H⟩ := H
        replace H : (some t404) = some r := H
        have A17 := Aside0.mk A170
        clear A170
        obtain rfl := Option.some.inj H
        go_wp2_with (first | ((with_reducible refine gate_callee (f := 11) rfl ?_); refine goesL_ (some 42) rfl rfl Try.func11 (by kernel_rfl) rfl #[] rfl (by (try simp only [List.map_toArray, List.map_cons, List.map_nil]); first | done | rfl | (simp only [List.length_drop, List.length_take]; rfl)) ?_; (with_reducible refine (antiquarylaw08_sanity.calls kj7  t404 _ A17.out (by first | rfl | exact HT.out)).mono ?_); rintro e w18 ⟨rfl, hb⟩; refine ⟨_, rfl, ?_⟩; have n0_ := Aside0.mk (blk_below (g := gb402) (o := .cells #[.int .i64 a0_0, .slice A0_1 l0_1.length c0_1, .slice A0_2 l0_2.length c0_2] 25 (0, 0)) (by (with_reducible repeat (first | refine blk_drewN ?_ _ | refine blk_drew ?_ | refine blk_alloc ?_ _)); exact BK402.out) hb); have n1_ := Aside0.mk (below_step (by repeat (first | (with_reducible first | exact HB.out | apply below_alloc | apply pw_below_drewN | apply below_drew1 | refine below_set ?_ GE402.out) | exact HB.out)) hb); clear BK402; clear HB; have BK402 := n0_; have HB := n1_; clear n0_ n1_; (try clear hb); (try clear hb2); (try clear hk); (try clear hi)))
        go_ret
        exact ⟨by first | rfl | (simp [errW_none, errW_some] <;> rfl) | (simp [*, errW_none, errW_some] <;> rfl), by repeat (first | (with_reducible first | exact HB.out | apply below_alloc | apply pw_below_drewN | apply below_drew1 | refine below_set ?_ GE402.out) | exact HB.out)⟩
      · replace c16 := Bool.eq_false_iff.mpr c16
        subst c16
        have H1 : ((antiquaryref08_Table.f kj7 a0_0 l0_1 l0_2 a1 l3).bind fun t405 => ((antiquaryref08_Encode.f kj7 a0_0 l0_1 l0_2 a1 l2).bind fun t408 => ((code_Bounds.f a1 a4 a5).bind fun bt411 => ((antiquaryref08_Bounds.f kj7 a1 a4 a5).bind fun bt413 => ((antiquarylaw08_sanity.f kj7).bind fun t416 => (if t416 = true then ((code_Table.f a0_0 l0_1 l0_2 a1 l3).bind fun t417 => ((antiquaryref08_SameRows.f kj7 t417 t405).bind fun t420 => (if t420 = true then ((code_Sum.f a1 t405 t408).bind fun t421 => ((antiquaryref08_Sum.f kj7 a1 t405 t408).bind fun t422 => (if t421 = t422 then (if bt411.1 = bt413.1 then (some (bt411.2 == bt413.2)) else (some false)) else (some false)))) else (some false)))) else (some false))))))) = some r := by rw [if_neg (show ¬ (false = true) by decide)] at H; exact H
        clear H
        have H := H1
        clear H1
        replace H := Option.bind_eq_some_iff.mp H
        obtain ⟨t405, A190, H⟩ := H
        replace H : ((antiquaryref08_Encode.f kj7 a0_0 l0_1 l0_2 a1 l2).bind fun t408 => ((code_Bounds.f a1 a4 a5).bind fun bt411 => ((antiquaryref08_Bounds.f kj7 a1 a4 a5).bind fun bt413 => ((antiquarylaw08_sanity.f kj7).bind fun t416 => (if t416 = true then ((code_Table.f a0_0 l0_1 l0_2 a1 l3).bind fun t417 => ((antiquaryref08_SameRows.f kj7 t417 t405).bind fun t420 => (if t420 = true then ((code_Sum.f a1 t405 t408).bind fun t421 => ((antiquaryref08_Sum.f kj7 a1 t405 t408).bind fun t422 => (if t421 = t422 then (if bt411.1 = bt413.1 then (some (bt411.2 == bt413.2)) else (some false)) else (some false)))) else (some false)))) else (some false)))))) = some r := H
        have A19 := Aside0.mk A190
        clear A190
        replace H := Option.bind_eq_some_iff.mp H
        obtain ⟨t408, A200, H⟩ := H
        replace H : ((code_Bounds.f a1 a4 a5).bind fun bt411 => ((antiquaryref08_Bounds.f kj7 a1 a4 a5).bind fun bt413 => ((antiquarylaw08_sanity.f kj7).bind fun t416 => (if t416 = true then ((code_Table.f a0_0 l0_1 l0_2 a1 l3).bind fun t417 => ((antiquaryref08_SameRows.f kj7 t417 t405).bind fun t420 => (if t420 = true then ((code_Sum.f a1 t405 t408).bind fun t421 => ((antiquaryref08_Sum.f kj7 a1 t405 t408).bind fun t422 => (if t421 = t422 then (if bt411.1 = bt413.1 then (some (bt411.2 == bt413.2)) else (some false)) else (some false)))) else (some false)))) else (some false))))) = some r := H
        have A20 := Aside0.mk A200
        clear A200
        replace H := Option.bind_eq_some_iff.mp H
        obtain ⟨⟨t411, t412⟩, A210, H⟩ := H
        replace H : ((antiquaryref08_Bounds.f kj7 a1 a4 a5).bind fun bt413 => ((antiquarylaw08_sanity.f kj7).bind fun t416 => (if t416 = true then ((code_Table.f a0_0 l0_1 l0_2 a1 l3).bind fun t417 => ((antiquaryref08_SameRows.f kj7 t417 t405).bind fun t420 => (if t420 = true then ((code_Sum.f a1 t405 t408).bind fun t421 => ((antiquaryref08_Sum.f kj7 a1 t405 t408).bind fun t422 => (if t421 = t422 then (if t411 = bt413.1 then (some (t412 == bt413.2)) else (some false)) else (some false)))) else (some false)))) else (some false)))) = some r := H
        have A21 := Aside0.mk A210
        clear A210
        replace H := Option.bind_eq_some_iff.mp H
        obtain ⟨⟨t413, t414⟩, A220, H⟩ := H
        replace H : ((antiquarylaw08_sanity.f kj7).bind fun t416 => (if t416 = true then ((code_Table.f a0_0 l0_1 l0_2 a1 l3).bind fun t417 => ((antiquaryref08_SameRows.f kj7 t417 t405).bind fun t420 => (if t420 = true then ((code_Sum.f a1 t405 t408).bind fun t421 => ((antiquaryref08_Sum.f kj7 a1 t405 t408).bind fun t422 => (if t421 = t422 then (if t411 = t413 then (some (t412 == t414)) else (some false)) else (some false)))) else (some false)))) else (some false))) = some r := H
        have A22 := Aside0.mk A220
        clear A220
        replace H := Option.bind_eq_some_iff.mp H
        obtain ⟨t416, A230, H⟩ := H
        replace H : (if t416 = true then ((code_Table.f a0_0 l0_1 l0_2 a1 l3).bind fun t417 => ((antiquaryref08_SameRows.f kj7 t417 t405).bind fun t420 => (if t420 = true then ((code_Sum.f a1 t405 t408).bind fun t421 => ((antiquaryref08_Sum.f kj7 a1 t405 t408).bind fun t422 => (if t421 = t422 then (if t411 = t413 then (some (t412 == t414)) else (some false)) else (some false)))) else (some false)))) else (some false)) = some r := H
        have A23 := Aside0.mk A230
        clear A230
        by_cases c24 : t416 = true
        · subst c24
          have H1 : ((code_Table.f a0_0 l0_1 l0_2 a1 l3).bind fun t417 => ((antiquaryref08_SameRows.f kj7 t417 t405).bind fun t420 => (if t420 = true then ((code_Sum.f a1 t405 t408).bind fun t421 => ((antiquaryref08_Sum.f kj7 a1 t405 t408).bind fun t422 => (if t421 = t422 then (if t411 = t413 then (some (t412 == t414)) else (some false)) else (some false)))) else (some false)))) = some r := by rw [if_pos rfl] at H; exact H
          clear H
          have H := H1
          clear H1
          replace H := Option.bind_eq_some_iff.mp H
          obtain ⟨t417, A250, H⟩ := H
          replace H : ((antiquaryref08_SameRows.f kj7 t417 t405).bind fun t420 => (if t420 = true then ((code_Sum.f a1 t405 t408).bind fun t421 => ((antiquaryref08_Sum.f kj7 a1 t405 t408).bind fun t422 => (if t421 = t422 then (if t411 = t413 then (some (t412 == t414)) else (some false)) else (some false)))) else (some false))) = some r := H
          have A25 := Aside0.mk A250
          clear A250
          replace H := Option.bind_eq_some_iff.mp H
          obtain ⟨t420, A260, H⟩ := H
          replace H : (if t420 = true then ((code_Sum.f a1 t405 t408).bind fun t421 => ((antiquaryref08_Sum.f kj7 a1 t405 t408).bind fun t422 => (if t421 = t422 then (if t411 = t413 then (some (t412 == t414)) else (some false)) else (some false)))) else (some false)) = some r := H
          have A26 := Aside0.mk A260
          clear A260
          by_cases c27 : t420 = true
          · subst c27
            have H1 : ((code_Sum.f a1 t405 t408).bind fun t421 => ((antiquaryref08_Sum.f kj7 a1 t405 t408).bind fun t422 => (if t421 = t422 then (if t411 = t413 then (some (t412 == t414)) else (some false)) else (some false)))) = some r := by rw [if_pos rfl] at H; exact H
            clear H
            have H := H1
            clear H1
            replace H := Option.bind_eq_some_iff.mp H
            obtain ⟨t421, A280, H⟩ := H
            replace H : ((antiquaryref08_Sum.f kj7 a1 t405 t408).bind fun t422 => (if t421 = t422 then (if t411 = t413 then (some (t412 == t414)) else (some false)) else (some false))) = some r := H
            have A28 := Aside0.mk A280
            clear A280
            replace H := Option.bind_eq_some_iff.mp H
            obtain ⟨t422, A290, H⟩ := H
            replace H : (if t421 = t422 then (if t411 = t413 then (some (t412 == t414)) else (some false)) else (some false)) = some r := H
            have A29 := Aside0.mk A290
            clear A290
            by_cases c30 : t421 = t422
            · rw [if_pos c30] at H
              have c30b0 : (t421 == t422) = true := beq_iff_eq.mpr c30
              have c30b1 : (t421 != t422) = false := bne_eq_false_iff_eq.mpr c30
              clear c30
              by_cases c31 : t411 = t413
              · rw [if_pos c31] at H
                have c31b0 : (t411 == t413) = true := beq_iff_eq.mpr c31
                have c31b1 : (t411 != t413) = false := bne_eq_false_iff_eq.mpr c31
                clear c31
                obtain rfl := Option.some.inj H
                have hcz32_0 : wc.cell? ⟨gb402, 0, none⟩ = some (.int .i64 a0_0) := (blk_cell BK402.out 0).trans rfl
                have hcz32_1 : wc.cell? ⟨gb402, 1, none⟩ = some (.slice A0_1 l0_1.length c0_1) := (blk_cell BK402.out 1).trans rfl
                have hcz32_2 : wc.cell? ⟨gb402, 2, none⟩ = some (.slice A0_2 l0_2.length c0_2) := (blk_cell BK402.out 2).trans rfl
                have hfz32_0 := blk_frozen BK402.out 0
                have hfz32_1 := blk_frozen BK402.out 1
                have hfz32_2 := blk_frozen BK402.out 2
                go_wp2_with (first | ((with_reducible refine gate_callee (f := 22) rfl ?_); refine goesL_ (some 46) rfl rfl Try.func22 (by kernel_rfl) rfl #[.agg #[.int .i64 a0_0, .slice A0_1 l0_1.length c0_1, .slice A0_2 l0_2.length c0_2], .int .i64 a1, .slice A3 l3.length c3] rfl (by (try simp only [List.map_toArray, List.map_cons, List.map_nil]); first | done | rfl | (simp only [List.length_drop, List.length_take]; rfl)) ?_; (with_reducible refine (antiquaryref08_Table.calls kj7 a0_0 _ _ l0_1 _ _ l0_2 a1 _ _ l3 t405 _ ?side1 ?side2 ?side3 ?side4 ?side5 ?side6 A19.out).mono ?_); (case side1 => repeat (first | exact (Kd.C_below HR0_1.out HB.out) | (with_reducible refine Kd.C_alloc ?_ _) | (with_reducible refine Kd.C_drewN ?_ _) | (with_reducible refine Kd.C_drew ?_))); (case side2 => exact HC0_1.out); (case side3 => repeat (first | exact (Kd.C_below HR0_2.out HB.out) | (with_reducible refine Kd.C_alloc ?_ _) | (with_reducible refine Kd.C_drewN ?_ _) | (with_reducible refine Kd.C_drew ?_))); (case side4 => exact HC0_2.out); (case side5 => repeat (first | exact (Kd.C_below HR3.out HB.out) | (with_reducible refine Kd.C_alloc ?_ _) | (with_reducible refine Kd.C_drewN ?_ _) | (with_reducible refine Kd.C_drew ?_))); (case side6 => exact HC3.out); rintro e w33 ⟨v406, rfl, ho0, hb⟩; refine ⟨_, rfl, ?_⟩; have n0_ := Aside0.mk (Kd.S_lower ho0 (below_size (by repeat (first | (with_reducible first | exact HB.out | apply below_alloc | apply pw_below_drewN | apply below_drew1 | refine below_set ?_ GE402.out) | exact HB.out)))); have n1_ := Aside0.mk (blk_below (g := gb402) (o := .cells #[.int .i64 a0_0, .slice A0_1 l0_1.length c0_1, .slice A0_2 l0_2.length c0_2] 25 (0, 0)) (by (with_reducible repeat (first | refine blk_drewN ?_ _ | refine blk_drew ?_ | refine blk_alloc ?_ _)); exact BK402.out) hb); have n2_ := Aside0.mk (below_step (by repeat (first | (with_reducible first | exact HB.out | apply below_alloc | apply pw_below_drewN | apply below_drew1 | refine below_set ?_ GE402.out) | exact HB.out)) hb); clear BK402; clear HB; have HO407 := n0_; have BK402 := n1_; have HB := n2_; clear n0_ n1_ n2_; (try clear hb); (try clear hb2); (try clear hk); (try clear hi); (try clear ho0); have hcz34_0 : w33.cell? ⟨gb402, 0, none⟩ = some (.int .i64 a0_0) := (blk_cell BK402.out 0).trans rfl; have hcz34_1 : w33.cell? ⟨gb402, 1, none⟩ = some (.slice A0_1 l0_1.length c0_1) := (blk_cell BK402.out 1).trans rfl; have hcz34_2 : w33.cell? ⟨gb402, 2, none⟩ = some (.slice A0_2 l0_2.length c0_2) := (blk_cell BK402.out 2).trans rfl; have hfz34_0 := blk_frozen BK402.out 0; have hfz34_1 := blk_frozen BK402.out 1; have hfz34_2 := blk_frozen BK402.out 2) | ((with_reducible refine gate_callee (f := 19) rfl ?_); refine goesL_ (some 50) rfl rfl Try.func19 (by kernel_rfl) rfl #[.agg #[.int .i64 a0_0, .slice A0_1 l0_1.length c0_1, .slice A0_2 l0_2.length c0_2], .int .i64 a1, .slice A2 l2.length c2] rfl (by (try simp only [List.map_toArray, List.map_cons, List.map_nil]); first | done | rfl | (simp only [List.length_drop, List.length_take]; rfl)) ?_; (with_reducible refine (antiquaryref08_Encode.calls kj7 a0_0 _ _ l0_1 _ _ l0_2 a1 _ _ l2 t408 _ ?side1 ?side2 ?side3 ?side4 ?side5 ?side6 A20.out).mono ?_); (case side1 => repeat (first | exact (Kd.C_below HR0_1.out HB.out) | (with_reducible refine Kd.C_alloc ?_ _) | (with_reducible refine Kd.C_drewN ?_ _) | (with_reducible refine Kd.C_drew ?_))); (case side2 => exact HC0_1.out); (case side3 => repeat (first | exact (Kd.C_below HR0_2.out HB.out) | (with_reducible refine Kd.C_alloc ?_ _) | (with_reducible refine Kd.C_drewN ?_ _) | (with_reducible refine Kd.C_drew ?_))); (case side4 => exact HC0_2.out); (case side5 => repeat (first | exact (Kd.C_below HR2.out HB.out) | (with_reducible refine Kd.C_alloc ?_ _) | (with_reducible refine Kd.C_drewN ?_ _) | (with_reducible refine Kd.C_drew ?_))); (case side6 => exact HC2.out); rintro e w35 ⟨v409, rfl, ho0, hb⟩; refine ⟨_, rfl, ?_⟩; have n0_ := Aside0.mk (Kd.S_elder' (by (with_reducible repeat (first | apply Kd.S_alloc | apply Kd.S_drewN | apply Kd.S_drew)); exact HO407.out) (Kd.R_base ho0) hb); have n1_ := Aside0.mk (Kd.R_lower ho0 (below_size (by repeat (first | (with_reducible first | exact HB.out | apply below_alloc | apply pw_below_drewN | apply below_drew1 | refine below_set ?_ GE402.out) | exact HB.out)))); have n2_ := Aside0.mk (blk_below (g := gb402) (o := .cells #[.int .i64 a0_0, .slice A0_1 l0_1.length c0_1, .slice A0_2 l0_2.length c0_2] 25 (0, 0)) (by (with_reducible repeat (first | refine blk_drewN ?_ _ | refine blk_drew ?_ | refine blk_alloc ?_ _)); exact BK402.out) hb); have n3_ := Aside0.mk (below_step (by repeat (first | (with_reducible first | exact HB.out | apply below_alloc | apply pw_below_drewN | apply below_drew1 | refine below_set ?_ GE402.out) | exact HB.out)) hb); clear HO407; clear BK402; clear HB; have HO407 := n0_; have HO410 := n1_; have BK402 := n2_; have HB := n3_; clear n0_ n1_ n2_ n3_; (try clear hb); (try clear hb2); (try clear hk); (try clear hi); (try clear ho0)) | ((with_reducible refine gate_callee (f := 23) rfl ?_); refine goesL_ (some 55) rfl rfl Try.func23 (by kernel_rfl) rfl #[.int .i64 a1, .int .i64 a4, .int .i64 a5] rfl (by (try simp only [List.map_toArray, List.map_cons, List.map_nil]); first | done | rfl | (simp only [List.length_drop, List.length_take]; rfl)) ?_; (with_reducible refine (code_Bounds.calls a1 a4 a5 t411 t412 _ A21.out).mono ?_); rintro e w36 ⟨rfl, hb⟩; refine ⟨_, rfl, ?_⟩; have n0_ := Aside0.mk (Kd.S_below (by (with_reducible repeat (first | apply Kd.S_alloc | apply Kd.S_drewN | apply Kd.S_drew)); exact HO407.out) hb); have n1_ := Aside0.mk (Kd.R_below (by (with_reducible repeat (first | apply Kd.R_alloc | apply Kd.R_drewN | apply Kd.R_drew)); exact HO410.out) hb); have n2_ := Aside0.mk (blk_below (g := gb402) (o := .cells #[.int .i64 a0_0, .slice A0_1 l0_1.length c0_1, .slice A0_2 l0_2.length c0_2] 25 (0, 0)) (by (with_reducible repeat (first | refine blk_drewN ?_ _ | refine blk_drew ?_ | refine blk_alloc ?_ _)); exact BK402.out) hb); have n3_ := Aside0.mk (below_step (by repeat (first | (with_reducible first | exact HB.out | apply below_alloc | apply pw_below_drewN | apply below_drew1 | refine below_set ?_ GE402.out) | exact HB.out)) hb); clear HO407; clear HO410; clear BK402; clear HB; have HO407 := n0_; have HO410 := n1_; have BK402 := n2_; have HB := n3_; clear n0_ n1_ n2_ n3_; (try clear hb); (try clear hb2); (try clear hk); (try clear hi)) | ((with_reducible refine gate_callee (f := 24) rfl ?_); refine goesL_ (some 61) rfl rfl Try.func24 (by kernel_rfl) rfl #[.int .i64 a1, .int .i64 a4, .int .i64 a5] rfl (by (try simp only [List.map_toArray, List.map_cons, List.map_nil]); first | done | rfl | (simp only [List.length_drop, List.length_take]; rfl)) ?_; (with_reducible refine (antiquaryref08_Bounds.calls kj7 a1 a4 a5 t413 t414 _ A22.out).mono ?_); rintro e w37 ⟨rfl, hb⟩; refine ⟨_, rfl, ?_⟩; have n0_ := Aside0.mk (Kd.S_below (by (with_reducible repeat (first | apply Kd.S_alloc | apply Kd.S_drewN | apply Kd.S_drew)); exact HO407.out) hb); have n1_ := Aside0.mk (Kd.R_below (by (with_reducible repeat (first | apply Kd.R_alloc | apply Kd.R_drewN | apply Kd.R_drew)); exact HO410.out) hb); have n2_ := Aside0.mk (blk_below (g := gb402) (o := .cells #[.int .i64 a0_0, .slice A0_1 l0_1.length c0_1, .slice A0_2 l0_2.length c0_2] 25 (0, 0)) (by (with_reducible repeat (first | refine blk_drewN ?_ _ | refine blk_drew ?_ | refine blk_alloc ?_ _)); exact BK402.out) hb); have n3_ := Aside0.mk (below_step (by repeat (first | (with_reducible first | exact HB.out | apply below_alloc | apply pw_below_drewN | apply below_drew1 | refine below_set ?_ GE402.out) | exact HB.out)) hb); clear HO407; clear HO410; clear BK402; clear HB; have HO407 := n0_; have HO410 := n1_; have BK402 := n2_; have HB := n3_; clear n0_ n1_ n2_ n3_; (try clear hb); (try clear hb2); (try clear hk); (try clear hi)) | ((with_reducible refine gate_dst (N := 18) rfl ?_); refine box_event ?hg (N := 18) ?hd (cs := #[.int .i64 0, .int .i64 0]) (t := 44) ?hr ?_; (case hd => rfl); (case hg => rfl); (case hr => first | (go_simp; done) | (go_simp; rfl)); intro gb415 hg w38 hbox hb; have n0_ := Aside0.mk (Kd.S_below (by (with_reducible repeat (first | apply Kd.S_alloc | apply Kd.S_drewN | apply Kd.S_drew)); exact HO407.out) hb); have n1_ := Aside0.mk (Kd.R_below (by (with_reducible repeat (first | apply Kd.R_alloc | apply Kd.R_drewN | apply Kd.R_drew)); exact HO410.out) hb); have n2_ := Aside0.mk (blk_below (g := gb402) (o := .cells #[.int .i64 a0_0, .slice A0_1 l0_1.length c0_1, .slice A0_2 l0_2.length c0_2] 25 (0, 0)) (by (with_reducible repeat (first | refine blk_drewN ?_ _ | refine blk_drew ?_ | refine blk_alloc ?_ _)); exact BK402.out) hb); have n3_ := Aside0.mk (below_step (by repeat (first | (with_reducible first | exact HB.out | apply below_alloc | apply pw_below_drewN | apply below_drew1 | refine below_set ?_ GE402.out) | exact HB.out)) hb); have n4_ := Aside0.mk (hbox); have n5_ := Aside0.mk ((by rw [hg]; exact (below_size (by repeat (first | (with_reducible first | exact HB.out | apply below_alloc | apply pw_below_drewN | apply below_drew1 | refine below_set ?_ GE402.out) | exact HB.out))) : w.heap.size ≤ gb415)); have n6_ := Aside0.mk ((by rw [hg]; exact (below_size (by repeat (first | (with_reducible first | exact HB.out | apply below_alloc | apply pw_below_drewN | apply below_drew1 | refine below_set ?_ GE402.out) | exact HB.out))) : w.heap.size ≤ gb415)); have n7_ := Aside0.mk ((by rw [hg]; exact Nat.ne_of_lt (blk_lt (g := gb402) (o := .cells #[.int .i64 a0_0, .slice A0_1 l0_1.length c0_1, .slice A0_2 l0_2.length c0_2] 25 (0, 0)) (by (with_reducible repeat (first | refine blk_drewN ?_ _ | refine blk_drew ?_ | refine blk_alloc ?_ _)); exact BK402.out)) : gb402 ≠ gb415)); have n8_ := Aside0.mk ((by rw [hg]; exact Nat.ne_of_gt (blk_lt (g := gb402) (o := .cells #[.int .i64 a0_0, .slice A0_1 l0_1.length c0_1, .slice A0_2 l0_2.length c0_2] 25 (0, 0)) (by (with_reducible repeat (first | refine blk_drewN ?_ _ | refine blk_drew ?_ | refine blk_alloc ?_ _)); exact BK402.out)) : gb415 ≠ gb402)); clear HO407; clear HO410; clear BK402; clear HB; have HO407 := n0_; have HO410 := n1_; have BK402 := n2_; have HB := n3_; have BK415 := n4_; have GW415 := n5_; have GE415 := n6_; have NB402_415 := n7_; have NB415_402 := n8_; clear n0_ n1_ n2_ n3_ n4_ n5_ n6_ n7_ n8_; clear hb hbox hg; have hnb39 := NB415_402.out; have hnc39 := NB402_415.out; have hcz40_0 : w38.cell? ⟨gb415, 0, none⟩ = some (.int .i64 0) := (blk_cell BK415.out 0).trans rfl; have hcz40_1 : w38.cell? ⟨gb415, 1, none⟩ = some (.int .i64 0) := (blk_cell BK415.out 1).trans rfl; have hfz40_0 := blk_frozen BK415.out 0; have hfz40_1 := blk_frozen BK415.out 1) | ((with_reducible refine gate_callee (f := 11) rfl ?_); refine goesL_ (some 62) rfl rfl Try.func11 (by kernel_rfl) rfl #[] rfl (by (try simp only [List.map_toArray, List.map_cons, List.map_nil]); first | done | rfl | (simp only [List.length_drop, List.length_take]; rfl)) ?_; (with_reducible refine (antiquarylaw08_sanity.calls kj7  true _ A23.out (by first | rfl | exact HT.out)).mono ?_); rintro e w41 ⟨rfl, hb⟩; refine ⟨_, rfl, ?_⟩; have n0_ := Aside0.mk (Kd.S_below (by (with_reducible repeat (first | apply Kd.S_alloc | apply Kd.S_drewN | apply Kd.S_drew)); exact (Kd.S_mono (Kd.S_far (p := ⟨gb415, 1, none⟩) (Kd.S_far (p := ⟨gb415, 0, none⟩) (Kd.S_types HO407.out BK415.out (by decide)) (fun _ hk => hk.2) (.int .i64 t413)) (fun _ hk => hk.2) (.int .i64 t414)) (fun _ h_ => h_.1))) hb); have n1_ := Aside0.mk (Kd.R_below (by (with_reducible repeat (first | apply Kd.R_alloc | apply Kd.R_drewN | apply Kd.R_drew)); exact (Kd.R_mono (Kd.R_far (p := ⟨gb415, 1, none⟩) (Kd.R_far (p := ⟨gb415, 0, none⟩) (Kd.R_types HO410.out BK415.out (by decide)) (fun _ hk => hk.2) (.int .i64 t413)) (fun _ hk => hk.2) (.int .i64 t414)) (fun _ h_ => h_.1))) hb); have n2_ := Aside0.mk (blk_below (g := gb402) (o := .cells #[.int .i64 a0_0, .slice A0_1 l0_1.length c0_1, .slice A0_2 l0_2.length c0_2] 25 (0, 0)) (by (with_reducible repeat (first | refine blk_drewN ?_ _ | refine blk_drew ?_ | refine blk_alloc ?_ _)); refine blk_far ?_ NB402_415.out _; (with_reducible repeat (first | refine blk_drewN ?_ _ | refine blk_drew ?_ | refine blk_alloc ?_ _)); refine blk_far ?_ NB402_415.out _; (with_reducible repeat (first | refine blk_drewN ?_ _ | refine blk_drew ?_ | refine blk_alloc ?_ _)); exact BK402.out) hb); have n3_ := Aside0.mk (blk_below (g := gb415) (o := .cells #[.int .i64 t413, .int .i64 t414] 44 (0, 0)) (by (with_reducible repeat (first | refine blk_drewN ?_ _ | refine blk_drew ?_ | refine blk_alloc ?_ _)); refine blk_put (cs := #[.int .i64 t413, .int .i64 0]) ?_ 1 _ rfl; (with_reducible repeat (first | refine blk_drewN ?_ _ | refine blk_drew ?_ | refine blk_alloc ?_ _)); refine blk_put (cs := #[.int .i64 0, .int .i64 0]) ?_ 0 _ rfl; (with_reducible repeat (first | refine blk_drewN ?_ _ | refine blk_drew ?_ | refine blk_alloc ?_ _)); exact BK415.out) hb); have n4_ := Aside0.mk (below_step (by repeat (first | (with_reducible first | exact HB.out | apply below_alloc | apply pw_below_drewN | apply below_drew1 | refine below_set ?_ GE402.out | refine below_set ?_ GE415.out) | exact HB.out)) hb); clear HO407; clear HO410; clear BK402; clear BK415; clear HB; have HO407 := n0_; have HO410 := n1_; have BK402 := n2_; have BK415 := n3_; have HB := n4_; clear n0_ n1_ n2_ n3_ n4_; (try clear hb); (try clear hb2); (try clear hk); (try clear hi); have hcz42_0 : w41.cell? ⟨gb402, 0, none⟩ = some (.int .i64 a0_0) := (blk_cell BK402.out 0).trans rfl; have hcz42_1 : w41.cell? ⟨gb402, 1, none⟩ = some (.slice A0_1 l0_1.length c0_1) := (blk_cell BK402.out 1).trans rfl; have hcz42_2 : w41.cell? ⟨gb402, 2, none⟩ = some (.slice A0_2 l0_2.length c0_2) := (blk_cell BK402.out 2).trans rfl; have hfz42_0 := blk_frozen BK402.out 0; have hfz42_1 := blk_frozen BK402.out 1; have hfz42_2 := blk_frozen BK402.out 2) | (go_at_call 26; (with_reducible refine (code_Table.calls a0_0 _ _ l0_1 _ _ l0_2 a1 _ _ l3 t417 _ ?side1 ?side2 ?side3 ?side4 ?side5 ?side6 A25.out).mono ?_); (case side1 => repeat (first | exact (Kd.C_below HR0_1.out HB.out) | (with_reducible refine Kd.C_alloc ?_ _) | (with_reducible refine Kd.C_drewN ?_ _) | (with_reducible refine Kd.C_drew ?_))); (case side2 => exact HC0_1.out); (case side3 => repeat (first | exact (Kd.C_below HR0_2.out HB.out) | (with_reducible refine Kd.C_alloc ?_ _) | (with_reducible refine Kd.C_drewN ?_ _) | (with_reducible refine Kd.C_drew ?_))); (case side4 => exact HC0_2.out); (case side5 => repeat (first | exact (Kd.C_below HR3.out HB.out) | (with_reducible refine Kd.C_alloc ?_ _) | (with_reducible refine Kd.C_drewN ?_ _) | (with_reducible refine Kd.C_drew ?_))); (case side6 => exact HC3.out); rintro e w43 ⟨v418, rfl, ho0, hb⟩; have n0_ := Aside0.mk (Kd.S_elder' (by (with_reducible repeat (first | apply Kd.S_alloc | apply Kd.S_drewN | apply Kd.S_drew)); exact HO407.out) (Kd.S_base ho0) hb); have n1_ := Aside0.mk (Kd.R_below (by (with_reducible repeat (first | apply Kd.R_alloc | apply Kd.R_drewN | apply Kd.R_drew)); exact HO410.out) hb); have n2_ := Aside0.mk (Kd.S_lower (Kd.S_new' (Kd.S_new' ho0 (Kd.S_lt (by (with_reducible repeat (first | apply Kd.S_alloc | apply Kd.S_drewN | apply Kd.S_drew)); exact HO407.out))) (Kd.R_lt (by (with_reducible repeat (first | apply Kd.R_alloc | apply Kd.R_drewN | apply Kd.R_drew)); exact HO410.out))) (below_size (by repeat (first | (with_reducible first | exact HB.out | apply below_alloc | apply pw_below_drewN | apply below_drew1 | refine below_set ?_ GE402.out | refine below_set ?_ GE415.out) | exact HB.out)))); have n3_ := Aside0.mk (blk_below (g := gb402) (o := .cells #[.int .i64 a0_0, .slice A0_1 l0_1.length c0_1, .slice A0_2 l0_2.length c0_2] 25 (0, 0)) (by (with_reducible repeat (first | refine blk_drewN ?_ _ | refine blk_drew ?_ | refine blk_alloc ?_ _)); exact BK402.out) hb); have n4_ := Aside0.mk (blk_below (g := gb415) (o := .cells #[.int .i64 t413, .int .i64 t414] 44 (0, 0)) (by (with_reducible repeat (first | refine blk_drewN ?_ _ | refine blk_drew ?_ | refine blk_alloc ?_ _)); exact BK415.out) hb); have n5_ := Aside0.mk (below_step (by repeat (first | (with_reducible first | exact HB.out | apply below_alloc | apply pw_below_drewN | apply below_drew1 | refine below_set ?_ GE402.out | refine below_set ?_ GE415.out) | exact HB.out)) hb); clear HO407; clear HO410; clear BK402; clear BK415; clear HB; have HO407 := n0_; have HO410 := n1_; have HO419 := n2_; have BK402 := n3_; have BK415 := n4_; have HB := n5_; clear n0_ n1_ n2_ n3_ n4_ n5_; (try clear hb); (try clear hb2); (try clear hk); (try clear hi); (try clear ho0); obtain ⟨Ao44, co44, eo44⟩ := Kd.S_slice HO419.out; subst eo44; obtain ⟨Ao45, co45, eo45⟩ := Kd.S_slice HO407.out; subst eo45) | (go_at_call 25; (with_reducible refine (antiquaryref08_SameRows.calls kj7 _ _ t417 _ _ t405 true _ ?side1 ?side2 ?side3 ?side4 A26.out).mono ?_); (case side1 => repeat (first | exact (Kd.S_reads' HO419.out).2.2 | (with_reducible refine Kd.C_alloc ?_ _) | (with_reducible refine Kd.C_drewN ?_ _) | (with_reducible refine Kd.C_drew ?_))); (case side2 => exact (Kd.S_reads' HO419.out).2.1); (case side3 => repeat (first | exact (Kd.S_reads' HO407.out).2.2 | (with_reducible refine Kd.C_alloc ?_ _) | (with_reducible refine Kd.C_drewN ?_ _) | (with_reducible refine Kd.C_drew ?_))); (case side4 => exact (Kd.S_reads' HO407.out).2.1); rintro e w' ⟨rfl, ⟨nd, rfl⟩⟩; obtain ⟨Ao46, co46, eo46⟩ := Kd.R_slice HO410.out; subst eo46) | (go_at_call 27; (with_reducible refine (code_Sum.calls a1 _ _ t405 _ _ t408 t421 _ ?side1 ?side2 ?side3 ?side4 A28.out).mono ?_); (case side1 => repeat (first | exact (Kd.S_reads' HO407.out).2.2 | (with_reducible refine Kd.C_alloc ?_ _) | (with_reducible refine Kd.C_drewN ?_ _) | (with_reducible refine Kd.C_drew ?_))); (case side2 => exact (Kd.S_reads' HO407.out).2.1); (case side3 => repeat (first | exact (Kd.R_reads' HO410.out).2.2 | (with_reducible refine Kd.C_alloc ?_ _) | (with_reducible refine Kd.C_drewN ?_ _) | (with_reducible refine Kd.C_drew ?_))); (case side4 => exact (Kd.R_reads' HO410.out).2.1); rintro e w47 ⟨rfl, hb⟩; have n0_ := Aside0.mk (Kd.S_below (by (with_reducible repeat (first | apply Kd.S_alloc | apply Kd.S_drewN | apply Kd.S_drew)); exact HO407.out) hb); have n1_ := Aside0.mk (Kd.R_below (by (with_reducible repeat (first | apply Kd.R_alloc | apply Kd.R_drewN | apply Kd.R_drew)); exact HO410.out) hb); have n2_ := Aside0.mk (Kd.S_below (by (with_reducible repeat (first | apply Kd.S_alloc | apply Kd.S_drewN | apply Kd.S_drew)); exact HO419.out) hb); have n3_ := Aside0.mk (blk_below (g := gb402) (o := .cells #[.int .i64 a0_0, .slice A0_1 l0_1.length c0_1, .slice A0_2 l0_2.length c0_2] 25 (0, 0)) (by (with_reducible repeat (first | refine blk_drewN ?_ _ | refine blk_drew ?_ | refine blk_alloc ?_ _)); exact BK402.out) hb); have n4_ := Aside0.mk (blk_below (g := gb415) (o := .cells #[.int .i64 t413, .int .i64 t414] 44 (0, 0)) (by (with_reducible repeat (first | refine blk_drewN ?_ _ | refine blk_drew ?_ | refine blk_alloc ?_ _)); exact BK415.out) hb); have n5_ := Aside0.mk (below_step (by repeat (first | (with_reducible first | exact HB.out | apply below_alloc | apply pw_below_drewN | apply below_drew1 | refine below_set ?_ GE402.out | refine below_set ?_ GE415.out) | exact HB.out)) hb); clear HO407; clear HO410; clear HO419; clear BK402; clear BK415; clear HB; have HO407 := n0_; have HO410 := n1_; have HO419 := n2_; have BK402 := n3_; have BK415 := n4_; have HB := n5_; clear n0_ n1_ n2_ n3_ n4_ n5_; (try clear hb); (try clear hb2); (try clear hk); (try clear hi)) | (go_at_call 28; (with_reducible refine (antiquaryref08_Sum.calls kj7 a1 _ _ t405 _ _ t408 t422 _ ?side1 ?side2 ?side3 ?side4 A29.out).mono ?_); (case side1 => repeat (first | exact (Kd.S_reads' HO407.out).2.2 | (with_reducible refine Kd.C_alloc ?_ _) | (with_reducible refine Kd.C_drewN ?_ _) | (with_reducible refine Kd.C_drew ?_))); (case side2 => exact (Kd.S_reads' HO407.out).2.1); (case side3 => repeat (first | exact (Kd.R_reads' HO410.out).2.2 | (with_reducible refine Kd.C_alloc ?_ _) | (with_reducible refine Kd.C_drewN ?_ _) | (with_reducible refine Kd.C_drew ?_))); (case side4 => exact (Kd.R_reads' HO410.out).2.1); rintro e w' ⟨rfl, ⟨nd, rfl⟩⟩; have hcz48_0 : w47.cell? ⟨gb415, 0, none⟩ = some (.int .i64 t413) := (blk_cell BK415.out 0).trans rfl; have hcz48_1 : w47.cell? ⟨gb415, 1, none⟩ = some (.int .i64 t414) := (blk_cell BK415.out 1).trans rfl; have hfz48_0 := blk_frozen BK415.out 0; have hfz48_1 := blk_frozen BK415.out 1))
                go_ret
                exact ⟨by first | rfl | (simp [errW_none, errW_some] <;> rfl) | (simp [*, errW_none, errW_some] <;> rfl), by repeat (first | (with_reducible first | exact HB.out | apply below_alloc | apply pw_below_drewN | apply below_drew1 | refine below_set ?_ GE402.out | refine below_set ?_ GE415.out) | exact HB.out)⟩
              · rw [if_neg c31] at H
                have c31b0 : (t411 == t413) = false := beq_eq_false_iff_ne.mpr c31
                have c31b1 : (t411 != t413) = true := bne_iff_ne.mpr c31
                exact absurd (Option.some.inj H) (by rw [HT.out]; decide)
            · rw [if_neg c30] at H
              have c30b0 : (t421 == t422) = false := beq_eq_false_iff_ne.mpr c30
              have c30b1 : (t421 != t422) = true := bne_iff_ne.mpr c30
              exact absurd (Option.some.inj H) (by rw [HT.out]; decide)
          · replace c27 := Bool.eq_false_iff.mpr c27
            subst c27
            have H1 : (some false) = some r := by rw [if_neg (show ¬ (false = true) by decide)] at H; exact H
            clear H
            have H := H1
            clear H1
            exact absurd (Option.some.inj H) (by rw [HT.out]; decide)
        · replace c24 := Bool.eq_false_iff.mpr c24
          subst c24
          have H1 : (some false) = some r := by rw [if_neg (show ¬ (false = true) by decide)] at H; exact H
          clear H
          have H := H1
          clear H1
          exact absurd (Option.some.inj H) (by rw [HT.out]; decide)
end Go.Proofs.Ytgpdfalopdhjlaa.Q
end
section
set_option linter.unusedVariables false
namespace Go.Proofs.Ytgpdfalopdhjlaa.Book
open Go.RowKit Go.Proofs.Ytgpdfalopdhjlaa.Q Go.Proofs.YtgpdfalopdhjlaaW.PrintWords Plain
theorem rdn (l : List Int) (k : Nat) (h : k < l.length) : rd l (k : Int) = l[k] := by unfold rd; rw [Int.toNat_natCast, List.getD_eq_getElem?_getD, List.getElem?_eq_getElem h]; rfl
theorem rdn_L1 (l : List (List Int)) (k : Nat) (h : k < l.length) : rd_L1 l (k : Int) = l[k] := by unfold rd_L1; rw [Int.toNat_natCast, List.getD_eq_getElem?_getD, List.getElem?_eq_getElem h]; rfl
theorem rd_mem_L1 (l : List (List Int)) {k : Int} (h0 : 0 ≤ k) (h : k < l.length) : rd_L1 l k ∈ l := by
  obtain ⟨n, rfl⟩ : ∃ n : Nat, k = n := ⟨k.toNat, by omega⟩
  rw [rdn_L1 l n (by omega)]
  exact List.getElem_mem _
theorem rd_L2_words (words : List (List (List Int))) (i : Nat) : rd_L2 words (i : Int) = wordsAt words i := by unfold rd_L2 wordsAt; rw [Int.toNat_natCast]
theorem encode_length (dims : Int) (cuts : List Int) (words : List (List (List Int))) (m : Int) (v : List Int) : (encodeOf dims cuts words m v (List.finRange cuts.length)).length = cuts.length := by unfold encodeOf; rw [List.length_map, List.length_finRange]
theorem encode_rd (dims : Int) (cuts : List Int) (words : List (List (List Int))) (m : Int) (v : List Int) {i : Nat} (h : i < cuts.length) : rd (encodeOf dims cuts words m v (List.finRange cuts.length)) (i : Int) = (encodeAt dims cuts words m v i).1 := by
  rw [rdn _ i (by rw [encode_length]; exact h)]
  unfold encodeOf
  simp
theorem table_length (dims : Int) (cuts : List Int) (words : List (List (List Int))) (m : Int) (v : List Int) : (tableOf dims cuts words m v (List.finRange cuts.length)).length = cuts.length := by unfold tableOf; rw [List.length_map, List.length_finRange]
theorem table_rd (dims : Int) (cuts : List Int) (words : List (List (List Int))) (m : Int) (v : List Int) {i : Nat} (h : i < cuts.length) : rd_L1 (tableOf dims cuts words m v (List.finRange cuts.length)) (i : Int) = tableRow dims cuts words m v i := by
  rw [rdn_L1 _ i (by rw [table_length]; exact h)]
  unfold tableOf
  simp
/-- where part n begins, or the end -/
def cutAt (cuts : List Int) (dims : Int) (n : Nat) : Int := if n < cuts.length then rd cuts (n : Int) else dims
theorem partAt_cut {cuts : List Int} {dims : Int} {i : Nat} (h : i < cuts.length) : Q.partAt cuts dims i = ((i : Int), cutAt cuts dims i, cutAt cuts dims (i + 1)) := by
  unfold Q.partAt cutAt
  rw [if_pos h]
theorem cutAt_range {cuts : List Int} {dims : Int} (h : cutOk cuts dims) {i : Nat} (hi : i < cuts.length) : 0 ≤ cutAt cuts dims i ∧ cutAt cuts dims i < cutAt cuts dims (i + 1) ∧ cutAt cuts dims (i + 1) ≤ dims := by
  have := part_range h hi
  rw [partAt_cut hi] at this
  exact this
/-- the word that a code names for a part -/
def wordOf (words : List (List (List Int))) (c : List Int) (i : Nat) : List Int := rd_L1 (wordsAt words i) (rd c (i : Int))
def isCode (words : List (List (List Int))) (c : List Int) : Prop := c.length = words.length ∧ ∀ i, i < c.length → 0 ≤ rd c (i : Int) ∧ rd c (i : Int) < (wordsAt words i).length
instance (words : List (List (List Int))) (c : List Int) : Decidable (isCode words c) := by unfold isCode; infer_instance
theorem wordOf_mem {words : List (List (List Int))} {c : List Int} (h : isCode words c) {i : Nat} (hi : i < c.length) : wordOf words c i ∈ wordsAt words i := rd_mem_L1 _ (h.2 i hi).1 (h.2 i hi).2
/-- the nearest word: its place, its key, and no word is nearer -/
theorem nearW_spec (m : Int) (u : List Int) : ∀ (ws : List (List Int)) (i : Nat) (b : Int × Int), (nearW m u ws i b = b ∧ ∀ w ∈ ws, b.2 ≤ key m w u) ∨
    (∃ (j : Nat) (hj : j < ws.length), nearW m u ws i b = (((i + j : Nat) : Int), key m ws[j] u) ∧ key m ws[j] u < b.2 ∧ ∀ w ∈ ws, key m ws[j] u ≤ key m w u)
  | [], i, b => .inl ⟨rfl, by simp⟩
  | w :: ws, i, b => by
    unfold nearW
    by_cases h : key m w u < b.2
    · rw [if_pos h]
      rcases nearW_spec m u ws (i + 1) ((i : Int), key m w u) with ⟨h1, h2⟩ | ⟨j, hj, h1, h2, h3⟩
      · refine .inr ⟨0, by simp, by rw [h1]; rfl, h, ?_⟩
        intro x hx
        rcases List.mem_cons.1 hx with rfl | hx
        · exact Int.le_refl _
        · exact h2 x hx
      · refine .inr ⟨j + 1, by simpa using hj, ?_, ?_, ?_⟩
        · rw [h1, show i + 1 + j = i + (j + 1) by omega]; rfl
        · exact Int.lt_trans h2 h
        · intro x hx
          rcases List.mem_cons.1 hx with rfl | hx
          · exact Int.le_of_lt h2
          · exact h3 x hx
    · rw [if_neg h]
      rcases nearW_spec m u ws (i + 1) b with ⟨h1, h2⟩ | ⟨j, hj, h1, h2, h3⟩
      · refine .inl ⟨h1, ?_⟩
        intro x hx
        rcases List.mem_cons.1 hx with rfl | hx
        · omega
        · exact h2 x hx
      · refine .inr ⟨j + 1, by simpa using hj, ?_, h2, ?_⟩
        · rw [h1, show i + 1 + j = i + (j + 1) by omega]; rfl
        · intro x hx
          rcases List.mem_cons.1 hx with rfl | hx
          · show key m ws[j] u ≤ _
            omega
          · exact h3 x hx
theorem nearest_spec (m : Int) {u : List Int} {ws : List (List Int)} (h0 : 0 < ws.length) (ha : ∀ w ∈ ws, alike w u) : ∃ (j : Nat) (hj : j < ws.length), nearestOf m ws u = ((j : Int), key m ws[j] u) ∧ ∀ w ∈ ws, key m ws[j] u ≤ key m w u := by
  rcases nearW_spec m u ws 0 (0, 134217729) with ⟨_, h2⟩ | ⟨j, hj, h1, _, h3⟩
  · have hm := List.getElem_mem h0
    have h4 := h2 _ hm
    have h5 := key_isKey m (ha _ hm)
    unfold isKey at h5
    dsimp only at h4
    omega
  · exact ⟨j, hj, by rw [nearestOf, h1, Nat.zero_add], h3⟩
theorem encodeAt_spec {dims : Int} {cuts : List Int} {words : List (List (List Int))} {v : List Int} (m : Int) (hb : bookOk dims cuts words) (hs : isVec v) (hv : (v.length : Int) = dims) {i : Nat} (hi : i < cuts.length) :
    ∃ (j : Nat) (hj : j < (wordsAt words i).length), encodeAt dims cuts words m v i = ((j : Int), key m (wordsAt words i)[j] (partOf v (Q.partAt cuts dims i))) ∧ ∀ w ∈ wordsAt words i, key m (wordsAt words i)[j] (partOf v (Q.partAt cuts dims i)) ≤ key m w (partOf v (Q.partAt cuts dims i)) :=
  nearest_spec m (by have := (hb.2.2 i hi).1.1; omega) (book_alike hb hi hv hs)
theorem encode_code {dims : Int} {cuts : List Int} {words : List (List (List Int))} {v : List Int} (m : Int) (hb : bookOk dims cuts words) (hs : isVec v) (hv : (v.length : Int) = dims) : isCode words (encodeOf dims cuts words m v (List.finRange cuts.length)) := by
  refine ⟨by rw [encode_length, hb.2.1], fun i hi => ?_⟩
  rw [encode_length] at hi
  obtain ⟨j, hj, h1, _⟩ := encodeAt_spec m hb hs hv hi
  rw [encode_rd _ _ _ _ _ hi, h1]
  dsimp only
  omega
theorem sumAt_is {dims : Int} {cuts : List Int} {words : List (List (List Int))} {c q : List Int} (m : Int) (hb : bookOk dims cuts words) (h : isCode words c) {i : Nat} (hi : i < cuts.length) :
    sumAt (tableOf dims cuts words m q (List.finRange cuts.length)) c i = key m (partOf q (Q.partAt cuts dims i)) (wordOf words c i) := by
  have hc := h.2 i (by have := h.1; have := hb.2.1; omega)
  unfold sumAt wordOf
  rw [table_rd _ _ _ _ _ hi]
  obtain ⟨j, hj⟩ : ∃ j : Nat, rd c (i : Int) = j := ⟨(rd c (i : Int)).toNat, by omega⟩
  rw [hj] at hc ⊢
  have hj2 : j < (wordsAt words i).length := by omega
  rw [rdn _ j (by unfold tableRow; rw [List.length_map]; exact hj2), rdn_L1 _ j hj2, key_comm]
  unfold tableRow
  simp
theorem sum_ok {dims : Int} {cuts : List Int} {words : List (List (List Int))} {c q : List Int} {m : Int} (hm : 1 ≤ m ∧ m ≤ 3) (hb : bookOk dims cuts words) (h : isCode words c) (hs : isVec q) (hq : (q.length : Int) = dims) :
    sumOk m (tableOf dims cuts words m q (List.finRange cuts.length)) c := by
  have hl : c.length = cuts.length := by rw [h.1, hb.2.1]
  refine ⟨hm, ⟨by rw [table_length]; omega, by have := hb.1.2.1.2; omega⟩, fun i hi => ?_⟩
  have hi2 : i < cuts.length := by omega
  have hc := h.2 i hi
  rw [sumAt_is m hb h hi2, table_rd _ _ _ _ _ hi2]
  have ha := alike_symm (book_alike hb hi2 hq hs _ (wordOf_mem h hi))
  have hk := key_isKey m ha
  unfold isKey at hk
  unfold tableRow
  rw [List.length_map]
  exact ⟨hc, hk.1, by omega⟩
end Go.Proofs.Ytgpdfalopdhjlaa.Book
end
section
set_option linter.unusedVariables false
namespace Go.Proofs.Ytgpdfalopdhjlaa.Ref04
open Go.RowKit Go.Proofs.Ytgpdfalopdhjlaa.Q Go.Proofs.YtgpdfalopdhjlaaW.PrintWords Plain
theorem rd_mid (pre : List Int) (x : Int) (v : List Int) : rd (pre ++ x :: v) (pre.length : Int) = x := by
  unfold rd
  simp
theorem len_cast (pre : List Int) (x : Int) (v : List Int) : ((pre ++ x :: v).length : Int) = pre.length + 1 + v.length := by
  simp; omega
theorem snoc_len (pre : List Int) (x : Int) : ((pre ++ [x]).length : Int) = pre.length + 1 := by simp
theorem snoc_eq (pre : List Int) (x : Int) (v : List Int) : pre ++ x :: v = (pre ++ [x]) ++ v := by simp
theorem wsucc (n : Nat) (h : (n : Int) ≤ 4611686018427387904) : wrap64 ((n : Int) + 1) = (n : Int) + 1 := by unfold wrap64; omega
theorem valid_l (v : List Int) : ∀ pre : List Int, ((pre ++ v).length : Int) ≤ 4611686018427387904 →
    Ev (fun k => antiquaryref04_Valid.l0 k (pre ++ v) pre.length) (decide ((∀ x ∈ v, -1000 ≤ x ∧ x ≤ 1000) ∧ 1 ≤ (pre ++ v).length ∧ (pre ++ v).length ≤ 32)) := by
  induction v with
  | nil =>
    intro pre hl
    refine ev_succ ?_
    simp only [antiquaryref04_Valid.l0, List.append_nil]
    refine ev_neg (by omega) ?_
    by_cases h1 : (pre.length : Int) ≥ 1
    · exact ev_pos h1 (ev_some (by rw [Bool.eq_iff_iff]; simp; omega))
    · exact ev_neg h1 (ev_some (by rw [Bool.eq_iff_iff]; simp; omega))
  | cons x v ih =>
    intro pre hl
    have hlen := len_cast pre x v
    refine ev_succ ?_
    simp only [antiquaryref04_Valid.l0]
    refine ev_pos (by omega) (ev_pos (by omega) ?_)
    rw [rd_mid]
    by_cases h1 : x < -1000
    · refine ev_pos h1 (ev_some ?_)
      symm
      rw [decide_eq_false_iff_not]
      rintro ⟨h, _⟩
      have := h x List.mem_cons_self
      omega
    · refine ev_neg h1 ?_
      by_cases h2 : x > 1000
      · refine ev_pos h2 (ev_some ?_)
        symm
        rw [decide_eq_false_iff_not]
        rintro ⟨h, _⟩
        have := h x List.mem_cons_self
        omega
      · refine ev_neg h2 ?_
        have := ih (pre ++ [x]) (by rw [← snoc_eq]; exact hl)
        rw [snoc_len, ← snoc_eq] at this
        rw [wsucc _ (by omega)]
        refine ev_cast this ?_
        rw [Bool.eq_iff_iff, decide_eq_true_eq, decide_eq_true_eq]
        refine and_congr_left (fun _ => ⟨fun h y hy => ?_, fun h y hy => h y (List.mem_cons_of_mem _ hy)⟩)
        rcases List.mem_cons.mp hy with rfl | hy
        · omega
        · exact h y hy
theorem valid_ev (v : List Int) (hl : v.length * 8 ≤ 140737488351232) : Ev (fun k => antiquaryref04_Valid.f k v) (decide (isVec v)) := by
  have h : Ev (fun k => antiquaryref04_Valid.f k v) _ := valid_l v [] (by simp; omega)
  exact ev_cast h (by rw [Bool.eq_iff_iff, decide_eq_true_eq, decide_eq_true_eq]; exact Iff.rfl)
theorem mag_f {x : Int} (h : -2000 ≤ x ∧ x ≤ 2000) : antiquaryref04_size.f x = some (Plain.mag x) := by
  unfold antiquaryref04_size.f Plain.mag
  split
  · rw [w64 (by omega) (by omega)]
  · rfl
theorem norm_l (m : Int) (v : List Int) : ∀ (pre : List Int) (acc : Int), (∀ x ∈ v, -2000 ≤ x ∧ x ≤ 2000) → 0 ≤ acc → acc + 4000000 * v.length ≤ 4611686018427387904 → ((pre ++ v).length : Int) ≤ 4611686018427387904 →
    Ev (fun k => antiquaryref04_Norm.l0 k m (pre ++ v) acc pre.length) (join m acc (norm m v)) := by
  induction v with
  | nil =>
    intro pre acc _ h0 _ hl
    refine ev_succ ?_
    simp only [antiquaryref04_Norm.l0, List.append_nil]
    refine ev_neg (by omega) (ev_some ?_)
    exact (join_zero m h0).symm
  | cons x v ih =>
    intro pre acc hv h0 hb hl
    have hlen := len_cast pre x v
    have hx := hv x List.mem_cons_self
    have hp0 := ptl_nonneg m x
    have hp1 := ptl_le m hx
    have hn := ih (pre ++ [x]) (join m acc (ptl m x)) (fun y hy => hv y (List.mem_cons_of_mem _ hy)) (join_nonneg m h0 hp0)
      (by have := join_le_add m h0 hp0; simp only [List.length_cons] at hb; omega) (by rw [← snoc_eq]; exact hl)
    rw [snoc_len, ← snoc_eq, join_assoc] at hn
    simp only [List.length_cons] at hb
    refine ev_succ ?_
    simp only [antiquaryref04_Norm.l0]
    refine ev_pos (by omega) ?_
    rw [rd_mid, wsucc _ (by omega)]
    by_cases h1 : m = 1
    · refine ev_pos h1 (ev_pos (by omega) (ev_ob (mag_f hx) ?_))
      have e : join m acc (ptl m x) = wrap64 (acc + Plain.mag x) := by
        have e1 : ptl m x = Plain.mag x := by unfold ptl; rw [if_neg (by omega)]
        rw [w64 (by omega) (by omega), e1]
        unfold join; rw [if_pos (.inl h1)]
      rw [e] at hn
      exact hn
    · refine ev_neg h1 ?_
      by_cases h2 : m = 2
      · refine ev_pos h2 (ev_pos (by omega) ?_)
        have e1 : ptl m x = x * x := by unfold ptl; rw [if_pos h2]
        have e : join m acc (ptl m x) = wrap64 (acc + wrap64 (x * x)) := by
          rw [w64 (x := x * x) (by omega) (by omega), w64 (by omega) (by omega), e1]
          unfold join; rw [if_pos (.inr h2)]
        rw [e] at hn
        exact hn
      · refine ev_neg h2 (ev_pos (by omega) (ev_ob (mag_f hx) ?_))
        have e : join m acc (ptl m x) = mx acc (Plain.mag x) := by
          unfold join ptl mx; rw [if_neg (by omega), if_neg h2]
        rw [e] at hn
        exact hn
theorem norm_ev (m : Int) (v : List Int) (hv : ∀ x ∈ v, -2000 ≤ x ∧ x ≤ 2000) (hl : v.length ≤ 1000000) : Ev (fun k => antiquaryref04_Norm.f k m v) (norm m v) := by
  have h : Ev (fun k => antiquaryref04_Norm.f k m v) _ := norm_l m v [] 0 hv (by omega) (by omega) (by simp; omega)
  exact ev_cast h (zero_join m (norm_nonneg m v))
theorem sub_l (p : List Int) : ∀ (q p0 q0 acc : List Int), p.length = q.length → p0.length = q0.length → acc.length = p0.length → (p0 ++ p).length ≤ 1000000 → (∀ x ∈ p, -1000 ≤ x ∧ x ≤ 1000) → (∀ x ∈ q, -1000 ≤ x ∧ x ≤ 1000) →
    Ev (fun k => antiquaryref04_Sub.l0 k (p0 ++ p) (q0 ++ q) acc p0.length) (acc ++ diffs p q) := by
  induction p with
  | nil =>
    intro q p0 q0 acc h1 h2 h3 hl _ _
    obtain rfl : q = [] := List.eq_nil_of_length_eq_zero (by simpa using h1.symm)
    refine ev_succ ?_
    simp only [antiquaryref04_Sub.l0, List.append_nil]
    refine ev_neg (by omega) (ev_some ?_)
    simp [diffs]
  | cons x p ih =>
    intro q p0 q0 acc h1 h2 h3 hl hp hq
    obtain ⟨y, q, rfl⟩ : ∃ y t, q = y :: t := by
      cases q with
      | nil => simp at h1
      | cons y t => exact ⟨y, t, rfl⟩
    have hlen := len_cast p0 x p
    have hlen2 := len_cast q0 y q
    have h1' : p.length = q.length := by simpa using h1
    have hx := hp x List.mem_cons_self
    have hy := hq y List.mem_cons_self
    have hn := ih q (p0 ++ [x]) (q0 ++ [y]) (acc ++ [x - y]) h1' (by simp [h2]) (by simp [h3]) (by simpa using hl) (fun z hz => hp z (List.mem_cons_of_mem _ hz)) (fun z hz => hq z (List.mem_cons_of_mem _ hz))
    rw [snoc_len, ← snoc_eq, ← snoc_eq] at hn
    have hl' : (p0 ++ x :: p).length ≤ 1000000 := hl
    refine ev_succ ?_
    simp only [antiquaryref04_Sub.l0]
    refine ev_pos (by omega) (ev_pos (by omega) (ev_pos (by omega) (ev_pos (by omega) ?_)))
    rw [rd_mid, show (p0.length : Int) = (q0.length : Int) by omega, rd_mid, ← show (p0.length : Int) = (q0.length : Int) by omega, wsucc _ (by omega), w64 (by omega) (by omega)]
    refine ev_cast hn ?_
    simp [diffs]
theorem sub_ev {p q : List Int} (h : alike p q) : Ev (fun k => antiquaryref04_Sub.f k p q) (diffs p q) := by
  have h : Ev (fun k => antiquaryref04_Sub.f k p q) _ := sub_l p q [] [] [] h.2.2 rfl rfl (by have := h.1.2.2; simp; omega) h.1.1 h.2.1.1
  exact h
theorem key_ev (m : Int) {p q : List Int} (h : alike p q) : Ev (fun k => antiquaryref04_Key.f k m p q) (key m p q) := by
  unfold antiquaryref04_Key.f
  refine ev_bind (sub_ev h) (ev_bind (norm_ev m _ (diffs_range p q h.1.1 h.2.1.1) ?_) (ev_some rfl))
  rw [diffs_length p q h.2.2]
  have := h.1.2.2
  omega
end Go.Proofs.Ytgpdfalopdhjlaa.Ref04
end
section
set_option linter.unusedVariables false
namespace Go.Proofs.Ytgpdfalopdhjlaa.Ev08
open Go.RowKit Go.Proofs.Ytgpdfalopdhjlaa.Q Go.Proofs.YtgpdfalopdhjlaaW.PrintWords Plain Go.Proofs.Ytgpdfalopdhjlaa.Book
theorem same_ints (a : List Int) (ha : a.length ≤ 4611686018427387904) : Ev (fun k => antiquaryref04_Same.f k a a) true := by
  have h : Ev (fun k => antiquaryref04_Compare.f k a a) 0 := by
    refine ev_neg (by omega) (ev_neg (by omega) ?_)
    refine ev_count0 (G := fun i k => antiquaryref04_Compare.l0 k a a (i : Int)) (n := a.length) (fun i hi h => ?_) ?_
    · refine ev_succ ?_
      simp only [antiquaryref04_Compare.l0]
      refine ev_pos (by omega) (ev_pos (by omega) (ev_pos (by omega) (ev_neg (by omega) (ev_neg (by omega) ?_))))
      rw [wsuc i (by omega)]
      exact h
    · refine ev_succ ?_
      simp only [antiquaryref04_Compare.l0]
      exact ev_neg (by omega) (ev_some rfl)
  exact ev_bind h (ev_some rfl)
theorem same_rows (a : List (List Int)) (ha : a.length ≤ 4611686018427387904) (hv : ∀ v ∈ a, v.length ≤ 4611686018427387904) : Ev (fun k => antiquaryref08_SameRows.f k a a) true := by
  refine ev_pos rfl ?_
  refine ev_count0 (G := fun i k => antiquaryref08_SameRows.l0 k a a (i : Int)) (n := a.length) (fun i hi h => ?_) ?_
  · refine ev_succ ?_
    simp only [antiquaryref08_SameRows.l0]
    refine ev_pos (by omega) (ev_pos (by omega) (ev_pos (by omega) (ev_bind (same_ints _ (hv _ (rd_mem_L1 a (by omega) (by omega)))) (ev_pos rfl ?_))))
    rw [wsuc i (by omega)]
    exact h
  · refine ev_succ ?_
    simp only [antiquaryref08_SameRows.l0]
    exact ev_neg (by omega) (ev_some rfl)
theorem valid_any (v : List Int) (hl : v.length ≤ 9223372036854775807) : Ev (fun k => antiquaryref04_Valid.f k v) (decide (isVec v)) := by
  have bad : ∀ i, i < v.length → ¬ (-1000 ≤ rd v (i : Int) ∧ rd v (i : Int) ≤ 1000) → false = decide (isVec v) := fun i hi h => by
    symm
    rw [decide_eq_false_iff_not]
    intro h2
    rw [rdn v i hi] at h
    exact h (h2.1 _ (List.getElem_mem hi))
  refine ev_count (G := fun i k => antiquaryref04_Valid.l0 k v (i : Int)) (n := v.length) (fun i => ∀ j, j < i → -1000 ≤ rd v (j : Int) ∧ rd v (j : Int) ≤ 1000) (fun j hj => by omega) (fun i hi hI h => ?_) (fun hI => ?_)
  · refine ev_succ ?_
    simp only [antiquaryref04_Valid.l0]
    refine ev_pos (by omega) (ev_pos (by omega) ?_)
    by_cases c1 : rd v (i : Int) < -1000
    · exact ev_pos c1 (ev_some (bad i hi (by omega)))
    refine ev_neg c1 ?_
    by_cases c2 : rd v (i : Int) > 1000
    · exact ev_pos c2 (ev_some (bad i hi (by omega)))
    refine ev_neg c2 ?_
    rw [wsuc i (by omega)]
    exact h (fun j hj => by
      rcases Nat.lt_or_ge j i with h4 | h4
      · exact hI j h4
      · obtain rfl : j = i := by omega
        omega)
  · have hall : ∀ x ∈ v, -1000 ≤ x ∧ x ≤ 1000 := fun x hx => by
      obtain ⟨j, hj, rfl⟩ := List.mem_iff_getElem.1 hx
      have := hI j hj
      rwa [rdn v j hj] at this
    refine ev_succ ?_
    simp only [antiquaryref04_Valid.l0]
    refine ev_neg (by omega) ?_
    by_cases h1 : (v.length : Int) ≥ 1
    · refine ev_pos h1 (ev_some ?_)
      rw [decide_eq_decide]
      exact ⟨fun h => ⟨hall, by omega, by omega⟩, fun h => by have := h.2.2; omega⟩
    · refine ev_neg h1 (ev_some (decide_eq_false (fun h => by have := h.2.1; omega)).symm)
/-- a codebook with few words -/
def fewW (ws : List (List Int)) : Prop := (ws.length ≤ 30 ∨ (256 < ws.length ∧ ws.length ≤ 300)) ∧ ∀ j, j < ws.length → (rd_L1 ws (j : Int)).length ≤ 33
instance (ws : List (List Int)) : Decidable (fewW ws) := by unfold fewW; infer_instance
def few (cuts : List Int) (words : List (List (List Int))) : Prop := (words.length ≤ 9 ∧ cuts.length ≤ 9) ∧ ∀ i, i < words.length → fewW (wordsAt words i)
instance (cuts : List Int) (words : List (List (List Int))) : Decidable (few cuts words) := by unfold few; infer_instance
theorem few_ev (d : Int) (cuts : List Int) (words : List (List (List Int))) : Ev (fun k => antiquaryref08_Few.f k d cuts words) (decide (few cuts words)) := by
  have no : ¬ few cuts words → false = decide (few cuts words) := fun h => (decide_eq_false h).symm
  have bad : ∀ i, i < words.length → ¬ fewW (wordsAt words i) → false = decide (few cuts words) := fun i hi h => no (fun h2 => h (h2.2 i hi))
  unfold antiquaryref08_Few.f
  by_cases h1 : (words.length : Int) > 9
  · refine ev_pos h1 (ev_succ ?_)
    simp only [antiquaryref08_Few.j0]
    exact ev_pos trivial (ev_some (no (fun h => by have := h.1.1; omega)))
  refine ev_neg h1 (ev_succ ?_)
  simp only [antiquaryref08_Few.j0]
  by_cases h2 : (cuts.length : Int) > 9
  · exact ev_pos (decide_eq_true h2) (ev_some (no (fun h => by have := h.1.2; omega)))
  refine ev_neg (by simpa using h2) ?_
  refine ev_count (G := fun i k => antiquaryref08_Few.l0 k (i : Int) d cuts words) (n := words.length) (fun i => ∀ j, j < i → fewW (wordsAt words j)) (fun j hj => by omega) (fun i hi hI h => ?_) (fun hI => ?_)
  · refine ev_succ ?_
    simp only [antiquaryref08_Few.l0]
    rw [rd_L2_words]
    have inner : ((wordsAt words i).length ≤ 30 ∨ (256 < (wordsAt words i).length ∧ (wordsAt words i).length ≤ 300)) → Ev (fun k => antiquaryref08_Few.l1 k (i : Int) 0 d cuts words) (decide (few cuts words)) := fun hl => by
      refine ev_count (G := fun j k => antiquaryref08_Few.l1 k (i : Int) (j : Int) d cuts words) (n := (wordsAt words i).length) (fun j => ∀ j', j' < j → (rd_L1 (wordsAt words i) (j' : Int)).length ≤ 33) (fun j hj => by omega) (fun j hj hJ h2 => ?_) (fun hJ => ?_)
      · refine ev_succ ?_
        simp only [antiquaryref08_Few.l1]
        rw [rd_L2_words]
        refine ev_pos (by omega) (ev_pos (by omega) (ev_pos (by omega) (ev_pos (by omega) ?_)))
        by_cases h3 : ((rd_L1 (wordsAt words i) (j : Int)).length : Int) > 33
        · exact ev_pos h3 (ev_some (bad i hi (fun h4 => by have := h4.2 j hj; omega)))
        · refine ev_neg h3 ?_
          rw [wsuc j (by omega)]
          exact h2 (fun j' hj' => by
            rcases Nat.lt_or_ge j' j with h4 | h4
            · exact hJ j' h4
            · obtain rfl : j' = j := by omega
              omega)
      · refine ev_succ ?_
        simp only [antiquaryref08_Few.l1]
        rw [rd_L2_words]
        refine ev_pos (by omega) (ev_pos (by omega) (ev_neg (by omega) ?_))
        rw [wsuc i (by omega)]
        exact h (fun j hj => by
          rcases Nat.lt_or_ge j i with h4 | h4
          · exact hI j h4
          · obtain rfl : j = i := by omega
            exact ⟨hl, hJ⟩)
    have yes : ((wordsAt words i).length ≤ 30 ∨ (256 < (wordsAt words i).length ∧ (wordsAt words i).length ≤ 300)) → Ev (fun k => antiquaryref08_Few.j2 k (i : Int) false d cuts words) (decide (few cuts words)) := fun hl => by
      refine ev_succ ?_
      simp only [antiquaryref08_Few.j2]
      exact ev_neg (by simp) (inner hl)
    have nope : ¬ ((wordsAt words i).length ≤ 30 ∨ (256 < (wordsAt words i).length ∧ (wordsAt words i).length ≤ 300)) → Ev (fun k => antiquaryref08_Few.j2 k (i : Int) true d cuts words) (decide (few cuts words)) := fun hl => by
      refine ev_succ ?_
      simp only [antiquaryref08_Few.j2]
      exact ev_pos trivial (ev_some (bad i hi (fun h4 => hl h4.1)))
    refine ev_pos (by omega) (ev_pos (by omega) ?_)
    by_cases c1 : ((wordsAt words i).length : Int) > 30
    · refine ev_pos c1 ?_
      by_cases c2 : ((wordsAt words i).length : Int) ≤ 256
      · exact ev_pos c2 (nope (by omega))
      · refine ev_neg c2 ?_
        by_cases c3 : ((wordsAt words i).length : Int) > 300
        · rw [decide_eq_true c3]; exact nope (by omega)
        · rw [decide_eq_false c3]; exact yes (by omega)
    · refine ev_neg c1 ?_
      rw [decide_eq_false (by omega)]
      exact yes (by omega)
  · refine ev_succ ?_
    simp only [antiquaryref08_Few.l0]
    exact ev_neg (by omega) (ev_some (decide_eq_true ⟨⟨by omega, by omega⟩, hI⟩).symm)
theorem cut_ev (cuts : List Int) (dims : Int) (hl : cuts.length ≤ 4611686018427387904) : Ev (fun k => antiquaryref08_cut.f k cuts dims) (decide (cutOk cuts dims)) := by
  have no : ¬ cutOk cuts dims → Ev (fun k => antiquaryref08_cut.j0 k cuts dims true) (decide (cutOk cuts dims)) := fun h => by
    refine ev_succ ?_
    simp only [antiquaryref08_cut.j0]
    exact ev_pos trivial (ev_some (decide_eq_false h).symm)
  have bad : ∀ j, j < cuts.length → ¬ cutGood cuts dims j → false = decide (cutOk cuts dims) := fun j hj h => by
    symm
    rw [decide_eq_false_iff_not, cutOk_iff]
    exact fun h2 => h (h2.2.2 j hj)
  unfold antiquaryref08_cut.f
  by_cases h1 : dims < 1
  · exact ev_pos h1 (no (fun h => by have := h.1.1; omega))
  refine ev_neg h1 ?_
  by_cases h2 : dims > 32
  · exact ev_pos h2 (no (fun h => by have := h.1.2; omega))
  refine ev_neg h2 ?_
  by_cases h3 : (cuts.length : Int) < 1
  · exact ev_pos h3 (no (fun h => by have := h.2.1.1; omega))
  refine ev_neg h3 ?_
  by_cases h4 : (cuts.length : Int) > 8
  · exact ev_pos h4 (no (fun h => by have := h.2.1.2; omega))
  refine ev_neg h4 (ev_pos (by omega) ?_)
  by_cases h5 : rd cuts 0 = 0
  rotate_left
  · rw [show (rd cuts 0 != 0) = true by simpa using h5]
    exact no (fun h => h5 h.2.2.1)
  rw [show (rd cuts 0 != 0) = false by simpa using h5]
  refine ev_succ ?_
  simp only [antiquaryref08_cut.j0]
  refine ev_neg (by simp) ?_
  refine ev_count (G := fun i k => antiquaryref08_cut.l0 k cuts dims (i : Int)) (n := cuts.length) (fun i => ∀ j, j < i → cutGood cuts dims j) (fun j hj => by omega) (fun i hi hI h => ?_) (fun hI => ?_)
  · have next : cutGood cuts dims i → Ev (fun k => antiquaryref08_cut.l0 k cuts dims (wrap64 ((i : Int) + 1))) (decide (cutOk cuts dims)) := fun hg => by
      rw [wsuc i (by omega)]
      exact h (fun j hj => by
        rcases Nat.lt_or_ge j i with h4 | h4
        · exact hI j h4
        · obtain rfl : j = i := by omega
          exact hg)
    refine ev_succ ?_
    simp only [antiquaryref08_cut.l0]
    refine ev_pos (by omega) (ev_pos (by omega) ?_)
    by_cases c1 : rd cuts (i : Int) ≥ dims
    · exact ev_pos c1 (ev_some (bad i hi (fun h => by have := h.1; omega)))
    refine ev_neg c1 ?_
    by_cases c2 : (i : Int) > 0
    · obtain ⟨m, rfl⟩ : ∃ m, i = m + 1 := ⟨i - 1, by omega⟩
      rw [show wrap64 (((m + 1 : Nat) : Int) - 1) = (m : Int) by rw [Plain.w64 (by omega) (by omega)]; omega]
      refine ev_pos c2 (ev_pos (by omega) (ev_pos (by omega) ?_))
      by_cases c3 : rd cuts ((m + 1 : Nat) : Int) ≤ rd cuts (m : Int)
      · exact ev_pos c3 (ev_some (bad _ hi (fun h => by have := h.2.2 m rfl; omega)))
      · refine ev_neg c3 (next ⟨by omega, fun e => by omega, fun m' hm' => ?_⟩)
        obtain rfl : m' = m := by omega
        exact Int.not_le.1 c3
    · obtain rfl : i = 0 := by omega
      exact ev_neg c2 (next ⟨by omega, fun _ => h5, fun m' hm' => by omega⟩)
  · refine ev_succ ?_
    simp only [antiquaryref08_cut.l0]
    refine ev_neg (by omega) (ev_some ?_)
    symm
    rw [decide_eq_true_eq, cutOk_iff]
    exact ⟨⟨by omega, by omega⟩, ⟨by omega, by omega⟩, hI⟩
theorem end_is {cuts : List Int} {dims : Int} {i : Nat} (hi : i < cuts.length) (hl : cuts.length ≤ 4611686018427387904) : antiquaryref08_end.f cuts dims (i : Int) = some (cutAt cuts dims (i + 1)) := by
  unfold antiquaryref08_end.f cutAt
  rw [wsuc i (by omega)]
  by_cases h : i + 1 < cuts.length
  · rw [if_pos (by omega), if_pos (by omega), if_pos h]
  · rw [if_neg (by omega), if_neg h]
theorem check_ev (d : Int) (cuts : List Int) (words : List (List (List Int))) (hf : few cuts words) : Ev (fun k => antiquaryref08_Check.f k d cuts words) (if bookOk d cuts words then 0 else 80) := by
  have no : ¬ bookOk d cuts words → (80 : Int) = if bookOk d cuts words then 0 else 80 := fun h => (if_neg h).symm
  have nj : ¬ bookOk d cuts words → Ev (fun k => antiquaryref08_Check.j0 k true d cuts words) (if bookOk d cuts words then (0 : Int) else 80) := fun h => by
    refine ev_succ ?_
    simp only [antiquaryref08_Check.j0]
    exact ev_pos trivial (ev_some (no h))
  refine ev_bind (cut_ev cuts d (by have := hf.1.2; omega)) ?_
  by_cases h1 : cutOk cuts d
  rotate_left
  · exact ev_neg (by simpa using h1) (nj (fun h => h1 h.1))
  refine ev_pos (by simpa using h1) ?_
  by_cases h2 : words.length = cuts.length
  rotate_left
  · rw [show ((words.length : Int) != (cuts.length : Int)) = true by simp; omega]
    exact nj (fun h => h2 h.2.1)
  rw [show ((words.length : Int) != (cuts.length : Int)) = false by simp; omega]
  refine ev_succ ?_
  simp only [antiquaryref08_Check.j0]
  refine ev_neg (by simp) ?_
  have bad : ∀ i, i < cuts.length → ¬ partGood d cuts words i → (80 : Int) = if bookOk d cuts words then 0 else 80 := fun i hi h => no (fun h3 => h (((bookOk_iff _ _ _).1 h3).2 i hi))
  refine ev_count (G := fun i k => antiquaryref08_Check.l0 k (i : Int) d cuts words) (n := cuts.length) (fun i => ∀ j, j < i → partGood d cuts words j) (fun j hj => by omega) (fun i hi hI h => ?_) (fun hI => ?_)
  · refine ev_succ ?_
    simp only [antiquaryref08_Check.l0]
    rw [rd_L2_words]
    have hfw := hf.2 i (by omega)
    have hlen : (wordsAt words i).length ≤ 300 := by have := hfw.1; omega
    have hcr := cutAt_range h1 hi
    have hd := h1.1
    have hc9 := hf.1.2
    have inner : (1 ≤ (wordsAt words i).length ∧ (wordsAt words i).length ≤ 256) → Ev (fun k => antiquaryref08_Check.l1 k (i : Int) 0 d cuts words) (if bookOk d cuts words then (0 : Int) else 80) := fun hl => by
      refine ev_count (G := fun j k => antiquaryref08_Check.l1 k (i : Int) (j : Int) d cuts words) (n := (wordsAt words i).length) (fun j => ∀ j', j' < j → badW (cutAt cuts d (i + 1) - cutAt cuts d i) (rd_L1 (wordsAt words i) (j' : Int)) = false) (fun j hj => by omega) (fun j hj hJ h2 => ?_) (fun hJ => ?_)
      · have hb : badW (cutAt cuts d (i + 1) - cutAt cuts d i) (rd_L1 (wordsAt words i) (j : Int)) = true → (80 : Int) = if bookOk d cuts words then 0 else 80 := fun hb => bad i hi (fun hg => hg.2 ⟨_, rd_mem_L1 (wordsAt words i) (k := (j : Int)) (by omega) (by omega), by rw [partAt_cut hi]; exact hb⟩)
        refine ev_succ ?_
        simp only [antiquaryref08_Check.l1]
        rw [rd_L2_words]
        refine ev_pos (by omega) (ev_pos (by omega) (ev_pos (by omega) (ev_pos (by omega) ?_)))
        refine ev_bind (Ref04.valid_ev _ (by have := hfw.2 j hj; omega)) ?_
        by_cases c1 : isVec (rd_L1 (wordsAt words i) (j : Int))
        rotate_left
        · exact ev_neg (by simpa using c1) (ev_some (hb (by unfold badW; simp [c1])))
        refine ev_pos (by simpa using c1) (ev_ob (end_is hi (by have := hf.1.2; omega)) (ev_pos (by omega) ?_))
        rw [show rd cuts (i : Int) = cutAt cuts d i from (by unfold cutAt; rw [if_pos hi]), Plain.w64 (by omega) (by omega)]
        by_cases c2 : ((rd_L1 (wordsAt words i) (j : Int)).length : Int) = cutAt cuts d (i + 1) - cutAt cuts d i
        · refine ev_pos c2 ?_
          rw [wsuc j (by omega)]
          exact h2 (fun j' hj' => by
            rcases Nat.lt_or_ge j' j with h4 | h4
            · exact hJ j' h4
            · obtain rfl : j' = j := by omega
              unfold badW
              simp [c1, c2])
        · exact ev_neg c2 (ev_some (hb (by unfold badW; simp [c2])))
      · refine ev_succ ?_
        simp only [antiquaryref08_Check.l1]
        rw [rd_L2_words]
        refine ev_pos (by omega) (ev_pos (by omega) (ev_neg (by omega) ?_))
        rw [wsuc i (by omega)]
        exact h (fun j hj => by
          rcases Nat.lt_or_ge j i with h4 | h4
          · exact hI j h4
          · obtain rfl : j = i := by omega
            refine ⟨hl, ?_⟩
            rw [partAt_cut hi]
            rintro ⟨w, hw, hbw⟩
            obtain ⟨n, hn, rfl⟩ := List.mem_iff_getElem.1 hw
            have := hJ n hn
            rw [rdn_L1 _ n hn] at this
            rw [this] at hbw
            cases hbw)
    have yes : (1 ≤ (wordsAt words i).length ∧ (wordsAt words i).length ≤ 256) → Ev (fun k => antiquaryref08_Check.j2 k (i : Int) false d cuts words) (if bookOk d cuts words then (0 : Int) else 80) := fun hl => by
      refine ev_succ ?_
      simp only [antiquaryref08_Check.j2]
      exact ev_neg (by simp) (inner hl)
    have nope : ¬ (1 ≤ (wordsAt words i).length ∧ (wordsAt words i).length ≤ 256) → Ev (fun k => antiquaryref08_Check.j2 k (i : Int) true d cuts words) (if bookOk d cuts words then (0 : Int) else 80) := fun hl => by
      refine ev_succ ?_
      simp only [antiquaryref08_Check.j2]
      exact ev_pos trivial (ev_some (bad i hi (fun h4 => hl h4.1)))
    refine ev_pos (by omega) (ev_pos (by omega) (ev_pos (by omega) ?_))
    by_cases c1 : ((wordsAt words i).length : Int) < 1
    · exact ev_pos c1 (nope (by omega))
    · refine ev_neg c1 ?_
      by_cases c3 : ((wordsAt words i).length : Int) > 256
      · rw [decide_eq_true c3]; exact nope (by omega)
      · rw [decide_eq_false c3]; exact yes (by omega)
  · refine ev_succ ?_
    simp only [antiquaryref08_Check.l0]
    exact ev_neg (by omega) (ev_some (if_pos ((bookOk_iff _ _ _).2 ⟨⟨h1, h2⟩, hI⟩)).symm)
theorem metric_is (m : Int) : antiquaryref04_Metric.f m = some (decide (1 ≤ m ∧ m ≤ 3)) := by
  unfold antiquaryref04_Metric.f
  by_cases h : m ≥ 1
  · rw [if_pos h]
    congr 1
    rw [decide_eq_decide]
    omega
  · rw [if_neg h, decide_eq_false (by omega)]
/-- what the statements ask of a codebook, a metric and two vectors -/
def rightOk (d : Int) (cuts : List Int) (words : List (List (List Int))) (m : Int) (v q : List Int) : Prop := few cuts words ∧ bookOk d cuts words ∧ (1 ≤ m ∧ m ≤ 3) ∧ (isVec v ∧ isVec q) ∧ (v.length : Int) = d ∧ (q.length : Int) = d
instance (d : Int) (cuts : List Int) (words : List (List (List Int))) (m : Int) (v q : List Int) : Decidable (rightOk d cuts words m v q) := by unfold rightOk; infer_instance
theorem right_ev (d : Int) (cuts : List Int) (words : List (List (List Int))) (m : Int) (v q : List Int) (hv : v.length ≤ 9223372036854775807) (hq : q.length ≤ 9223372036854775807) :
    Ev (fun k => antiquarylaw08_right.f k d cuts words m v q) (decide (rightOk d cuts words m v q)) := by
  have no : ¬ rightOk d cuts words m v q → Ev (fun k => antiquarylaw08_right.j0 k v q true d cuts words) (decide (rightOk d cuts words m v q)) := fun h => by
    refine ev_succ ?_
    simp only [antiquarylaw08_right.j0]
    exact ev_pos trivial (ev_some (decide_eq_false h).symm)
  refine ev_bind (few_ev d cuts words) ?_
  by_cases h1 : few cuts words
  rotate_left
  · exact ev_neg (by simpa using h1) (no (fun h => h1 h.1))
  refine ev_pos (by simpa using h1) (ev_bind (check_ev d cuts words h1) ?_)
  by_cases h2 : bookOk d cuts words
  rotate_left
  · exact ev_neg (by rw [if_neg h2]; decide) (no (fun h => h2 h.2.1))
  refine ev_pos (if_pos h2) (ev_ob (metric_is m) ?_)
  by_cases h3 : 1 ≤ m ∧ m ≤ 3
  rotate_left
  · rw [decide_eq_false h3]; exact no (fun h => h3 h.2.2.1)
  rw [decide_eq_true h3]
  refine ev_succ ?_
  simp only [antiquarylaw08_right.j0]
  refine ev_neg (by simp) (ev_bind (valid_any v hv) (ev_bind (valid_any q hq) ?_))
  by_cases h4 : isVec v
  rotate_left
  · exact ev_neg (by simpa using h4) (ev_some (decide_eq_false (fun h => h4 h.2.2.2.1.1)).symm)
  refine ev_pos (by simpa using h4) ?_
  by_cases h5 : isVec q
  rotate_left
  · exact ev_neg (by simpa using h5) (ev_some (decide_eq_false (fun h => h5 h.2.2.2.1.2)).symm)
  refine ev_pos (by simpa using h5) ?_
  by_cases h6 : (v.length : Int) = d
  rotate_left
  · exact ev_neg h6 (ev_some (decide_eq_false (fun h => h6 h.2.2.2.2.1)).symm)
  refine ev_pos h6 (ev_some ?_)
  rw [Bool.eq_iff_iff, beq_iff_eq, decide_eq_true_eq]
  exact ⟨fun h => ⟨h1, h2, h3, ⟨h4, h5⟩, h6, h⟩, fun h => h.2.2.2.2.2⟩
end Go.Proofs.Ytgpdfalopdhjlaa.Ev08
end
section
set_option linter.unusedVariables false
namespace Go.Proofs.Ytgpdfalopdhjlaa.Low05
open Go.RowKit Go.Proofs.Ytgpdfalopdhjlaa.Q Go.Proofs.YtgpdfalopdhjlaaW.PrintWords Plain
/-- the binary digits of a root: with j digits to come, the root is from x on, before x + 2^j -/
theorem digits (n : Int) (hn : 0 ≤ n) (hn2 : n ≤ 1152921504606846976) (j : Nat) : j ≤ 31 → ∀ x : Int, 0 ≤ x → x + 2 ^ j ≤ 2147483648 → x * x ≤ n → n < (x + 2 ^ j) * (x + 2 ^ j) →
    Ev (fun k => antiquaryref05_Isqrt.l0 k n x ((j : Int) - 1)) (root n) := by
  induction j with
  | zero =>
    intro _ x h0 _ h1 h2
    refine ev_succ ?_
    simp only [antiquaryref05_Isqrt.l0]
    refine ev_neg (by omega) (ev_some ?_)
    exact (root_unique hn h0 h1 (by simpa using h2)).symm
  | succ j ih =>
    intro hj x h0 hb h1 h2
    have hp : (2 : Int) ^ (j + 1) = 2 * 2 ^ j := by rw [Int.pow_succ, Int.mul_comm]
    have hpn : ((2 : Int) ^ j) = ((2 ^ j : Nat) : Int) := by push_cast; rfl
    have hpos : 0 < (2 : Int) ^ j := by rw [hpn]; have := Nat.two_pow_pos j; omega
    have hs : shl .i64 1 (j : Int) = (2 : Int) ^ j := by rw [metric_shl_pow j (by omega), hpn]
    refine ev_succ ?_
    simp only [antiquaryref05_Isqrt.l0]
    rw [show (((j + 1 : Nat) : Int) - 1) = (j : Int) by omega, hs]
    rw [hp] at hb h2
    generalize (2 : Int) ^ j = z at *
    have hx := sq_le_sq (a := x + z) (b := 2147483648) (by omega) (by omega)
    have hx0 := sq_nonneg (x + z)
    rw [w64 (x := x + z) (by omega) (by omega), w64 (x := (x + z) * (x + z)) (by omega) (by omega), w64 (x := (j : Int) - 1) (by omega) (by omega)]
    refine ev_pos (by omega) (ev_pos (by omega) ?_)
    by_cases hc : (x + z) * (x + z) ≤ n
    · exact ev_pos hc (ih (by omega) (x + z) (by omega) (by omega) hc (by rw [show x + z + z = x + 2 * z by omega]; exact h2))
    · exact ev_neg hc (ih (by omega) x h0 (by omega) h1 (by omega))
theorem isqrt_ev {n : Int} (hn : 0 ≤ n) (hn2 : n ≤ 1152921504606846976) : Ev (fun k => antiquaryref05_Isqrt.f k n) (root n) := by
  unfold antiquaryref05_Isqrt.f
  refine ev_neg (by omega) (ev_succ ?_)
  simp only [antiquaryref05_Isqrt.j0]
  have := digits n hn hn2 31 (by omega) 0 (by omega) (by decide) (by omega) (by show n < (0 + 2147483648) * (0 + 2147483648); omega)
  exact this
theorem mul4_le {a b : Int} (ha : isKey a) (hb : isKey b) : 4 * a * b ≤ 72057594037927936 := by
  have := mul_key ha hb
  rw [four_mul]; omega
theorem low_ev (m : Int) {a b : Int} (ha : isKey a) (hb : isKey b) : Ev (fun k => antiquaryref05_Low.f k m a b) (low m a b) := by
  have h0 := mul4_nonneg ha hb
  have h1 := mul4_le ha hb
  have r0 := root_nonneg (4 * a * b)
  have r1 := root4_le ha hb
  have a0 := ha.1; have a1 := ha.2; have b0 := hb.1; have b1 := hb.2
  unfold antiquaryref05_Low.f low
  rw [w64 (x := 4 * a) (by omega) (by omega), w64 (x := 4 * a * b) (by omega) (by omega), w64 (x := a + b) (by omega) (by omega)]
  by_cases hm : m = 2
  · refine ev_pos hm (ev_bind (isqrt_ev h0 (by omega)) (ev_some ?_))
    rw [if_pos hm, w64 (by omega) (by omega)]
  · refine ev_neg hm ?_
    rw [if_neg hm]
    by_cases h : a < b
    · exact ev_pos h (ev_some (by rw [if_pos h, w64 (by omega) (by omega)]))
    · exact ev_neg h (ev_some (by rw [if_neg h, w64 (by omega) (by omega)]))
theorem high_ev (m : Int) {a b : Int} (ha : isKey a) (hb : isKey b) : Ev (fun k => antiquaryref05_High.f k m a b) (high m a b) := by
  have h0 := mul4_nonneg ha hb
  have h1 := mul4_le ha hb
  have r0 := root_nonneg (4 * a * b)
  have r1 := root4_le ha hb
  have a0 := ha.1; have a1 := ha.2; have b0 := hb.1; have b1 := hb.2
  unfold antiquaryref05_High.f high
  rw [w64 (x := 4 * a) (by omega) (by omega), w64 (x := 4 * a * b) (by omega) (by omega), w64 (x := a + b) (by omega) (by omega)]
  by_cases hm : m = 2
  · refine ev_pos hm (ev_bind (isqrt_ev h0 (by omega)) ?_)
    rw [if_pos hm, w64 (by omega) (by omega)]
    exact ev_ite (fun _ => ev_some rfl) (fun _ => ev_some rfl)
  · refine ev_neg hm ?_
    rw [if_neg hm]
    exact ev_ite (fun _ => ev_some rfl) (fun _ => ev_some rfl)
end Go.Proofs.Ytgpdfalopdhjlaa.Low05
end
section
set_option linter.unusedVariables false
namespace Go.Proofs.Ytgpdfalopdhjlaa.EvRead
open Go.RowKit Go.Proofs.Ytgpdfalopdhjlaa.Q Go.Proofs.YtgpdfalopdhjlaaW.PrintWords Go.Proofs.YtgpdfalopdhjlaaW.PrintMore Plain Go.Proofs.Ytgpdfalopdhjlaa.Book Go.Proofs.Ytgpdfalopdhjlaa.Ev08
theorem table_rows {d : Int} {cuts : List Int} {words : List (List (List Int))} {m : Int} {v : List Int} (hb : bookOk d cuts words) : ∀ r ∈ tableOf d cuts words m v (List.finRange cuts.length), r.length ≤ 4611686018427387904 := by
  intro r hr
  obtain ⟨i, _, rfl⟩ := List.mem_map.1 hr
  have := (hb.2.2 i.val i.isLt).1.2
  unfold tableRow
  rw [List.length_map]
  omega
/-- what a vector and a codebook that is right are asked for -/
theorem read_is {d : Int} {cuts : List Int} {words : List (List (List Int))} {m : Int} {v : List Int} (hm : 1 ≤ m ∧ m ≤ 3) (hb : bookOk d cuts words) (hs : isVec v) (hv : (v.length : Int) = d) : readOk d cuts words m v := ⟨hm, hb, hs, hv⟩
theorem part_is {d : Int} {cuts : List Int} {words : List (List (List Int))} {v : List Int} (hb : bookOk d cuts words) (hv : (v.length : Int) = d) {i : Nat} (hi : i < cuts.length) : antiquaryref08_Part.f d cuts words (i : Int) v = some (partOf v (Q.partAt cuts d i)) := by
  have hc := cutAt_range hb.1 hi
  have hl := hb.1.2.1
  unfold antiquaryref08_Part.f
  rw [if_pos (by omega), if_pos (by omega), end_is hi (by omega)]
  rw [partAt_cut hi]
  have e : rd cuts (i : Int) = cutAt cuts d i := by unfold cutAt; rw [if_pos hi]
  simp only [Option.bind_some]
  rw [e, if_pos (by omega), if_pos (by omega), if_pos (by omega)]
  rfl
/-- the first of the words that are nearest, among the first so many -/
def nearIdx (m : Int) (ws : List (List Int)) (u : List Int) : Nat → Nat
  | 0 => 0
  | n + 1 => if key m (rd_L1 ws (n : Int)) u < key m (rd_L1 ws (nearIdx m ws u n : Int)) u then n else nearIdx m ws u n
theorem nearIdx_lt (m : Int) (ws : List (List Int)) (u : List Int) : ∀ n, 0 < n → nearIdx m ws u n < n
  | 1, _ => by rw [nearIdx]; split <;> simp [nearIdx]
  | n + 2, _ => by
    have := nearIdx_lt m ws u (n + 1) (by omega)
    rw [nearIdx]
    split <;> omega
theorem nearW_append (m : Int) (u : List Int) : ∀ (xs ys : List (List Int)) (i : Nat) (b : Int × Int), nearW m u (xs ++ ys) i b = nearW m u ys (i + xs.length) (nearW m u xs i b)
  | [], ys, i, b => rfl
  | x :: xs, ys, i, b => by
    rw [List.cons_append, nearW, nearW, nearW_append m u xs ys (i + 1), List.length_cons, show i + 1 + xs.length = i + (xs.length + 1) by omega]
theorem nearIdx_is (m : Int) {ws : List (List Int)} {u : List Int} (ha : ∀ w ∈ ws, alike w u) : ∀ n, n < ws.length → nearW m u (ws.take (n + 1)) 0 (0, 134217729) = ((nearIdx m ws u (n + 1) : Int), key m (rd_L1 ws (nearIdx m ws u (n + 1) : Int)) u)
  | 0, h => by
    have hm := ha _ (List.getElem_mem h)
    have hk := key_isKey m hm
    unfold isKey at hk
    rw [List.take_succ_eq_append_getElem h, List.take_zero, List.nil_append, nearW, nearW]
    dsimp only
    rw [if_pos (by omega)]
    have e : nearIdx m ws u (0 + 1) = 0 := by rw [nearIdx]; split <;> rfl
    rw [e, rdn_L1 ws 0 h]
  | n + 1, h => by
    have ih := nearIdx_is m ha n (by omega)
    rw [List.take_succ_eq_append_getElem h, nearW_append, ih, nearW, nearW, List.length_take, Nat.min_eq_left (by omega)]
    dsimp only
    rw [show nearIdx m ws u (n + 1 + 1) = if key m (rd_L1 ws ((n + 1 : Nat) : Int)) u < key m (rd_L1 ws (nearIdx m ws u (n + 1) : Int)) u then n + 1 else nearIdx m ws u (n + 1) from rfl, rdn_L1 ws (n + 1) h]
    split
    · rw [rdn_L1 ws (n + 1) h, Nat.zero_add]
    · rfl
theorem nearest_idx (m : Int) {ws : List (List Int)} {u : List Int} (h0 : 0 < ws.length) (ha : ∀ w ∈ ws, alike w u) : (nearestOf m ws u).1 = (nearIdx m ws u ws.length : Int) := by
  have h := nearIdx_is m ha (ws.length - 1) (by omega)
  rw [show ws.length - 1 + 1 = ws.length by omega, List.take_of_length_le (Nat.le_refl _)] at h
  rw [nearestOf, h]
theorem encode_take (d : Int) (cuts : List Int) (words : List (List (List Int))) (m : Int) (v : List Int) {i : Nat} (hi : i < cuts.length) : encodeOf d cuts words m v ((List.finRange cuts.length).take (i + 1)) = encodeOf d cuts words m v ((List.finRange cuts.length).take i) ++ [(encodeAt d cuts words m v i).1] := by
  rw [fin_take hi]
  unfold encodeOf
  rw [List.map_append]
  rfl
theorem rencode_ev {d : Int} {cuts : List Int} {words : List (List (List Int))} {m : Int} {v : List Int} (hb : bookOk d cuts words) (hs : isVec v) (hv : (v.length : Int) = d) : Ev (fun k => antiquaryref08_Encode.f k d cuts words m v) (encodeOf d cuts words m v (List.finRange cuts.length)) := by
  have hcl := hb.1.2.1
  have hwl := hb.2.1
  refine ev_count0 (G := fun i k => antiquaryref08_Encode.l0 k m v (encodeOf d cuts words m v ((List.finRange cuts.length).take i)) (i : Int) d cuts words) (n := cuts.length) (fun i hi h => ?_) ?_
  · refine ev_succ ?_
    simp only [antiquaryref08_Encode.l0]
    refine ev_pos (by omega) ?_
    have hlen := (hb.2.2 i hi).1
    have ha := book_alike hb hi hv hs
    refine ev_count0 (G := fun j k => antiquaryref08_Encode.l1 k m v (encodeOf d cuts words m v ((List.finRange cuts.length).take i)) (i : Int) (nearIdx m (wordsAt words i) (partOf v (Q.partAt cuts d i)) j : Int) (j : Int) d cuts words) (n := (wordsAt words i).length) (fun j hj h2 => ?_) ?_
    · have hnl : nearIdx m (wordsAt words i) (partOf v (Q.partAt cuts d i)) j < (wordsAt words i).length := by
        rcases Nat.eq_zero_or_pos j with h3 | h3
        · rw [h3]; simp [nearIdx]; omega
        · have := nearIdx_lt m (wordsAt words i) (partOf v (Q.partAt cuts d i)) j h3; omega
      refine ev_succ ?_
      simp only [antiquaryref08_Encode.l1]
      rw [rd_L2_words]
      refine ev_pos (by omega) (ev_pos (by omega) (ev_pos (by omega) (ev_pos (by omega) ?_)))
      refine ev_ob (part_is hb hv hi) (ev_bind (Ref04.key_ev m (ha _ (rd_mem_L1 _ (by omega) (by omega)))) (ev_pos (by omega) (ev_pos (by omega) (ev_ob (part_is hb hv hi) (ev_bind (Ref04.key_ev m (ha _ (rd_mem_L1 _ (by omega) (by omega)))) ?_)))))
      rw [wsuc j (by omega)]
      have hn : nearIdx m (wordsAt words i) (partOf v (Q.partAt cuts d i)) (j + 1) = if key m (rd_L1 (wordsAt words i) (j : Int)) (partOf v (Q.partAt cuts d i)) < key m (rd_L1 (wordsAt words i) (nearIdx m (wordsAt words i) (partOf v (Q.partAt cuts d i)) j : Int)) (partOf v (Q.partAt cuts d i)) then j else nearIdx m (wordsAt words i) (partOf v (Q.partAt cuts d i)) j := rfl
      by_cases c1 : key m (rd_L1 (wordsAt words i) (j : Int)) (partOf v (Q.partAt cuts d i)) < key m (rd_L1 (wordsAt words i) (nearIdx m (wordsAt words i) (partOf v (Q.partAt cuts d i)) j : Int)) (partOf v (Q.partAt cuts d i))
      · rw [hn, if_pos c1] at h2
        exact ev_pos c1 h2
      · rw [hn, if_neg c1] at h2
        exact ev_neg c1 h2
    · refine ev_succ ?_
      simp only [antiquaryref08_Encode.l1]
      rw [rd_L2_words]
      refine ev_pos (by omega) (ev_pos (by omega) (ev_neg (by omega) (ev_pos ?_ ?_)))
      · unfold encodeOf; rw [List.length_map, List.length_take]; omega
      · rw [wsuc i (by omega), ← nearest_idx m (by omega) ha]
        have e := encode_take d cuts words m v hi
        unfold encodeAt at e
        rw [← e]
        exact h
  · refine ev_succ ?_
    simp only [antiquaryref08_Encode.l0]
    exact ev_neg (by omega) (ev_some (by rw [List.take_of_length_le (by simp)]))
theorem table_take (d : Int) (cuts : List Int) (words : List (List (List Int))) (m : Int) (v : List Int) {i : Nat} (hi : i < cuts.length) : tableOf d cuts words m v ((List.finRange cuts.length).take (i + 1)) = tableOf d cuts words m v ((List.finRange cuts.length).take i) ++ [tableRow d cuts words m v i] := by
  rw [fin_take hi]
  unfold tableOf
  rw [List.map_append]
  rfl
theorem row_take (d : Int) (cuts : List Int) (words : List (List (List Int))) (m : Int) (v : List Int) (i : Nat) {j : Nat} (hj : j < (wordsAt words i).length) : (tableRow d cuts words m v i).take (j + 1) = (tableRow d cuts words m v i).take j ++ [key m (rd_L1 (wordsAt words i) (j : Int)) (partOf v (Q.partAt cuts d i))] := by
  rw [List.take_succ_eq_append_getElem (by unfold tableRow; rw [List.length_map]; exact hj), rdn_L1 _ j hj]
  unfold tableRow
  rw [List.getElem_map]
theorem rtable_ev {d : Int} {cuts : List Int} {words : List (List (List Int))} {m : Int} {v : List Int} (hb : bookOk d cuts words) (hs : isVec v) (hv : (v.length : Int) = d) : Ev (fun k => antiquaryref08_Table.f k d cuts words m v) (tableOf d cuts words m v (List.finRange cuts.length)) := by
  have hcl := hb.1.2.1
  have hwl := hb.2.1
  refine ev_count0 (G := fun i k => antiquaryref08_Table.l0 k m v (tableOf d cuts words m v ((List.finRange cuts.length).take i)) (i : Int) d cuts words) (n := cuts.length) (fun i hi h => ?_) ?_
  · refine ev_succ ?_
    simp only [antiquaryref08_Table.l0]
    refine ev_pos (by omega) ?_
    have hlen := (hb.2.2 i hi).1
    have ha := book_alike hb hi hv hs
    refine ev_count0 (G := fun j k => antiquaryref08_Table.l1 k m v (tableOf d cuts words m v ((List.finRange cuts.length).take i)) (i : Int) ((tableRow d cuts words m v i).take j) (j : Int) d cuts words) (n := (wordsAt words i).length) (fun j hj h2 => ?_) ?_
    · refine ev_succ ?_
      simp only [antiquaryref08_Table.l1]
      rw [rd_L2_words]
      refine ev_pos (by omega) (ev_pos (by omega) (ev_pos (by omega) (ev_pos (by omega) ?_)))
      refine ev_ob (part_is hb hv hi) (ev_bind (Ref04.key_ev m (ha _ (rd_mem_L1 _ (by omega) (by omega)))) (ev_pos (by rw [List.length_take]; omega) ?_))
      rw [wsuc j (by omega), ← row_take _ _ _ _ _ _ hj]
      exact h2
    · refine ev_succ ?_
      simp only [antiquaryref08_Table.l1]
      rw [rd_L2_words]
      refine ev_pos (by omega) (ev_pos (by omega) (ev_neg (by omega) (ev_pos ?_ ?_)))
      · unfold tableOf; rw [List.length_map, List.length_take]; omega
      · rw [wsuc i (by omega), List.take_of_length_le (l := tableRow d cuts words m v i) (by unfold tableRow; rw [List.length_map]; exact Nat.le_refl _), ← table_take _ _ _ _ _ hi]
        exact h
  · refine ev_succ ?_
    simp only [antiquaryref08_Table.l0]
    exact ev_neg (by omega) (ev_some (by rw [List.take_of_length_le (by simp)]))
theorem rsum_ev {m : Int} {t : List (List Int)} {c : List Int} (h : sumOk m t c) : Ev (fun k => antiquaryref08_Sum.f k m t c) (sumUpTo m t c c.length) := by
  refine ev_count0 (G := fun i k => antiquaryref08_Sum.l0 k m t c (sumUpTo m t c i) (i : Int)) (n := c.length) (fun i hi h2 => ?_) ?_
  · have ho := h.2.2 i hi
    have hb := sum_bound h i (by omega)
    have hl := h.2.1
    have e : sumUpTo m t c (i + 1) = join m (sumUpTo m t c i) (sumAt t c i) := rfl
    refine ev_succ ?_
    simp only [antiquaryref08_Sum.l0]
    refine ev_pos (by omega) (ev_pos (by omega) (ev_pos (by omega) (ev_pos ho.1.1 (ev_pos ho.1.2 ?_))))
    rw [wsuc i (by omega), show rd (rd_L1 t (i : Int)) (rd c (i : Int)) = sumAt t c i from rfl]
    by_cases c1 : m = 3
    · refine ev_pos c1 ?_
      rw [e, join, if_neg (by omega)] at h2
      by_cases c2 : sumAt t c i > sumUpTo m t c i
      · rw [if_pos (by omega)] at h2
        exact ev_pos c2 h2
      · rw [if_neg (by omega)] at h2
        exact ev_neg c2 h2
    · refine ev_neg c1 ?_
      rw [e, join, if_pos (by have := h.1; omega)] at h2
      rw [Plain.w64 (by omega) (by omega)]
      exact h2
  · refine ev_succ ?_
    simp only [antiquaryref08_Sum.l0]
    exact ev_neg (by omega) (ev_some rfl)
theorem bounds_is (m : Int) {a b : Int} (ha : isKey a) (hb : isKey b) : code_Bounds.f m a b = some (low m a b, high m a b) := by
  unfold code_Bounds.f metric_Low.f metric_High.f
  rw [if_pos ⟨ha, hb⟩, if_pos ⟨ha, hb⟩]
  rfl
theorem rbounds_ev (m : Int) {a b : Int} (ha : isKey a) (hb : isKey b) : Ev (fun k => antiquaryref08_Bounds.f k m a b) (low m a b, high m a b) :=
  ev_bind (Low05.low_ev m ha hb) (ev_bind (Low05.high_ev m ha hb) (ev_some rfl))
end Go.Proofs.Ytgpdfalopdhjlaa.EvRead
end
section
set_option linter.unusedVariables false
namespace Go.Proofs.Ytgpdfalopdhjlaa.Sane
open Go.RowKit Go.Proofs.Ytgpdfalopdhjlaa.Q Go.Proofs.YtgpdfalopdhjlaaW.PrintWords Plain
theorem sanity_is : antiquarylaw08_sanity.f 60 = some true := by decide +kernel
theorem sanity_ev : Ev (fun k => antiquarylaw08_sanity.f k) true := ev_ofx (fun k => antiquarylaw08_sanity.mono k) ⟨60, sanity_is⟩
end Go.Proofs.Ytgpdfalopdhjlaa.Sane
end
section
set_option linter.unusedVariables false
namespace Go.Proofs.Ytgpdfalopdhjlaa.Pure
open Go.RowKit Go.Proofs.Ytgpdfalopdhjlaa.Q Go.Proofs.YtgpdfalopdhjlaaW.PrintWords Plain Go.Proofs.Ytgpdfalopdhjlaa.Book Go.Proofs.Ytgpdfalopdhjlaa.Ev08 Go.Proofs.Ytgpdfalopdhjlaa.EvRead
theorem CodeTablesAsSpecified (d : Int) (cuts : List Int) (words : List (List (List Int))) (m : Int) (v q : List Int) (key residual : Int) (_ : cuts.length ≤ Go.maxLen) (_ : words.length ≤ Go.maxLen) (hv : v.length ≤ Go.maxLen) (hq : q.length ≤ Go.maxLen) :
    ∃ k, antiquarylaw08_CodeTablesAsSpecified.f k d cuts words m v q key residual = some true := by
  unfold Go.maxLen at hv hq
  refine ev_ex ?_
  have other : Ev (fun k => antiquarylaw08_CodeTablesAsSpecified.j0 k m v q key residual true d cuts words) true := by
    refine ev_succ ?_
    simp only [antiquarylaw08_CodeTablesAsSpecified.j0]
    exact ev_pos trivial (ev_bind Sane.sanity_ev (ev_some rfl))
  refine ev_bind (right_ev d cuts words m v q (by omega) (by omega)) ?_
  by_cases h3 : rightOk d cuts words m v q
  rotate_left
  · exact ev_neg (by simpa using h3) other
  refine ev_pos (by simpa using h3) ?_
  by_cases k1 : key < 0
  · exact ev_pos k1 other
  refine ev_neg k1 ?_
  by_cases k2 : key > 134217728
  · exact ev_pos k2 other
  refine ev_neg k2 ?_
  by_cases k3 : residual < 0
  · exact ev_pos k3 other
  refine ev_neg k3 ?_
  by_cases k4 : residual > 134217728
  · rw [decide_eq_true k4]; exact other
  rw [decide_eq_false k4]
  obtain ⟨h1, hb, hm, ⟨hs, hs2⟩, hvl, hql⟩ := h3
  have hk : isKey key := ⟨by omega, by omega⟩
  have hk2 : isKey residual := ⟨by omega, by omega⟩
  have hr := read_is hm hb hs2 hql
  have hc := encode_code m hb hs hvl
  have hso := sum_ok hm hb hc hs2 hql
  have hcl := hb.1.2.1
  have htl := table_length d cuts words m q
  refine ev_succ ?_
  simp only [antiquarylaw08_CodeTablesAsSpecified.j0]
  refine ev_neg (by simp) (ev_bind (rtable_ev hb hs2 hql) (ev_bind (rencode_ev hb hs hvl) (ev_ob (bounds_is m hk hk2) (ev_bind (rbounds_ev m hk hk2) (ev_bind Sane.sanity_ev (ev_pos rfl ?_))))))
  refine ev_ob (show code_Table.f d cuts words m q = some _ from if_pos hr) (ev_bind (same_rows _ (by omega) (table_rows hb)) (ev_pos rfl ?_))
  exact ev_ob (show code_Sum.f m _ _ = some _ from if_pos hso) (ev_bind (rsum_ev hso) (ev_pos rfl (ev_pos rfl (ev_some (by simp)))))
end Go.Proofs.Ytgpdfalopdhjlaa.Pure
end
section
set_option linter.unusedVariables false
namespace Go.Proofs.Ytgpdfalopdhjlaa.Open
open Go.RowKit Go.Proofs.Ytgpdfalopdhjlaa.Q Go.Proofs.YtgpdfalopdhjlaaW.PrintWords Go.Deep
theorem choice {α β : Type} {r : α → β → Prop} (h : ∀ x, ∃ y, r x y) : ∃ f : α → β, ∀ x, r x (f x) := ⟨fun x => Classical.choose (h x), fun x => Classical.choose_spec (h x)⟩
theorem open_rows {H : Type} {enc : TypeId × Value → H} {P : Program} {w : World} {base : Nat} {held : Bool} {t e q : TypeId} {a : Option Addr} {len cap : Nat} {d : DataW H} {ps : List MemPlace}
    (ht : P.underlying t = some (.slice e)) (he : P.underlying e = some (.slice q)) (hq : P.underlying q = some (.int .i64)) (ce : P.cellsOf e = 1) (cq : P.cellsOf q = 1) (h : DataW.Trod enc P w base (fun _ => true) held t (.slice a len cap) d ps) (ty : Nat) :
    ∃ l : List (List Int), l.length = len ∧ len ≤ cap ∧ cap ≤ maxLen ∧ Kd.C (Kd.slice ty (Kd.int .i64)) w a len l ∧ ∀ v ∈ l, v.length ≤ maxLen ∧ ∀ x ∈ v, (Lit.int .i64 x).wf = true := by
  obtain ⟨fuel, hf⟩ := h
  rcases open_int_rows ht he hq ce cq hf with ⟨hcs, _⟩ | ⟨x, len', cap', A, L, C, Z, hcs, _, hl, hm, _, hx⟩
  · simp [Value.cells] at hcs
    obtain ⟨rfl, rfl, rfl⟩ := hcs
    exact ⟨[], rfl, Nat.le_refl _, Nat.zero_le _, Kd.C_nil _ _, by simp⟩
  · simp [Value.cells] at hcs
    obtain ⟨rfl, rfl, rfl⟩ := hcs
    have hlen : ∀ r, r < cap → ((Z r).take (L r)).length = L r := fun r hr => by
      have := hx r hr
      rw [List.length_take]; omega
    refine ⟨(List.range len).map (fun r => (Z r).take (L r)), by simp, hl, hm, ⟨by simp, by have := hm; unfold maxLen at this; omega, fun _ => ⟨x, rfl, fun j p hp => ?_⟩⟩, ?_⟩
    · have hj : j < len := by
        rcases Nat.lt_or_ge j len with h | h
        · exact h
        · rw [List.getElem?_eq_none (by simp; omega)] at hp; cases hp
      rw [List.getElem?_map, List.getElem?_range hj] at hp
      cases hp
      obtain ⟨hc, hLC, hCm, hZ, hwf, hnone, hsome⟩ := hx j (by omega)
      have hL := hlen j (by omega)
      refine ⟨[.slice (A j) (L j) (C j)], rfl, ⟨A j, C j, by rw [hL], by rw [hL]; exact hLC, ?_⟩, fun i u hu => ?_⟩
      · refine ⟨rfl, by rw [hL]; unfold maxLen at hCm; omega, fun hpos => ?_⟩
        cases hA : A j with
        | none =>
          have hp2 : 0 < L j := by rw [← hL]; exact hpos
          have := hnone hA
          omega
        | some a' =>
          refine ⟨a', rfl, fun c p hp => ⟨[.int .i64 p], rfl, ?_, fun i u hu => ?_⟩⟩
          · exact rfl
          · have hc2 : c < L j := by
              have h6 : c < (List.take (L j) (Z j)).length := (List.getElem?_eq_some_iff.1 hp).1
              omega
            match i, hu with
            | 0, hu =>
              cases hu
              have h3 := (hsome a' hA).2 c (by omega)
              have h4 : (Z j).getD c 0 = p := by
                rw [List.getElem?_take, if_pos hc2] at hp
                rw [List.getD_eq_getElem?_getD, hp]; rfl
              rw [h4] at h3
              show w.cell? (a'.add (c * 1 + 0)) = _
              rw [Nat.mul_one]
              exact h3
            | i + 1, hu => simp at hu
      · match i, hu with
        | 0, hu => cases hu; simpa [Kd.slice] using hc
        | i + 1, hu => simp at hu
    · intro v hv
      obtain ⟨r, hr, rfl⟩ := List.mem_map.1 hv
      have hr := List.mem_range.1 hr
      obtain ⟨_, hLC, hCm, hZ, hwf, _⟩ := hx r (by omega)
      exact ⟨by rw [hlen r (by omega)]; omega, fun y hy => hwf y (List.mem_of_mem_take hy)⟩
theorem rows_of {H : Type} {enc : TypeId × Value → H} {P : Program} {w : World} {base fuel : Nat} {held : Bool} {t e q : TypeId} {v : Value} {x : DataW H × List MemPlace}
    (ht : P.underlying t = some (.slice e)) (he : P.underlying e = some (.slice q)) (hq : P.underlying q = some (.int .i64)) (ce : P.cellsOf e = 1) (cq : P.cellsOf q = 1) (h : DataW.trod enc P w base (fun _ => true) held fuel t [v] = some x) (ty : Nat) :
    ∃ (A : Option Addr) (c : Nat) (l : List (List Int)), v = .slice A l.length c ∧ l.length ≤ c ∧ c ≤ maxLen ∧ Kd.C (Kd.slice ty (Kd.int .i64)) w A l.length l ∧ ∀ v ∈ l, v.length ≤ maxLen ∧ ∀ x ∈ v, (Lit.int .i64 x).wf = true := by
  have hv : ∃ A n c, v = .slice A n c := by
    rcases open_slice1 ht ce h with ⟨hcs, _⟩ | ⟨a, len, cap, _, _, _, _, _, hcs, _⟩
    · exact ⟨_, _, _, by simpa using hcs⟩
    · exact ⟨_, _, _, by simpa using hcs⟩
  obtain ⟨A, n, c, rfl⟩ := hv
  obtain ⟨l, hl, h1, h2, h3, h4⟩ := open_rows (d := x.1) (ps := x.2) ht he hq ce cq ⟨fuel, by simpa [Value.cells] using h⟩ ty
  subst hl
  exact ⟨A, c, l, rfl, h1, h2, h3, h4⟩
theorem ints_of {H : Type} {enc : TypeId × Value → H} {P : Program} {w : World} {base fuel : Nat} {held : Bool} {t e : TypeId} {v : Value} {x : DataW H × List MemPlace}
    (ht : P.underlying t = some (.slice e)) (he : P.underlying e = some (.int .i64)) (ce : P.cellsOf e = 1) (h : DataW.trod enc P w base (fun _ => true) held fuel t [v] = some x) :
    ∃ (A : Option Addr) (c : Nat) (l : List Int), v = .slice A l.length c ∧ l.length ≤ c ∧ c ≤ maxLen ∧ Kd.C (Kd.int .i64) w A l.length l ∧ ∀ x ∈ l, (Lit.int .i64 x).wf = true := by
  rcases Go.ChangeShapes.open_ints ht he ce h with ⟨hcs, _⟩ | ⟨a, len, cap, zs, hcs, _, hl, hm, hz, _, hcell, hwz⟩
  · obtain rfl : v = .slice none 0 0 := by simpa using hcs
    exact ⟨none, 0, [], rfl, Nat.le_refl _, Nat.zero_le _, Kd.C_nil _ _, by simp⟩
  · obtain rfl : v = .slice (some a) len cap := by simpa using hcs
    simp only [if_true] at hz
    have hL : (zs.take len).length = len := by rw [List.length_take]; omega
    refine ⟨some a, cap, zs.take len, by rw [hL], by rw [hL]; exact hl, hm, ?_, fun x hx => hwz x (List.mem_of_mem_take hx)⟩
    refine ⟨rfl, by rw [hL]; unfold maxLen at hm; omega, fun _ => ⟨a, rfl, fun c p hp => ⟨[.int .i64 p], rfl, rfl, fun i u hu => ?_⟩⟩⟩
    have hc2 : c < len := by
      have h6 : c < (zs.take len).length := (List.getElem?_eq_some_iff.1 hp).1
      omega
    match i, hu with
    | 0, hu =>
      cases hu
      have h3 := hcell c (by omega)
      have h4 : zs.getD c 0 = p := by
        rw [List.getElem?_take, if_pos hc2] at hp
        rw [List.getD_eq_getElem?_getD, hp]; rfl
      rw [h4] at h3
      show w.cell? (a.add (c * 1 + 0)) = _
      rw [Nat.mul_one]
      exact h3
    | i + 1, hu => simp at hu
theorem rows3_of {H : Type} {enc : TypeId × Value → H} {P : Program} {w : World} {base fuel : Nat} {held : Bool} {t e q r : TypeId} {v : Value} {x : DataW H × List MemPlace}
    (ht : P.underlying t = some (.slice e)) (he : P.underlying e = some (.slice q)) (hq : P.underlying q = some (.slice r)) (hr : P.underlying r = some (.int .i64)) (ce : P.cellsOf e = 1) (cq : P.cellsOf q = 1) (cr : P.cellsOf r = 1)
    (h : DataW.trod enc P w base (fun _ => true) held fuel t [v] = some x) (ty ty2 : Nat) :
    ∃ (A : Option Addr) (c : Nat) (l : List (List (List Int))), v = .slice A l.length c ∧ l.length ≤ c ∧ c ≤ maxLen ∧ Kd.C (Kd.slice ty2 (Kd.slice ty (Kd.int .i64))) w A l.length l ∧ ∀ ws ∈ l, ws.length ≤ maxLen ∧ ∀ v ∈ ws, v.length ≤ maxLen ∧ ∀ x ∈ v, (Lit.int .i64 x).wf = true := by
  rcases open_slice1 ht ce h with ⟨hcs, _⟩ | ⟨a, len, cap, m, n, V, D, Pl, hcs, _, hl, hm, hmm, _, hx⟩
  · obtain rfl : v = .slice none 0 0 := by simpa using hcs
    exact ⟨none, 0, [], rfl, Nat.le_refl _, Nat.zero_le _, Kd.C_nil _ _, by simp⟩
  · obtain rfl : v = .slice (some a) len cap := by simpa using hcs
    simp only [if_true] at hmm
    have each : ∀ i, ∃ y : Option Addr × Nat × List (List Int), i < len → V i = .slice y.1 y.2.2.length y.2.1 ∧ y.2.2.length ≤ y.2.1 ∧ y.2.1 ≤ maxLen ∧ Kd.C (Kd.slice ty (Kd.int .i64)) w y.1 y.2.2.length y.2.2 ∧ ∀ v ∈ y.2.2, v.length ≤ maxLen ∧ ∀ x ∈ v, (Lit.int .i64 x).wf = true := fun i => by
      by_cases hi : i < len
      · obtain ⟨A, c, l, h1⟩ := rows_of he hq hr cq cr (hx i (by omega)).2 ty
        exact ⟨(A, c, l), fun _ => h1⟩
      · exact ⟨(none, 0, []), fun h => absurd h hi⟩
    obtain ⟨f, hf⟩ := choice each
    refine ⟨some a, cap, (List.range len).map (fun i => (f i).2.2), by simp, by simpa using hl, hm, ?_, ?_⟩
    · refine ⟨by simp, by simp; unfold maxLen at hm; omega, fun _ => ⟨a, rfl, fun j p hp => ?_⟩⟩
      have hj : j < len := by
        rcases Nat.lt_or_ge j len with h | h
        · exact h
        · rw [List.getElem?_eq_none (by simp; omega)] at hp; cases hp
      rw [List.getElem?_map, List.getElem?_range hj] at hp
      cases hp
      obtain ⟨e1, e2, e3, e4, _⟩ := hf j hj
      have hc := (hx j (by omega)).1
      rw [e1] at hc
      refine ⟨[.slice (f j).1 (f j).2.2.length (f j).2.1], rfl, ⟨(f j).1, (f j).2.1, rfl, e2, e4⟩, fun i u hu => ?_⟩
      match i, hu with
      | 0, hu => cases hu; simpa [Kd.slice] using hc
      | i + 1, hu => simp at hu
    · intro ws hws
      obtain ⟨i, hi, rfl⟩ := List.mem_map.1 hws
      obtain ⟨_, e2, e3, _, e5⟩ := hf i (List.mem_range.1 hi)
      exact ⟨Nat.le_trans e2 e3, e5⟩
theorem open_book {H : Type} {enc : TypeId × Value → H} {P : Program} {w : World} {base b0 : Nat} {rc : Reach} {held : Bool} {t e1 e2 e3 e4 : TypeId} {f0 f1 f2 : Field} {v : Value} {d : DataW H} {ps : List MemPlace}
    (hs : P.underlying t = some (.struct #[f0, f1, f2])) (hone : oneCellFields P #[f0, f1, f2] = true) (hC : P.cellsOf t = 3) (u0 : P.underlying f0.type = some (.int .i64)) (u1 : P.underlying f1.type = some (.slice e1)) (v1 : P.underlying e1 = some (.int .i64)) (c1 : P.cellsOf e1 = 1)
    (u2 : P.underlying f2.type = some (.slice e2)) (v2 : P.underlying e2 = some (.slice e3)) (v3 : P.underlying e3 = some (.slice e4)) (v4 : P.underlying e4 = some (.int .i64)) (c2 : P.cellsOf e2 = 1) (c3 : P.cellsOf e3 = 1) (c4 : P.cellsOf e4 = 1)
    (hv : Value.okWide P w rc b0 t v) (h : DataW.Trod enc P w base (fun _ => true) held t v d ps) (ty ty2 : Nat) :
    ∃ (n : Int) (A1 : Option Addr) (k1 : Nat) (l1 : List Int) (A2 : Option Addr) (k2 : Nat) (l2 : List (List (List Int))), v = .agg #[.int .i64 n, .slice A1 l1.length k1, .slice A2 l2.length k2] ∧ (Lit.int .i64 n).wf = true ∧
      (l1.length ≤ k1 ∧ k1 ≤ maxLen ∧ Kd.C (Kd.int .i64) w A1 l1.length l1 ∧ ∀ x ∈ l1, (Lit.int .i64 x).wf = true) ∧
      (l2.length ≤ k2 ∧ k2 ≤ maxLen ∧ Kd.C (Kd.slice ty2 (Kd.slice ty (Kd.int .i64))) w A2 l2.length l2 ∧ ∀ ws ∈ l2, ws.length ≤ maxLen ∧ ∀ v ∈ ws, v.length ≤ maxLen ∧ ∀ x ∈ v, (Lit.int .i64 x).wf = true) := by
  obtain ⟨w0, w1, w2, y0, y1, y2, n, rfl, _, _, t0, t1, t2⟩ := Go.Joins.open_agg3 hs hone hC hv h
  obtain ⟨m, hm, _, hw⟩ := DataW.trod_int u0 t0
  obtain rfl : w0 = .int .i64 m := by simpa using hm
  obtain ⟨A1, k1, l1, rfl, h1⟩ := ints_of u1 v1 c1 t1
  obtain ⟨A2, k2, l2, rfl, h2⟩ := rows3_of u2 v2 v3 v4 c2 c3 c4 t2 ty ty2
  exact ⟨m, A1, k1, l1, A2, k2, l2, rfl, hw, h1, h2⟩
end Go.Proofs.Ytgpdfalopdhjlaa.Open
end
