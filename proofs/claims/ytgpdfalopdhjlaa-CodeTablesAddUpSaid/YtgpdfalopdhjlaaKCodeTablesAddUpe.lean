/- A part of the proof of CodeTablesAddUp: what the row's text reaches (packed by a program of this claim out of its texts). -/
import Derived.Test.YtgpdfalopdhjlaaKCodeTablesAddUpd
import Derived.Deep.Matrix
import Derived.Lib.SmallJoins
import Derived.ChangeShapes
section
namespace Go.Proofs.Ytgpdfalopdhjlaa.Q
open Go.RowKit Go.Proofs.YtgpdfalopdhjlaaW.PrintWords Go.Proofs.YtgpdfalopdhjlaaW.PrintLast Go.Proofs.YtgpdfalopdhjlaaW.PrintMore
attribute [local go_sem] max2_int min2_int max_two min_two max_three min_three max_four min_four   -- for this text's walks alone
set_option linter.unusedVariables false
set_option linter.unusedSimpArgs false
def antiquaryref04_Valid.l0 : Nat → List Int → Int → Option (Bool)
  | 0, _, _ => none
  | k + 1, x0, x3 => if x3 < (x0.length : Int) then (if 0 ≤ x3 then (if (rd x0 x3) < (-1000) then (some false) else (if (rd x0 x3) > 1000 then (some false) else (antiquaryref04_Valid.l0 k x0 (wrap64 (x3 + 1))))) else (none)) else (if (x0.length : Int) ≥ 1 then (some (decide ((x0.length : Int) ≤ 32))) else (some false))
def antiquaryref04_Valid.f (k : Nat) (l0 : List Int) : Option (Bool) := antiquaryref04_Valid.l0 k l0 0
set_option maxHeartbeats 8000000 in
set_option maxRecDepth 100000 in
theorem antiquaryref04_Valid.calls (k : Nat) (A0 : Option Addr) (c0 : Nat) (l0 : List Int) (r : Bool) (w : World) (hr0 : Kd.C (Kd.int .i64) w A0 l0.length l0) (hc0 : l0.length ≤ c0) (h : antiquaryref04_Valid.f k l0 = some r) :
    Calls Try.prog 44 #[.slice A0 l0.length c0] w fun e w' => e = .returned (.bool r) ∧ Drawn0 w w' := by
  have HR0 := Aside0.mk hr0
  have HC0 := Aside0.mk hc0
  clear hr0 hc0
  have H : (antiquaryref04_Valid.l0 k l0 0) = some r := h
  clear h
  have H' := Aside0.mk H
  clear H
  go_enter Try.func44, Try.ntmps44
  go_wp2
  go_loopg [3] k (fun kq v3 w' => ∃ (x3_1 : Int), v3 = .int .i64 x3_1 ∧ Aside0 (antiquaryref04_Valid.l0 kq l0 x3_1 = some r) ∧ Aside0 (kq ≤ k) ∧ Drawn0 w w')
  case atStart => exact ⟨(0), (by first | rfl | (simp; done) | (simp [*]; done)), H', ⟨Nat.le_refl _⟩, by repeat (first | exact Drawn0.refl _ | apply Drawn0.step)⟩
  case round =>
    clear H'
    obtain ⟨x3_1, rfl, HA, HK1, ⟨m1, rfl⟩⟩ := hrel
    cases gk with
    | zero => exact absurd HA.out (by simp [antiquaryref04_Valid.l0])
    | succ k1 =>
      have H := HA.out
      clear HA
      simp only [antiquaryref04_Valid.l0] at H
      by_cases c2 : x3_1 < (l0.length : Int)
      · rw [if_pos c2] at H
        have c2b0 : decide (x3_1 < (l0.length : Int)) = true := decide_eq_true c2
        clear c2
        by_cases c3 : 0 ≤ x3_1
        · rw [if_pos c3] at H
          have c3b0 : decide (0 ≤ x3_1) = true := decide_eq_true c3
          clear c3
          by_cases c4 : (rd l0 x3_1) < (-1000)
          · rw [if_pos c4] at H
            have c4b0 : decide ((rd l0 x3_1) < (-1000)) = true := decide_eq_true c4
            clear c4
            obtain rfl := Option.some.inj H
            have p272 : 0 ≤ (x3_1 : Int) := of_decide_eq_true (by first | (with_reducible assumption) | assumption)
            have q272 : x3_1 < (l0.length : Int) := of_decide_eq_true (by first | (with_reducible assumption) | assumption)
            obtain ⟨ad272, e272, hx272_0⟩ := Kd.at_int HR0.out x3_1 p272 q272
            cases e272
            replace p272 := eq_true p272
            replace q272 := eq_true q272
            go_wp2
            go_ret
            exact ⟨by first | rfl | (simp; done) | (simp [*]; done), by repeat (first | exact Drawn0.refl _ | apply Drawn0.step)⟩
          · rw [if_neg c4] at H
            have c4b0 : decide ((rd l0 x3_1) < (-1000)) = false := decide_eq_false c4
            clear c4
            by_cases c5 : (rd l0 x3_1) > 1000
            · rw [if_pos c5] at H
              have c5b0 : decide (1000 < (rd l0 x3_1)) = true := decide_eq_true c5
              clear c5
              obtain rfl := Option.some.inj H
              have p272 : 0 ≤ (x3_1 : Int) := of_decide_eq_true (by first | (with_reducible assumption) | assumption)
              have q272 : x3_1 < (l0.length : Int) := of_decide_eq_true (by first | (with_reducible assumption) | assumption)
              obtain ⟨ad272, e272, hx272_0⟩ := Kd.at_int HR0.out x3_1 p272 q272
              cases e272
              replace p272 := eq_true p272
              replace q272 := eq_true q272
              have p273 : 0 ≤ (x3_1 : Int) := of_decide_eq_true (by first | (with_reducible assumption) | assumption)
              have q273 : x3_1 < (l0.length : Int) := of_decide_eq_true (by first | (with_reducible assumption) | assumption)
              obtain ⟨ad273, e273, hx273_0⟩ := Kd.at_int HR0.out x3_1 p273 q273
              obtain rfl : ad272 = ad273 := (by injection e273)
              replace p273 := eq_true p273
              replace q273 := eq_true q273
              go_wp2
              go_ret
              exact ⟨by first | rfl | (simp; done) | (simp [*]; done), by repeat (first | exact Drawn0.refl _ | apply Drawn0.step)⟩
            · rw [if_neg c5] at H
              have c5b0 : decide (1000 < (rd l0 x3_1)) = false := decide_eq_false c5
              clear c5
              have H' := Aside0.mk H
              clear H
              have p272 : 0 ≤ (x3_1 : Int) := of_decide_eq_true (by first | (with_reducible assumption) | assumption)
              have q272 : x3_1 < (l0.length : Int) := of_decide_eq_true (by first | (with_reducible assumption) | assumption)
              obtain ⟨ad272, e272, hx272_0⟩ := Kd.at_int HR0.out x3_1 p272 q272
              cases e272
              replace p272 := eq_true p272
              replace q272 := eq_true q272
              have p273 : 0 ≤ (x3_1 : Int) := of_decide_eq_true (by first | (with_reducible assumption) | assumption)
              have q273 : x3_1 < (l0.length : Int) := of_decide_eq_true (by first | (with_reducible assumption) | assumption)
              obtain ⟨ad273, e273, hx273_0⟩ := Kd.at_int HR0.out x3_1 p273 q273
              obtain rfl : ad272 = ad273 := (by injection e273)
              replace p273 := eq_true p273
              replace q273 := eq_true q273
              go_wp2
              go_roundg k1
              case measure => have := HK1.out; omega
              case rel => exact ⟨(wrap64 (x3_1 + 1)), (by first | rfl | (simp; done) | (simp [*]; done)), H', ⟨by have := HK1.out; omega⟩, by repeat (first | exact Drawn0.refl _ | apply Drawn0.step)⟩
        · rw [if_neg c3] at H
          exact absurd H (by simp)
      · rw [if_neg c2] at H
        have c2b0 : decide (x3_1 < (l0.length : Int)) = false := decide_eq_false c2
        clear c2
        by_cases c6 : (l0.length : Int) ≥ 1
        · rw [if_pos c6] at H
          have c6b0 : decide (1 ≤ (l0.length : Int)) = true := decide_eq_true c6
          have c6b1 : decide (1 ≤ l0.length) = true := decide_eq_true (by omega)
          clear c6
          obtain rfl := Option.some.inj H
          go_wp2
          go_ret
          exact ⟨by first | rfl | (simp; done) | (simp [*]; done), by repeat (first | exact Drawn0.refl _ | apply Drawn0.step)⟩
        · rw [if_neg c6] at H
          have c6b0 : decide (1 ≤ (l0.length : Int)) = false := decide_eq_false c6
          have c6b1 : decide (1 ≤ l0.length) = false := decide_eq_false (by omega)
          clear c6
          obtain rfl := Option.some.inj H
          go_wp2
          go_ret
          exact ⟨by first | rfl | (simp; done) | (simp [*]; done), by repeat (first | exact Drawn0.refl _ | apply Drawn0.step)⟩
def antiquaryref08_end.f (l0 : List Int) (a1 : Int) (a2 : Int) : Option (Int) := if (wrap64 (a2 + 1)) < (l0.length : Int) then (if 0 ≤ (wrap64 (a2 + 1)) then (some (rd l0 (wrap64 (a2 + 1)))) else (none)) else (some a1)
set_option maxHeartbeats 8000000 in
set_option maxRecDepth 100000 in
theorem antiquaryref08_end.calls (A0 : Option Addr) (c0 : Nat) (l0 : List Int) (a1 : Int) (a2 : Int) (r : Int) (w : World) (hr0 : Kd.C (Kd.int .i64) w A0 l0.length l0) (hc0 : l0.length ≤ c0) (h : antiquaryref08_end.f l0 a1 a2 = some r) :
    Calls Try.prog 45 #[.slice A0 l0.length c0, .int .i64 a1, .int .i64 a2] w fun e w' => e = .returned (.int .i64 r) ∧ Drawn0 w w' := by
  have HR0 := Aside0.mk hr0
  have HC0 := Aside0.mk hc0
  clear hr0 hc0
  have H : (if (wrap64 (a2 + 1)) < (l0.length : Int) then (if 0 ≤ (wrap64 (a2 + 1)) then (some (rd l0 (wrap64 (a2 + 1)))) else (none)) else (some a1)) = some r := h
  clear h
  by_cases c4 : (wrap64 (a2 + 1)) < (l0.length : Int)
  · rw [if_pos c4] at H
    have c4b0 : decide ((wrap64 (a2 + 1)) < (l0.length : Int)) = true := decide_eq_true c4
    clear c4
    obtain ⟨ji5, hji5⟩ : ∃ j_ : Int, (wrap64 (a2 + 1)) = j_ := ⟨_, rfl⟩
    replace H : (if 0 ≤ (ji5) then (some (rd l0 (ji5))) else (none)) = some r := by first | (rw [hji5] at H; exact H) | (simp only [hji5] at H ⊢; exact H)
    (try rw [hji5] at c4b0)
    have hji5w : (IntKind.i64.wrap (a2 + 1)) = ji5 := (i64_w _).trans hji5
    by_cases c6 : 0 ≤ (ji5)
    · rw [if_pos c6] at H
      have c6b0 : decide (0 ≤ (ji5)) = true := decide_eq_true c6
      clear c6
      obtain rfl := Option.some.inj H
      have p274 : 0 ≤ ((ji5) : Int) := of_decide_eq_true (by first | (with_reducible assumption) | assumption)
      have q274 : (ji5) < (l0.length : Int) := of_decide_eq_true (by first | (with_reducible assumption) | assumption)
      obtain ⟨ad274, e274, hx274_0⟩ := Kd.at_int HR0.out (ji5) p274 q274
      cases e274
      replace p274 := eq_true p274
      replace q274 := eq_true q274
      go_enter Try.func45, Try.ntmps45
      go_wp2
      go_ret
      exact ⟨by first | rfl | (simp; done) | (simp only [← hji5] <;> (first | rfl | simp)) | (simp [*]; done), by repeat (first | exact Drawn0.refl _ | apply Drawn0.step)⟩
    · rw [if_neg c6] at H
      exact absurd H (by simp)
  · rw [if_neg c4] at H
    have c4b0 : decide ((wrap64 (a2 + 1)) < (l0.length : Int)) = false := decide_eq_false c4
    clear c4
    obtain rfl := Option.some.inj H
    go_enter Try.func45, Try.ntmps45
    go_wp2
    go_ret
    exact ⟨by first | rfl | (simp; done) | (simp [*]; done), by repeat (first | exact Drawn0.refl _ | apply Drawn0.step)⟩
end Go.Proofs.Ytgpdfalopdhjlaa.Q
end
section
namespace Go.Proofs.Ytgpdfalopdhjlaa.Q
open Go.RowKit Go.Proofs.YtgpdfalopdhjlaaW.PrintWords Go.Proofs.YtgpdfalopdhjlaaW.PrintLast Go.Proofs.YtgpdfalopdhjlaaW.PrintMore
attribute [local go_sem] max2_int min2_int max_two min_two max_three min_three max_four min_four   -- for this text's walks alone
set_option linter.unusedVariables false
set_option linter.unusedSimpArgs false
mutual
def antiquaryref08_Check.j0 : Nat → Bool → Int → List Int → List (List (List Int)) → Option (Int)
  | 0, _, _, _, _ => none
  | k + 1, x22, x276000, x276001, x276002 => if x22 = true then (some 80) else (antiquaryref08_Check.l0 k 0 x276000 x276001 x276002)
def antiquaryref08_Check.l0 : Nat → Int → Int → List Int → List (List (List Int)) → Option (Int)
  | 0, _, _, _, _ => none
  | k + 1, x4, x276000, x276001, x276002 => if x4 < (x276001.length : Int) then (if 0 ≤ x4 then (if x4 < (x276002.length : Int) then (if ((rd_L2 x276002 x4).length : Int) < 1 then (antiquaryref08_Check.j2 k x4 true x276000 x276001 x276002) else (antiquaryref08_Check.j2 k x4 (decide (((rd_L2 x276002 x4).length : Int) > 256)) x276000 x276001 x276002)) else (none)) else (none)) else (some 0)
def antiquaryref08_Check.j2 : Nat → Int → Bool → Int → List Int → List (List (List Int)) → Option (Int)
  | 0, _, _, _, _, _ => none
  | k + 1, x4, x45, x276000, x276001, x276002 => if x45 = true then (some 80) else (antiquaryref08_Check.l1 k x4 0 x276000 x276001 x276002)
def antiquaryref08_Check.l1 : Nat → Int → Int → Int → List Int → List (List (List Int)) → Option (Int)
  | 0, _, _, _, _, _ => none
  | k + 1, x4, x5, x276000, x276001, x276002 => if 0 ≤ x4 then (if x4 < (x276002.length : Int) then (if x5 < ((rd_L2 x276002 x4).length : Int) then (if 0 ≤ x5 then ((antiquaryref04_Valid.f k (rd_L1 (rd_L2 x276002 x4) x5)).bind fun t282 => (if t282 = true then ((antiquaryref08_end.f x276001 x276000 x4).bind fun t285 => (if x4 < (x276001.length : Int) then (if ((rd_L1 (rd_L2 x276002 x4) x5).length : Int) = (wrap64 (t285 - (rd x276001 x4))) then (antiquaryref08_Check.l1 k x4 (wrap64 (x5 + 1)) x276000 x276001 x276002) else (some 80)) else (none))) else (some 80))) else (none)) else (antiquaryref08_Check.l0 k (wrap64 (x4 + 1)) x276000 x276001 x276002)) else (none)) else (none)
end
def antiquaryref08_Check.f (k : Nat) (a0_0 : Int) (l0_1 : List Int) (l0_2 : List (List (List Int))) : Option (Int) := (antiquaryref08_cut.f k l0_1 a0_0).bind fun t276 => (if t276 = true then (antiquaryref08_Check.j0 k ((l0_2.length : Int) != (l0_1.length : Int)) a0_0 l0_1 l0_2) else (antiquaryref08_Check.j0 k true a0_0 l0_1 l0_2))
set_option maxHeartbeats 8000000 in
set_option maxRecDepth 100000 in
theorem antiquaryref08_Check.calls (k : Nat) (a0_0 : Int) (A0_1 : Option Addr) (c0_1 : Nat) (l0_1 : List Int) (A0_2 : Option Addr) (c0_2 : Nat) (l0_2 : List (List (List Int))) (r : Int) (w : World) (hr0_1 : Kd.C (Kd.int .i64) w A0_1 l0_1.length l0_1) (hc0_1 : l0_1.length ≤ c0_1) (hr0_2 : Kd.C (Kd.slice 22 (Kd.slice 3 (Kd.int .i64))) w A0_2 l0_2.length l0_2) (hc0_2 : l0_2.length ≤ c0_2) (h : antiquaryref08_Check.f k a0_0 l0_1 l0_2 = some r) :
    Calls Try.prog 13 #[.agg #[.int .i64 a0_0, .slice A0_1 l0_1.length c0_1, .slice A0_2 l0_2.length c0_2]] w fun e w' => e = .returned (.int .i64 r) ∧ Below w.heap.size w w' := by
  have hu25 := Try.underlying25
  have HR0_1 := Aside0.mk hr0_1
  have HC0_1 := Aside0.mk hc0_1
  clear hr0_1 hc0_1
  have HR0_2 := Aside0.mk hr0_2
  have HC0_2 := Aside0.mk hc0_2
  clear hr0_2 hc0_2
  have HB := Aside0.mk (Below.refl w.heap.size w)
  have H : ((antiquaryref08_cut.f k l0_1 a0_0).bind fun t276 => (if t276 = true then (antiquaryref08_Check.j0 k ((l0_2.length : Int) != (l0_1.length : Int)) a0_0 l0_1 l0_2) else (antiquaryref08_Check.j0 k true a0_0 l0_1 l0_2))) = some r := h
  clear h
  replace H := Option.bind_eq_some_iff.mp H
  obtain ⟨t276, A20, H⟩ := H
  replace H : (if t276 = true then (antiquaryref08_Check.j0 k ((l0_2.length : Int) != (l0_1.length : Int)) a0_0 l0_1 l0_2) else (antiquaryref08_Check.j0 k true a0_0 l0_1 l0_2)) = some r := H
  have A2 := Aside0.mk A20
  clear A20
  have HC3 := Aside0.mk H
  clear H
  go_enter Try.func13, Try.ntmps13
  go_upto_region 2 with (first | ((with_reducible refine gate_dst (N := 1) rfl ?_); (try (refine gate_guard (by rfl) ?_; dsimp only)); refine box_event ?hg (N := 1) ?hd (cs := #[.int .i64 a0_0, .slice A0_1 l0_1.length c0_1, .slice A0_2 l0_2.length c0_2]) (t := 25) ?hr ?_; (case hd => rfl); (case hg => rfl); (case hr => first | (go_simp; done) | (go_simp; rfl)); intro gb275 hg w4 hbox hb; have n0_ := Aside0.mk (below_step (by repeat (first | (with_reducible first | exact HB.out | apply below_alloc | apply pw_below_drewN | apply below_drew1) | exact HB.out)) hb); have n1_ := Aside0.mk (hbox); have n2_ := Aside0.mk ((by rw [hg]; exact (below_size (by repeat (first | (with_reducible first | exact HB.out | apply below_alloc | apply pw_below_drewN | apply below_drew1) | exact HB.out))) : w.heap.size ≤ gb275)); have n3_ := Aside0.mk ((by rw [hg]; exact (below_size (by repeat (first | (with_reducible first | exact HB.out | apply below_alloc | apply pw_below_drewN | apply below_drew1) | exact HB.out))) : w.heap.size ≤ gb275)); clear HB; have HB := n0_; have BK275 := n1_; have GW275 := n2_; have GE275 := n3_; clear n0_ n1_ n2_ n3_; clear hb hbox hg; have hcz5_0 : w4.cell? ⟨gb275, 0, none⟩ = some (.int .i64 a0_0) := (blk_cell BK275.out 0).trans rfl; have hcz5_1 : w4.cell? ⟨gb275, 1, none⟩ = some (.slice A0_1 l0_1.length c0_1) := (blk_cell BK275.out 1).trans rfl; have hcz5_2 : w4.cell? ⟨gb275, 2, none⟩ = some (.slice A0_2 l0_2.length c0_2) := (blk_cell BK275.out 2).trans rfl; have hfz5_0 := blk_frozen BK275.out 0; have hfz5_1 := blk_frozen BK275.out 1; have hfz5_2 := blk_frozen BK275.out 2) | (go_at_call 43; (with_reducible refine (antiquaryref08_cut.calls k _ _ l0_1 a0_0 t276 _ ?side1 ?side2 A2.out).mono ?_); (case side1 => repeat (first | exact (Kd.C_below HR0_1.out HB.out) | (with_reducible refine Kd.C_alloc ?_ _) | (with_reducible refine Kd.C_drewN ?_ _) | (with_reducible refine Kd.C_drew ?_))); (case side2 => exact HC0_1.out); rintro e w' ⟨rfl, ⟨nd, rfl⟩⟩; (try first | exact ⟨rfl, _, World.drewN_drewN _ _ _⟩ | exact ⟨rfl, _, Eq.trans (World.drewN_drewN _ _ _) (congrArg (World.drewN _) (Nat.add_assoc _ _ _))⟩)))
  repeat (go_quiet (first | ((with_reducible refine gate_dst (N := 1) rfl ?_); (try (refine gate_guard (by rfl) ?_; dsimp only)); refine box_event ?hg (N := 1) ?hd (cs := #[.int .i64 a0_0, .slice A0_1 l0_1.length c0_1, .slice A0_2 l0_2.length c0_2]) (t := 25) ?hr ?_; (case hd => rfl); (case hg => rfl); (case hr => first | (go_simp; done) | (go_simp; rfl)); intro gb275 hg w4 hbox hb; have n0_ := Aside0.mk (below_step (by repeat (first | (with_reducible first | exact HB.out | apply below_alloc | apply pw_below_drewN | apply below_drew1) | exact HB.out)) hb); have n1_ := Aside0.mk (hbox); have n2_ := Aside0.mk ((by rw [hg]; exact (below_size (by repeat (first | (with_reducible first | exact HB.out | apply below_alloc | apply pw_below_drewN | apply below_drew1) | exact HB.out))) : w.heap.size ≤ gb275)); have n3_ := Aside0.mk ((by rw [hg]; exact (below_size (by repeat (first | (with_reducible first | exact HB.out | apply below_alloc | apply pw_below_drewN | apply below_drew1) | exact HB.out))) : w.heap.size ≤ gb275)); clear HB; have HB := n0_; have BK275 := n1_; have GW275 := n2_; have GE275 := n3_; clear n0_ n1_ n2_ n3_; clear hb hbox hg; have hcz5_0 : w4.cell? ⟨gb275, 0, none⟩ = some (.int .i64 a0_0) := (blk_cell BK275.out 0).trans rfl; have hcz5_1 : w4.cell? ⟨gb275, 1, none⟩ = some (.slice A0_1 l0_1.length c0_1) := (blk_cell BK275.out 1).trans rfl; have hcz5_2 : w4.cell? ⟨gb275, 2, none⟩ = some (.slice A0_2 l0_2.length c0_2) := (blk_cell BK275.out 2).trans rfl; have hfz5_0 := blk_frozen BK275.out 0; have hfz5_1 := blk_frozen BK275.out 1; have hfz5_2 := blk_frozen BK275.out 2) | (go_at_call 43; (with_reducible refine (antiquaryref08_cut.calls k _ _ l0_1 a0_0 t276 _ ?side1 ?side2 A2.out).mono ?_); (case side1 => repeat (first | exact (Kd.C_below HR0_1.out HB.out) | (with_reducible refine Kd.C_alloc ?_ _) | (with_reducible refine Kd.C_drewN ?_ _) | (with_reducible refine Kd.C_drew ?_))); (case side2 => exact HC0_1.out); rintro e w' ⟨rfl, ⟨nd, rfl⟩⟩; (try first | exact ⟨rfl, _, World.drewN_drewN _ _ _⟩ | exact ⟨rfl, _, Eq.trans (World.drewN_drewN _ _ _) (congrArg (World.drewN _) (Nat.add_assoc _ _ _))⟩))); go_upto_region 2 with (first | ((with_reducible refine gate_dst (N := 1) rfl ?_); (try (refine gate_guard (by rfl) ?_; dsimp only)); refine box_event ?hg (N := 1) ?hd (cs := #[.int .i64 a0_0, .slice A0_1 l0_1.length c0_1, .slice A0_2 l0_2.length c0_2]) (t := 25) ?hr ?_; (case hd => rfl); (case hg => rfl); (case hr => first | (go_simp; done) | (go_simp; rfl)); intro gb275 hg w4 hbox hb; have n0_ := Aside0.mk (below_step (by repeat (first | (with_reducible first | exact HB.out | apply below_alloc | apply pw_below_drewN | apply below_drew1) | exact HB.out)) hb); have n1_ := Aside0.mk (hbox); have n2_ := Aside0.mk ((by rw [hg]; exact (below_size (by repeat (first | (with_reducible first | exact HB.out | apply below_alloc | apply pw_below_drewN | apply below_drew1) | exact HB.out))) : w.heap.size ≤ gb275)); have n3_ := Aside0.mk ((by rw [hg]; exact (below_size (by repeat (first | (with_reducible first | exact HB.out | apply below_alloc | apply pw_below_drewN | apply below_drew1) | exact HB.out))) : w.heap.size ≤ gb275)); clear HB; have HB := n0_; have BK275 := n1_; have GW275 := n2_; have GE275 := n3_; clear n0_ n1_ n2_ n3_; clear hb hbox hg; have hcz5_0 : w4.cell? ⟨gb275, 0, none⟩ = some (.int .i64 a0_0) := (blk_cell BK275.out 0).trans rfl; have hcz5_1 : w4.cell? ⟨gb275, 1, none⟩ = some (.slice A0_1 l0_1.length c0_1) := (blk_cell BK275.out 1).trans rfl; have hcz5_2 : w4.cell? ⟨gb275, 2, none⟩ = some (.slice A0_2 l0_2.length c0_2) := (blk_cell BK275.out 2).trans rfl; have hfz5_0 := blk_frozen BK275.out 0; have hfz5_1 := blk_frozen BK275.out 1; have hfz5_2 := blk_frozen BK275.out 2) | (go_at_call 43; (with_reducible refine (antiquaryref08_cut.calls k _ _ l0_1 a0_0 t276 _ ?side1 ?side2 A2.out).mono ?_); (case side1 => repeat (first | exact (Kd.C_below HR0_1.out HB.out) | (with_reducible refine Kd.C_alloc ?_ _) | (with_reducible refine Kd.C_drewN ?_ _) | (with_reducible refine Kd.C_drew ?_))); (case side2 => exact HC0_1.out); rintro e w' ⟨rfl, ⟨nd, rfl⟩⟩; (try first | exact ⟨rfl, _, World.drewN_drewN _ _ _⟩ | exact ⟨rfl, _, Eq.trans (World.drewN_drewN _ _ _) (congrArg (World.drewN _) (Nat.add_assoc _ _ _))⟩))))
  (try simp only [Act.put, List.setIfInBounds_toArray, List.set_cons_zero, List.set_cons_succ])
  go_cut [22] (fun v22 wc => ∃ (kq : Nat) (x22_2 : Bool), v22 = .bool x22_2 ∧ Aside0 (antiquaryref08_Check.j0 kq x22_2 a0_0 l0_1 l0_2 = some r) ∧ Aside0 (kq ≤ k) ∧ Aside0 (wc.heap[gb275]? = some (.cells #[.int .i64 a0_0, (.slice A0_1 l0_1.length c0_1), (.slice A0_2 l0_2.length c0_2)] 25 (0, 0))) ∧ Aside0 (Below w.heap.size w wc))
  case first =>
    have H := HC3.out
    clear HC3
    by_cases c6 : t276 = true
    · subst c6
      have H1 : (antiquaryref08_Check.j0 k ((l0_2.length : Int) != (l0_1.length : Int)) a0_0 l0_1 l0_2) = some r := by rw [if_pos rfl] at H; exact H
      clear H
      have H := H1
      clear H1
      have H' := Aside0.mk H
      clear H
      have hcz7_0 : w4.cell? ⟨gb275, 0, none⟩ = some (.int .i64 a0_0) := (blk_cell BK275.out 0).trans rfl
      have hcz7_1 : w4.cell? ⟨gb275, 1, none⟩ = some (.slice A0_1 l0_1.length c0_1) := (blk_cell BK275.out 1).trans rfl
      have hcz7_2 : w4.cell? ⟨gb275, 2, none⟩ = some (.slice A0_2 l0_2.length c0_2) := (blk_cell BK275.out 2).trans rfl
      have hfz7_0 := blk_frozen BK275.out 0
      have hfz7_1 := blk_frozen BK275.out 1
      have hfz7_2 := blk_frozen BK275.out 2
      go_wp2
      repeat (go_quiet (fail); try go_wp2)
      go_meet
      case rel => exact ⟨_, (((l0_2.length : Int) != (l0_1.length : Int))), (by first | rfl | (simp; done) | (simp [*]; done)), H', ⟨by first | omega | exact Nat.le_refl _⟩, ⟨by (with_reducible repeat (first | refine blk_drewN ?_ _ | refine blk_drew ?_ | refine blk_alloc ?_ _)); exact BK275.out⟩, ⟨by repeat (first | (with_reducible first | exact HB.out | apply below_alloc | apply pw_below_drewN | apply below_drew1 | refine below_set ?_ GE275.out) | exact HB.out)⟩⟩
    · replace c6 := Bool.eq_false_iff.mpr c6
      subst c6
      have H1 : (antiquaryref08_Check.j0 k true a0_0 l0_1 l0_2) = some r := by rw [if_neg (show ¬ (false = true) by decide)] at H; exact H
      clear H
      have H := H1
      clear H1
      have H' := Aside0.mk H
      clear H
      go_wp2
      repeat (go_quiet (fail); try go_wp2)
      go_meet
      case rel => exact ⟨_, (true), (by first | rfl | (simp; done) | (simp [*]; done)), H', ⟨by first | omega | exact Nat.le_refl _⟩, ⟨by (with_reducible repeat (first | refine blk_drewN ?_ _ | refine blk_drew ?_ | refine blk_alloc ?_ _)); exact BK275.out⟩, ⟨by repeat (first | (with_reducible first | exact HB.out | apply below_alloc | apply pw_below_drewN | apply below_drew1 | refine below_set ?_ GE275.out) | exact HB.out)⟩⟩
  case rest =>
    clear HC3
    try clear c1
    try clear p2
    try clear c6
    try clear hcz5_0
    try clear hcz5_1
    try clear hcz5_2
    try clear hcz7_0
    try clear hcz7_1
    try clear hcz7_2
    try clear hfz5_0
    try clear hfz5_1
    try clear hfz5_2
    try clear hfz7_0
    try clear hfz7_1
    try clear hfz7_2
    obtain ⟨kq, x22_2, rfl, HA, HJ2, BK275, HB⟩ := hcut
    cases kq with
    | zero => exact absurd HA.out (by simp [antiquaryref08_Check.j0])
    | succ kj2 =>
      have H := HA.out
      clear HA
      simp only [antiquaryref08_Check.j0] at H
      by_cases c8 : x22_2 = true
      · subst c8
        have H1 : (some 80) = some r := by rw [if_pos rfl] at H; exact H
        clear H
        have H := H1
        clear H1
        obtain rfl := Option.some.inj H
        go_wp2
        repeat (go_quiet (fail); try go_wp2)
        go_ret
        exact ⟨by first | rfl | (simp [errW_none, errW_some] <;> rfl) | (simp [*, errW_none, errW_some] <;> rfl), by repeat (first | (with_reducible first | exact HB.out | apply below_alloc | apply pw_below_drewN | apply below_drew1 | refine below_set ?_ GE275.out) | exact HB.out)⟩
      · replace c8 := Bool.eq_false_iff.mpr c8
        subst c8
        have H1 : (antiquaryref08_Check.l0 kj2 0 a0_0 l0_1 l0_2) = some r := by rw [if_neg (show ¬ (false = true) by decide)] at H; exact H
        clear H
        have H := H1
        clear H1
        have H' := Aside0.mk H
        clear H
        go_wp2
        repeat (go_quiet (fail); try go_wp2)
        go_loopg [4] kj2 (fun kq v4 w' => ∃ (x4_2 : Int), v4 = .int .i64 x4_2 ∧ Aside0 (antiquaryref08_Check.l0 kq x4_2 a0_0 l0_1 l0_2 = some r) ∧ Aside0 (kq ≤ kj2) ∧ Aside0 (w'.heap[gb275]? = some (.cells #[.int .i64 a0_0, (.slice A0_1 l0_1.length c0_1), (.slice A0_2 l0_2.length c0_2)] 25 (0, 0))) ∧ Aside0 (Below w.heap.size w w'))
        case atStart => exact ⟨(0), (by first | rfl | (simp; done) | (simp [*]; done)), H', ⟨Nat.le_refl _⟩, ⟨by (with_reducible repeat (first | refine blk_drewN ?_ _ | refine blk_drew ?_ | refine blk_alloc ?_ _)); exact BK275.out⟩, ⟨by repeat (first | (with_reducible first | exact HB.out | apply below_alloc | apply pw_below_drewN | apply below_drew1 | refine below_set ?_ GE275.out) | exact HB.out)⟩⟩
        case round =>
          clear H'
          try clear c1
          try clear p2
          try clear c6
          try clear c8
          try clear hcz5_0
          try clear hcz5_1
          try clear hcz5_2
          try clear hcz7_0
          try clear hcz7_1
          try clear hcz7_2
          try clear hfz5_0
          try clear hfz5_1
          try clear hfz5_2
          try clear hfz7_0
          try clear hfz7_1
          try clear hfz7_2
          try clear p2
          obtain ⟨x4_2, rfl, HA, HK2, BK275, HB⟩ := hrel
          cases gk with
          | zero => exact absurd HA.out (by simp [antiquaryref08_Check.l0])
          | succ k2 =>
            have H := HA.out
            clear HA
            simp only [antiquaryref08_Check.l0] at H
            by_cases c9 : x4_2 < (l0_1.length : Int)
            · rw [if_pos c9] at H
              have c9b0 : decide (x4_2 < (l0_1.length : Int)) = true := decide_eq_true c9
              clear c9
              have HC10 := Aside0.mk H
              clear H
              have hcz11_0 : wr.cell? ⟨gb275, 0, none⟩ = some (.int .i64 a0_0) := (blk_cell BK275.out 0).trans rfl
              have hcz11_1 : wr.cell? ⟨gb275, 1, none⟩ = some (.slice A0_1 l0_1.length c0_1) := (blk_cell BK275.out 1).trans rfl
              have hcz11_2 : wr.cell? ⟨gb275, 2, none⟩ = some (.slice A0_2 l0_2.length c0_2) := (blk_cell BK275.out 2).trans rfl
              have hfz11_0 := blk_frozen BK275.out 0
              have hfz11_1 := blk_frozen BK275.out 1
              have hfz11_2 := blk_frozen BK275.out 2
              go_upto_region 7 with (fail)
              repeat (go_quiet (fail); go_upto_region 7 with (fail))
              go_cut [45] (fun v45 wc => ∃ (kq : Nat) (x45_9 : Bool), v45 = .bool x45_9 ∧ Aside0 (antiquaryref08_Check.j2 kq x4_2 x45_9 a0_0 l0_1 l0_2 = some r) ∧ Aside0 (kq ≤ k2) ∧ Aside0 (wc.heap[gb275]? = some (.cells #[.int .i64 a0_0, (.slice A0_1 l0_1.length c0_1), (.slice A0_2 l0_2.length c0_2)] 25 (0, 0))) ∧ Aside0 (Below w.heap.size w wc))
              case first =>
                have H := HC10.out
                clear HC10
                by_cases c12 : 0 ≤ x4_2
                · rw [if_pos c12] at H
                  have c12b0 : decide (0 ≤ x4_2) = true := decide_eq_true c12
                  clear c12
                  (first | rw [c12b0] | (simp only [i64_w, i32_w]; rw [c12b0]) | skip)
                  by_cases c13 : x4_2 < (l0_2.length : Int)
                  · rw [if_pos c13] at H
                    have c13b0 : decide (x4_2 < (l0_2.length : Int)) = true := decide_eq_true c13
                    clear c13
                    by_cases c14 : ((rd_L2 l0_2 x4_2).length : Int) < 1
                    · rw [if_pos c14] at H
                      have c14b0 : decide (((rd_L2 l0_2 x4_2).length : Int) < 1) = true := decide_eq_true c14
                      have c14b1 : decide ((rd_L2 l0_2 x4_2).length < 1) = true := decide_eq_true (by omega)
                      clear c14
                      have H' := Aside0.mk H
                      clear H
                      have hcz15_0 : wr.cell? ⟨gb275, 0, none⟩ = some (.int .i64 a0_0) := (blk_cell BK275.out 0).trans rfl
                      have hcz15_1 : wr.cell? ⟨gb275, 1, none⟩ = some (.slice A0_1 l0_1.length c0_1) := (blk_cell BK275.out 1).trans rfl
                      have hcz15_2 : wr.cell? ⟨gb275, 2, none⟩ = some (.slice A0_2 l0_2.length c0_2) := (blk_cell BK275.out 2).trans rfl
                      have hfz15_0 := blk_frozen BK275.out 0
                      have hfz15_1 := blk_frozen BK275.out 1
                      have hfz15_2 := blk_frozen BK275.out 2
                      have p277 : 0 ≤ (x4_2 : Int) := of_decide_eq_true (by first | (with_reducible assumption) | assumption)
                      have q277 : x4_2 < (l0_2.length : Int) := of_decide_eq_true (by first | (with_reducible assumption) | assumption)
                      obtain ⟨ad277, A277_0, c277_0, e277, hx277_0, hl277_0, hi277_0⟩ := at_L2 HR0_2.out x4_2 p277 q277
                      cases e277
                      replace hx277_0 := (HB.out.cell (World.block_lt_of_cell? w _ hx277_0)).trans hx277_0
                      have HR277_0 := Aside0.mk hi277_0
                      have HC277_0 := Aside0.mk hl277_0
                      clear hi277_0 hl277_0
                      replace p277 := eq_true p277
                      replace q277 := eq_true q277
                      go_wp2
                      repeat (go_quiet (fail); try go_wp2)
                      go_meet
                      case rel => exact ⟨_, (true), (by first | rfl | (simp; done) | (simp [*]; done)), H', ⟨by have := HJ2.out; have := HK2.out; first | omega | exact Nat.le_refl _⟩, ⟨by (with_reducible repeat (first | refine blk_drewN ?_ _ | refine blk_drew ?_ | refine blk_alloc ?_ _)); exact BK275.out⟩, ⟨by repeat (first | (with_reducible first | exact HB.out | apply below_alloc | apply pw_below_drewN | apply below_drew1 | refine below_set ?_ GE275.out) | exact HB.out)⟩⟩
                    · rw [if_neg c14] at H
                      have c14b0 : decide (((rd_L2 l0_2 x4_2).length : Int) < 1) = false := decide_eq_false c14
                      have c14b1 : decide ((rd_L2 l0_2 x4_2).length < 1) = false := decide_eq_false (by omega)
                      clear c14
                      have H' := Aside0.mk H
                      clear H
                      have hcz16_0 : wr.cell? ⟨gb275, 0, none⟩ = some (.int .i64 a0_0) := (blk_cell BK275.out 0).trans rfl
                      have hcz16_1 : wr.cell? ⟨gb275, 1, none⟩ = some (.slice A0_1 l0_1.length c0_1) := (blk_cell BK275.out 1).trans rfl
                      have hcz16_2 : wr.cell? ⟨gb275, 2, none⟩ = some (.slice A0_2 l0_2.length c0_2) := (blk_cell BK275.out 2).trans rfl
                      have hfz16_0 := blk_frozen BK275.out 0
                      have hfz16_1 := blk_frozen BK275.out 1
                      have hfz16_2 := blk_frozen BK275.out 2
                      have p277 : 0 ≤ (x4_2 : Int) := of_decide_eq_true (by first | (with_reducible assumption) | assumption)
                      have q277 : x4_2 < (l0_2.length : Int) := of_decide_eq_true (by first | (with_reducible assumption) | assumption)
                      obtain ⟨ad277, A277_0, c277_0, e277, hx277_0, hl277_0, hi277_0⟩ := at_L2 HR0_2.out x4_2 p277 q277
                      cases e277
                      replace hx277_0 := (HB.out.cell (World.block_lt_of_cell? w _ hx277_0)).trans hx277_0
                      have HR277_0 := Aside0.mk hi277_0
                      have HC277_0 := Aside0.mk hl277_0
                      clear hi277_0 hl277_0
                      replace p277 := eq_true p277
                      replace q277 := eq_true q277
                      have p278 : 0 ≤ (x4_2 : Int) := of_decide_eq_true (by first | (with_reducible assumption) | assumption)
                      have q278 : x4_2 < (l0_2.length : Int) := of_decide_eq_true (by first | (with_reducible assumption) | assumption)
                      obtain ⟨ad278, A278_0, c278_0, e278, hx278_0, hl278_0, hi278_0⟩ := at_L2 HR0_2.out x4_2 p278 q278
                      obtain rfl : ad277 = ad278 := (by injection e278)
                      replace hx278_0 := (HB.out.cell (World.block_lt_of_cell? w _ hx278_0)).trans hx278_0
                      have HR278_0 := Aside0.mk hi278_0
                      have HC278_0 := Aside0.mk hl278_0
                      clear hi278_0 hl278_0
                      replace p278 := eq_true p278
                      replace q278 := eq_true q278
                      have ea_ := Option.some.inj (hx277_0.symm.trans hx278_0)
                      injection ea_ with ea_ en_ ec_
                      subst ea_
                      subst ec_
                      clear en_
                      go_wp2
                      repeat (go_quiet (fail); try go_wp2)
                      go_meet
                      case rel => exact ⟨_, (decide (((rd_L2 l0_2 x4_2).length : Int) > 256)), (by first | rfl | (simp; done) | (simp [*]; done)), H', ⟨by have := HJ2.out; have := HK2.out; first | omega | exact Nat.le_refl _⟩, ⟨by (with_reducible repeat (first | refine blk_drewN ?_ _ | refine blk_drew ?_ | refine blk_alloc ?_ _)); exact BK275.out⟩, ⟨by repeat (first | (with_reducible first | exact HB.out | apply below_alloc | apply pw_below_drewN | apply below_drew1 | refine below_set ?_ GE275.out) | exact HB.out)⟩⟩
                  · rw [if_neg c13] at H
                    exact absurd H (by simp)
                · rw [if_neg c12] at H
                  exact absurd H (by simp)
              case rest =>
                clear HC10
                try clear c1
                try clear c2
                try clear p2
                try clear q2
                try clear hx2
                try clear c6
                try clear c8
                try clear c9
                try clear c9b0
                try clear c12
                try clear c12b0
                try clear c13
                try clear c13b0
                try clear c14
                try clear c14b0
                try clear c14b1
                try clear hcz11_0
                try clear hcz11_1
                try clear hcz11_2
                try clear hcz15_0
                try clear hcz15_1
                try clear hcz15_2
                try clear hcz16_0
                try clear hcz16_1
                try clear hcz16_2
                try clear hcz5_0
                try clear hcz5_1
                try clear hcz5_2
                try clear hcz7_0
                try clear hcz7_1
                try clear hcz7_2
                try clear hfz11_0
                try clear hfz11_1
                try clear hfz11_2
                try clear hfz15_0
                try clear hfz15_1
                try clear hfz15_2
                try clear hfz16_0
                try clear hfz16_1
                try clear hfz16_2
                try clear hfz5_0
                try clear hfz5_1
                try clear hfz5_2
                try clear hfz7_0
                try clear hfz7_1
                try clear hfz7_2
                try clear hx277_0
                try clear hx278_0
                try clear p2
                try clear p277
                try clear p278
                try clear q277
                try clear q278
                obtain ⟨kq, x45_9, rfl, HA, HJ9, BK275, HB⟩ := hcut
                cases kq with
                | zero => exact absurd HA.out (by simp [antiquaryref08_Check.j2])
                | succ kj9 =>
                  have H := HA.out
                  clear HA
                  simp only [antiquaryref08_Check.j2] at H
                  by_cases c17 : x45_9 = true
                  · subst c17
                    have H1 : (some 80) = some r := by rw [if_pos rfl] at H; exact H
                    clear H
                    have H := H1
                    clear H1
                    obtain rfl := Option.some.inj H
                    go_wp2
                    repeat (go_quiet (fail); try go_wp2)
                    go_ret
                    exact ⟨by first | rfl | (simp [errW_none, errW_some] <;> rfl) | (simp [*, errW_none, errW_some] <;> rfl), by repeat (first | (with_reducible first | exact HB.out | apply below_alloc | apply pw_below_drewN | apply below_drew1 | refine below_set ?_ GE275.out) | exact HB.out)⟩
                  · replace c17 := Bool.eq_false_iff.mpr c17
                    subst c17
                    have H1 : (antiquaryref08_Check.l1 kj9 x4_2 0 a0_0 l0_1 l0_2) = some r := by rw [if_neg (show ¬ (false = true) by decide)] at H; exact H
                    clear H
                    have H := H1
                    clear H1
                    have H' := Aside0.mk H
                    clear H
                    go_wp2
                    repeat (go_quiet (fail); try go_wp2)
                    go_loopg [5] kj9 (fun kq v5 w' => ∃ (x5_4 : Int), v5 = .int .i64 x5_4 ∧ Aside0 (antiquaryref08_Check.l1 kq x4_2 x5_4 a0_0 l0_1 l0_2 = some r) ∧ Aside0 (kq ≤ kj9) ∧ Aside0 (w'.heap[gb275]? = some (.cells #[.int .i64 a0_0, (.slice A0_1 l0_1.length c0_1), (.slice A0_2 l0_2.length c0_2)] 25 (0, 0))) ∧ Aside0 (Below w.heap.size w w'))
                    case atStart => exact ⟨(0), (by first | rfl | (simp; done) | (simp [*]; done)), H', ⟨Nat.le_refl _⟩, ⟨by (with_reducible repeat (first | refine blk_drewN ?_ _ | refine blk_drew ?_ | refine blk_alloc ?_ _)); exact BK275.out⟩, ⟨by repeat (first | (with_reducible first | exact HB.out | apply below_alloc | apply pw_below_drewN | apply below_drew1 | refine below_set ?_ GE275.out) | exact HB.out)⟩⟩
                    case round =>
                      clear H'
                      try clear c1
                      try clear c2
                      try clear p2
                      try clear q2
                      try clear hx2
                      try clear c6
                      try clear c8
                      try clear c9
                      try clear c9b0
                      try clear c12
                      try clear c12b0
                      try clear c13
                      try clear c13b0
                      try clear c14
                      try clear c14b0
                      try clear c14b1
                      try clear c17
                      try clear hcz11_0
                      try clear hcz11_1
                      try clear hcz11_2
                      try clear hcz15_0
                      try clear hcz15_1
                      try clear hcz15_2
                      try clear hcz16_0
                      try clear hcz16_1
                      try clear hcz16_2
                      try clear hcz5_0
                      try clear hcz5_1
                      try clear hcz5_2
                      try clear hcz7_0
                      try clear hcz7_1
                      try clear hcz7_2
                      try clear hfz11_0
                      try clear hfz11_1
                      try clear hfz11_2
                      try clear hfz15_0
                      try clear hfz15_1
                      try clear hfz15_2
                      try clear hfz16_0
                      try clear hfz16_1
                      try clear hfz16_2
                      try clear hfz5_0
                      try clear hfz5_1
                      try clear hfz5_2
                      try clear hfz7_0
                      try clear hfz7_1
                      try clear hfz7_2
                      try clear hx277_0
                      try clear hx278_0
                      try clear p2
                      try clear p277
                      try clear p278
                      try clear q2
                      try clear q277
                      try clear q278
                      obtain ⟨x5_4, rfl, HA, HK4, BK275, HB⟩ := hrel
                      cases gk with
                      | zero => exact absurd HA.out (by simp [antiquaryref08_Check.l1])
                      | succ k4 =>
                        have H := HA.out
                        clear HA
                        simp only [antiquaryref08_Check.l1] at H
                        by_cases c18 : 0 ≤ x4_2
                        · rw [if_pos c18] at H
                          have c18b0 : decide (0 ≤ x4_2) = true := decide_eq_true c18
                          clear c18
                          by_cases c19 : x4_2 < (l0_2.length : Int)
                          · rw [if_pos c19] at H
                            have c19b0 : decide (x4_2 < (l0_2.length : Int)) = true := decide_eq_true c19
                            clear c19
                            by_cases c20 : x5_4 < ((rd_L2 l0_2 x4_2).length : Int)
                            · rw [if_pos c20] at H
                              have c20b0 : decide (x5_4 < ((rd_L2 l0_2 x4_2).length : Int)) = true := decide_eq_true c20
                              clear c20
                              by_cases c21 : 0 ≤ x5_4
                              · rw [if_pos c21] at H
                                have c21b0 : decide (0 ≤ x5_4) = true := decide_eq_true c21
                                clear c21
                                replace H := Option.bind_eq_some_iff.mp H
                                obtain ⟨t282, A220, H⟩ := H
                                replace H : (if t282 = true then ((antiquaryref08_end.f l0_1 a0_0 x4_2).bind fun t285 => (if x4_2 < (l0_1.length : Int) then (if ((rd_L1 (rd_L2 l0_2 x4_2) x5_4).length : Int) = (wrap64 (t285 - (rd l0_1 x4_2))) then (antiquaryref08_Check.l1 k4 x4_2 (wrap64 (x5_4 + 1)) a0_0 l0_1 l0_2) else (some 80)) else (none))) else (some 80)) = some r := H
                                have A22 := Aside0.mk A220
                                clear A220
                                by_cases c23 : t282 = true
                                · subst c23
                                  have H1 : ((antiquaryref08_end.f l0_1 a0_0 x4_2).bind fun t285 => (if x4_2 < (l0_1.length : Int) then (if ((rd_L1 (rd_L2 l0_2 x4_2) x5_4).length : Int) = (wrap64 (t285 - (rd l0_1 x4_2))) then (antiquaryref08_Check.l1 k4 x4_2 (wrap64 (x5_4 + 1)) a0_0 l0_1 l0_2) else (some 80)) else (none))) = some r := by rw [if_pos rfl] at H; exact H
                                  clear H
                                  have H := H1
                                  clear H1
                                  replace H := Option.bind_eq_some_iff.mp H
                                  obtain ⟨t285, A240, H⟩ := H
                                  replace H : (if x4_2 < (l0_1.length : Int) then (if ((rd_L1 (rd_L2 l0_2 x4_2) x5_4).length : Int) = (wrap64 (t285 - (rd l0_1 x4_2))) then (antiquaryref08_Check.l1 k4 x4_2 (wrap64 (x5_4 + 1)) a0_0 l0_1 l0_2) else (some 80)) else (none)) = some r := H
                                  have A24 := Aside0.mk A240
                                  clear A240
                                  by_cases c25 : x4_2 < (l0_1.length : Int)
                                  · rw [if_pos c25] at H
                                    have c25b0 : decide (x4_2 < (l0_1.length : Int)) = true := decide_eq_true c25
                                    clear c25
                                    by_cases c26 : ((rd_L1 (rd_L2 l0_2 x4_2) x5_4).length : Int) = (wrap64 (t285 - (rd l0_1 x4_2)))
                                    · rw [if_pos c26] at H
                                      have c26b0 : (((rd_L1 (rd_L2 l0_2 x4_2) x5_4).length : Int) == (wrap64 (t285 - (rd l0_1 x4_2)))) = true := beq_iff_eq.mpr c26
                                      have c26b0w := c26b0
                                      rw [← i64_w] at c26b0w
                                      have c26b1 : (((rd_L1 (rd_L2 l0_2 x4_2) x5_4).length : Int) != (wrap64 (t285 - (rd l0_1 x4_2)))) = false := bne_eq_false_iff_eq.mpr c26
                                      have c26b1w := c26b1
                                      rw [← i64_w] at c26b1w
                                      clear c26
                                      have H' := Aside0.mk H
                                      clear H
                                      have hcz27_0 : wr.cell? ⟨gb275, 0, none⟩ = some (.int .i64 a0_0) := (blk_cell BK275.out 0).trans rfl
                                      have hcz27_1 : wr.cell? ⟨gb275, 1, none⟩ = some (.slice A0_1 l0_1.length c0_1) := (blk_cell BK275.out 1).trans rfl
                                      have hcz27_2 : wr.cell? ⟨gb275, 2, none⟩ = some (.slice A0_2 l0_2.length c0_2) := (blk_cell BK275.out 2).trans rfl
                                      have hfz27_0 := blk_frozen BK275.out 0
                                      have hfz27_1 := blk_frozen BK275.out 1
                                      have hfz27_2 := blk_frozen BK275.out 2
                                      have p279 : 0 ≤ (x4_2 : Int) := of_decide_eq_true (by first | (with_reducible assumption) | assumption)
                                      have q279 : x4_2 < (l0_2.length : Int) := of_decide_eq_true (by first | (with_reducible assumption) | assumption)
                                      obtain ⟨ad279, A279_0, c279_0, e279, hx279_0, hl279_0, hi279_0⟩ := at_L2 HR0_2.out x4_2 p279 q279
                                      cases e279
                                      replace hx279_0 := (HB.out.cell (World.block_lt_of_cell? w _ hx279_0)).trans hx279_0
                                      have HR279_0 := Aside0.mk hi279_0
                                      have HC279_0 := Aside0.mk hl279_0
                                      clear hi279_0 hl279_0
                                      replace p279 := eq_true p279
                                      replace q279 := eq_true q279
                                      have p280 : 0 ≤ (x4_2 : Int) := of_decide_eq_true (by first | (with_reducible assumption) | assumption)
                                      have q280 : x4_2 < (l0_2.length : Int) := of_decide_eq_true (by first | (with_reducible assumption) | assumption)
                                      obtain ⟨ad280, A280_0, c280_0, e280, hx280_0, hl280_0, hi280_0⟩ := at_L2 HR0_2.out x4_2 p280 q280
                                      obtain rfl : ad279 = ad280 := (by injection e280)
                                      replace hx280_0 := (HB.out.cell (World.block_lt_of_cell? w _ hx280_0)).trans hx280_0
                                      have HR280_0 := Aside0.mk hi280_0
                                      have HC280_0 := Aside0.mk hl280_0
                                      clear hi280_0 hl280_0
                                      replace p280 := eq_true p280
                                      replace q280 := eq_true q280
                                      have ea_ := Option.some.inj (hx279_0.symm.trans hx280_0)
                                      injection ea_ with ea_ en_ ec_
                                      subst ea_
                                      subst ec_
                                      clear en_
                                      have p281 : 0 ≤ (x5_4 : Int) := of_decide_eq_true (by first | (with_reducible assumption) | assumption)
                                      have q281 : x5_4 < ((rd_L2 l0_2 x4_2).length : Int) := of_decide_eq_true (by first | (with_reducible assumption) | assumption)
                                      obtain ⟨ad281, A281_0, c281_0, e281, hx281_0, hl281_0, hi281_0⟩ := at_L1 HR280_0.out x5_4 p281 q281
                                      cases e281
                                      replace hx281_0 := (HB.out.cell (World.block_lt_of_cell? w _ hx281_0)).trans hx281_0
                                      have HR281_0 := Aside0.mk hi281_0
                                      have HC281_0 := Aside0.mk hl281_0
                                      clear hi281_0 hl281_0
                                      replace p281 := eq_true p281
                                      replace q281 := eq_true q281
                                      go_wp2_with (first | (go_at_call 44; (with_reducible refine (antiquaryref04_Valid.calls k4 _ _ (rd_L1 (rd_L2 l0_2 x4_2) x5_4) true _ ?side1 ?side2 A22.out).mono ?_); (case side1 => repeat (first | exact (Kd.C_below HR281_0.out HB.out) | (with_reducible refine Kd.C_alloc ?_ _) | (with_reducible refine Kd.C_drewN ?_ _) | (with_reducible refine Kd.C_drew ?_))); (case side2 => exact HC281_0.out); rintro e w' ⟨rfl, ⟨nd, rfl⟩⟩; (try first | exact ⟨rfl, _, World.drewN_drewN _ _ _⟩ | exact ⟨rfl, _, Eq.trans (World.drewN_drewN _ _ _) (congrArg (World.drewN _) (Nat.add_assoc _ _ _))⟩); have p283 : 0 ≤ (x4_2 : Int) := of_decide_eq_true (by first | (with_reducible assumption) | assumption); have q283 : x4_2 < (l0_2.length : Int) := of_decide_eq_true (by first | (with_reducible assumption) | assumption); obtain ⟨ad283, A283_0, c283_0, e283, hx283_0, hl283_0, hi283_0⟩ := at_L2 HR0_2.out x4_2 p283 q283; obtain rfl : ad279 = ad283 := (by injection e283); replace hx283_0 := (HB.out.cell (World.block_lt_of_cell? w _ hx283_0)).trans hx283_0; have HR283_0 := Aside0.mk hi283_0; have HC283_0 := Aside0.mk hl283_0; clear hi283_0 hl283_0; replace p283 := eq_true p283; replace q283 := eq_true q283; have ea_ := Option.some.inj (hx279_0.symm.trans hx283_0); injection ea_ with ea_ en_ ec_; subst ea_; subst ec_; clear en_; have p284 : 0 ≤ (x5_4 : Int) := of_decide_eq_true (by first | (with_reducible assumption) | assumption); have q284 : x5_4 < ((rd_L2 l0_2 x4_2).length : Int) := of_decide_eq_true (by first | (with_reducible assumption) | assumption); obtain ⟨ad284, A284_0, c284_0, e284, hx284_0, hl284_0, hi284_0⟩ := at_L1 HR283_0.out x5_4 p284 q284; cases e284; replace hx284_0 := (HB.out.cell (World.block_lt_of_cell? w _ hx284_0)).trans hx284_0; have HR284_0 := Aside0.mk hi284_0; have HC284_0 := Aside0.mk hl284_0; clear hi284_0 hl284_0; replace p284 := eq_true p284; replace q284 := eq_true q284) | (go_at_call 45; (with_reducible refine (antiquaryref08_end.calls _ _ l0_1 a0_0 x4_2 t285 _ ?side1 ?side2 A24.out).mono ?_); (case side1 => repeat (first | exact (Kd.C_below HR0_1.out (by repeat (first | (with_reducible first | exact HB.out | apply below_alloc | apply pw_below_drewN | apply below_drew1 | refine below_set ?_ GE275.out) | exact HB.out))) | (with_reducible refine Kd.C_alloc ?_ _) | (with_reducible refine Kd.C_drewN ?_ _) | (with_reducible refine Kd.C_drew ?_))); (case side2 => exact HC0_1.out); rintro e w' ⟨rfl, ⟨nd, rfl⟩⟩; (try first | exact ⟨rfl, _, World.drewN_drewN _ _ _⟩ | exact ⟨rfl, _, Eq.trans (World.drewN_drewN _ _ _) (congrArg (World.drewN _) (Nat.add_assoc _ _ _))⟩); have p286 : 0 ≤ (x4_2 : Int) := of_decide_eq_true (by first | (with_reducible assumption) | assumption); have q286 : x4_2 < (l0_1.length : Int) := of_decide_eq_true (by first | (with_reducible assumption) | assumption); obtain ⟨ad286, e286, hx286_0⟩ := Kd.at_int HR0_1.out x4_2 p286 q286; cases e286; replace hx286_0 := (HB.out.cell (World.block_lt_of_cell? w _ hx286_0)).trans hx286_0; replace p286 := eq_true p286; replace q286 := eq_true q286))
                                      repeat (go_quiet (first | (go_at_call 44; (with_reducible refine (antiquaryref04_Valid.calls k4 _ _ (rd_L1 (rd_L2 l0_2 x4_2) x5_4) true _ ?side1 ?side2 A22.out).mono ?_); (case side1 => repeat (first | exact (Kd.C_below HR281_0.out HB.out) | (with_reducible refine Kd.C_alloc ?_ _) | (with_reducible refine Kd.C_drewN ?_ _) | (with_reducible refine Kd.C_drew ?_))); (case side2 => exact HC281_0.out); rintro e w' ⟨rfl, ⟨nd, rfl⟩⟩; (try first | exact ⟨rfl, _, World.drewN_drewN _ _ _⟩ | exact ⟨rfl, _, Eq.trans (World.drewN_drewN _ _ _) (congrArg (World.drewN _) (Nat.add_assoc _ _ _))⟩); have p283 : 0 ≤ (x4_2 : Int) := of_decide_eq_true (by first | (with_reducible assumption) | assumption); have q283 : x4_2 < (l0_2.length : Int) := of_decide_eq_true (by first | (with_reducible assumption) | assumption); obtain ⟨ad283, A283_0, c283_0, e283, hx283_0, hl283_0, hi283_0⟩ := at_L2 HR0_2.out x4_2 p283 q283; obtain rfl : ad279 = ad283 := (by injection e283); replace hx283_0 := (HB.out.cell (World.block_lt_of_cell? w _ hx283_0)).trans hx283_0; have HR283_0 := Aside0.mk hi283_0; have HC283_0 := Aside0.mk hl283_0; clear hi283_0 hl283_0; replace p283 := eq_true p283; replace q283 := eq_true q283; have ea_ := Option.some.inj (hx279_0.symm.trans hx283_0); injection ea_ with ea_ en_ ec_; subst ea_; subst ec_; clear en_; have p284 : 0 ≤ (x5_4 : Int) := of_decide_eq_true (by first | (with_reducible assumption) | assumption); have q284 : x5_4 < ((rd_L2 l0_2 x4_2).length : Int) := of_decide_eq_true (by first | (with_reducible assumption) | assumption); obtain ⟨ad284, A284_0, c284_0, e284, hx284_0, hl284_0, hi284_0⟩ := at_L1 HR283_0.out x5_4 p284 q284; cases e284; replace hx284_0 := (HB.out.cell (World.block_lt_of_cell? w _ hx284_0)).trans hx284_0; have HR284_0 := Aside0.mk hi284_0; have HC284_0 := Aside0.mk hl284_0; clear hi284_0 hl284_0; replace p284 := eq_true p284; replace q284 := eq_true q284) | (go_at_call 45; (with_reducible refine (antiquaryref08_end.calls _ _ l0_1 a0_0 x4_2 t285 _ ?side1 ?side2 A24.out).mono ?_); (case side1 => repeat (first | exact (Kd.C_below HR0_1.out (by repeat (first | (with_reducible first | exact HB.out | apply below_alloc | apply pw_below_drewN | apply below_drew1 | refine below_set ?_ GE275.out) | exact HB.out))) | (with_reducible refine Kd.C_alloc ?_ _) | (with_reducible refine Kd.C_drewN ?_ _) | (with_reducible refine Kd.C_drew ?_))); (case side2 => exact HC0_1.out); rintro e w' ⟨rfl, ⟨nd, rfl⟩⟩; (try first | exact ⟨rfl, _, World.drewN_drewN _ _ _⟩ | exact ⟨rfl, _, Eq.trans (World.drewN_drewN _ _ _) (congrArg (World.drewN _) (Nat.add_assoc _ _ _))⟩); have p286 : 0 ≤ (x4_2 : Int) := of_decide_eq_true (by first | (with_reducible assumption) | assumption); have q286 : x4_2 < (l0_1.length : Int) := of_decide_eq_true (by first | (with_reducible assumption) | assumption); obtain ⟨ad286, e286, hx286_0⟩ := Kd.at_int HR0_1.out x4_2 p286 q286; cases e286; replace hx286_0 := (HB.out.cell (World.block_lt_of_cell? w _ hx286_0)).trans hx286_0; replace p286 := eq_true p286; replace q286 := eq_true q286)); try go_wp2_with (first | (go_at_call 44; (with_reducible refine (antiquaryref04_Valid.calls k4 _ _ (rd_L1 (rd_L2 l0_2 x4_2) x5_4) true _ ?side1 ?side2 A22.out).mono ?_); (case side1 => repeat (first | exact (Kd.C_below HR281_0.out HB.out) | (with_reducible refine Kd.C_alloc ?_ _) | (with_reducible refine Kd.C_drewN ?_ _) | (with_reducible refine Kd.C_drew ?_))); (case side2 => exact HC281_0.out); rintro e w' ⟨rfl, ⟨nd, rfl⟩⟩; (try first | exact ⟨rfl, _, World.drewN_drewN _ _ _⟩ | exact ⟨rfl, _, Eq.trans (World.drewN_drewN _ _ _) (congrArg (World.drewN _) (Nat.add_assoc _ _ _))⟩); have p283 : 0 ≤ (x4_2 : Int) := of_decide_eq_true (by first | (with_reducible assumption) | assumption); have q283 : x4_2 < (l0_2.length : Int) := of_decide_eq_true (by first | (with_reducible assumption) | assumption); obtain ⟨ad283, A283_0, c283_0, e283, hx283_0, hl283_0, hi283_0⟩ := at_L2 HR0_2.out x4_2 p283 q283; obtain rfl : ad279 = ad283 := (by injection e283); replace hx283_0 := (HB.out.cell (World.block_lt_of_cell? w _ hx283_0)).trans hx283_0; have HR283_0 := Aside0.mk hi283_0; have HC283_0 := Aside0.mk hl283_0; clear hi283_0 hl283_0; replace p283 := eq_true p283; replace q283 := eq_true q283; have ea_ := Option.some.inj (hx279_0.symm.trans hx283_0); injection ea_ with ea_ en_ ec_; subst ea_; subst ec_; clear en_; have p284 : 0 ≤ (x5_4 : Int) := of_decide_eq_true (by first | (with_reducible assumption) | assumption); have q284 : x5_4 < ((rd_L2 l0_2 x4_2).length : Int) := of_decide_eq_true (by first | (with_reducible assumption) | assumption); obtain ⟨ad284, A284_0, c284_0, e284, hx284_0, hl284_0, hi284_0⟩ := at_L1 HR283_0.out x5_4 p284 q284; cases e284; replace hx284_0 := (HB.out.cell (World.block_lt_of_cell? w _ hx284_0)).trans hx284_0; have HR284_0 := Aside0.mk hi284_0; have HC284_0 := Aside0.mk hl284_0; clear hi284_0 hl284_0; replace p284 := eq_true p284; replace q284 := eq_true q284) | (go_at_call 45; (with_reducible refine (antiquaryref08_end.calls _ _ l0_1 a0_0 x4_2 t285 _ ?side1 ?side2 A24.out).mono ?_); (case side1 => repeat (first | exact (Kd.C_below HR0_1.out (by repeat (first | (with_reducible first | exact HB.out | apply below_alloc | apply pw_below_drewN | apply below_drew1 | refine below_set ?_ GE275.out) | exact HB.out))) | (with_reducible refine Kd.C_alloc ?_ _) | (with_reducible refine Kd.C_drewN ?_ _) | (with_reducible refine Kd.C_drew ?_))); (case side2 => exact HC0_1.out); rintro e w' ⟨rfl, ⟨nd, rfl⟩⟩; (try first | exact ⟨rfl, _, World.drewN_drewN _ _ _⟩ | exact ⟨rfl, _, Eq.trans (World.drewN_drewN _ _ _) (congrArg (World.drewN _) (Nat.add_assoc _ _ _))⟩); have p286 : 0 ≤ (x4_2 : Int) := of_decide_eq_true (by first | (with_reducible assumption) | assumption); have q286 : x4_2 < (l0_1.length : Int) := of_decide_eq_true (by first | (with_reducible assumption) | assumption); obtain ⟨ad286, e286, hx286_0⟩ := Kd.at_int HR0_1.out x4_2 p286 q286; cases e286; replace hx286_0 := (HB.out.cell (World.block_lt_of_cell? w _ hx286_0)).trans hx286_0; replace p286 := eq_true p286; replace q286 := eq_true q286)))
                                      go_roundg k4
                                      case measure => have := HJ2.out; have := HK2.out; have := HJ9.out; have := HK4.out; omega
                                      case rel => exact ⟨(wrap64 (x5_4 + 1)), (by first | rfl | (simp; done) | (simp [*]; done)), H', ⟨by have := HJ2.out; have := HK2.out; have := HJ9.out; have := HK4.out; omega⟩, ⟨by (with_reducible repeat (first | refine blk_drewN ?_ _ | refine blk_drew ?_ | refine blk_alloc ?_ _)); exact BK275.out⟩, ⟨by repeat (first | (with_reducible first | exact HB.out | apply below_alloc | apply pw_below_drewN | apply below_drew1 | refine below_set ?_ GE275.out) | exact HB.out)⟩⟩
                                    · rw [if_neg c26] at H
                                      have c26b0 : (((rd_L1 (rd_L2 l0_2 x4_2) x5_4).length : Int) == (wrap64 (t285 - (rd l0_1 x4_2)))) = false := beq_eq_false_iff_ne.mpr c26
                                      have c26b0w := c26b0
                                      rw [← i64_w] at c26b0w
                                      have c26b1 : (((rd_L1 (rd_L2 l0_2 x4_2) x5_4).length : Int) != (wrap64 (t285 - (rd l0_1 x4_2)))) = true := bne_iff_ne.mpr c26
                                      have c26b1w := c26b1
                                      rw [← i64_w] at c26b1w
                                      obtain rfl := Option.some.inj H
                                      have hcz28_0 : wr.cell? ⟨gb275, 0, none⟩ = some (.int .i64 a0_0) := (blk_cell BK275.out 0).trans rfl
                                      have hcz28_1 : wr.cell? ⟨gb275, 1, none⟩ = some (.slice A0_1 l0_1.length c0_1) := (blk_cell BK275.out 1).trans rfl
                                      have hcz28_2 : wr.cell? ⟨gb275, 2, none⟩ = some (.slice A0_2 l0_2.length c0_2) := (blk_cell BK275.out 2).trans rfl
                                      have hfz28_0 := blk_frozen BK275.out 0
                                      have hfz28_1 := blk_frozen BK275.out 1
                                      have hfz28_2 := blk_frozen BK275.out 2
                                      have p279 : 0 ≤ (x4_2 : Int) := of_decide_eq_true (by first | (with_reducible assumption) | assumption)
                                      have q279 : x4_2 < (l0_2.length : Int) := of_decide_eq_true (by first | (with_reducible assumption) | assumption)
                                      obtain ⟨ad279, A279_0, c279_0, e279, hx279_0, hl279_0, hi279_0⟩ := at_L2 HR0_2.out x4_2 p279 q279
                                      cases e279
                                      replace hx279_0 := (HB.out.cell (World.block_lt_of_cell? w _ hx279_0)).trans hx279_0
                                      have HR279_0 := Aside0.mk hi279_0
                                      have HC279_0 := Aside0.mk hl279_0
                                      clear hi279_0 hl279_0
                                      replace p279 := eq_true p279
                                      replace q279 := eq_true q279
                                      have p280 : 0 ≤ (x4_2 : Int) := of_decide_eq_true (by first | (with_reducible assumption) | assumption)
                                      have q280 : x4_2 < (l0_2.length : Int) := of_decide_eq_true (by first | (with_reducible assumption) | assumption)
                                      obtain ⟨ad280, A280_0, c280_0, e280, hx280_0, hl280_0, hi280_0⟩ := at_L2 HR0_2.out x4_2 p280 q280
                                      obtain rfl : ad279 = ad280 := (by injection e280)
                                      replace hx280_0 := (HB.out.cell (World.block_lt_of_cell? w _ hx280_0)).trans hx280_0
                                      have HR280_0 := Aside0.mk hi280_0
                                      have HC280_0 := Aside0.mk hl280_0
                                      clear hi280_0 hl280_0
                                      replace p280 := eq_true p280
                                      replace q280 := eq_true q280
                                      have ea_ := Option.some.inj (hx279_0.symm.trans hx280_0)
                                      injection ea_ with ea_ en_ ec_
                                      subst ea_
                                      subst ec_
                                      clear en_
                                      have p281 : 0 ≤ (x5_4 : Int) := of_decide_eq_true (by first | (with_reducible assumption) | assumption)
                                      have q281 : x5_4 < ((rd_L2 l0_2 x4_2).length : Int) := of_decide_eq_true (by first | (with_reducible assumption) | assumption)
                                      obtain ⟨ad281, A281_0, c281_0, e281, hx281_0, hl281_0, hi281_0⟩ := at_L1 HR280_0.out x5_4 p281 q281
                                      cases e281
                                      replace hx281_0 := (HB.out.cell (World.block_lt_of_cell? w _ hx281_0)).trans hx281_0
                                      have HR281_0 := Aside0.mk hi281_0
                                      have HC281_0 := Aside0.mk hl281_0
                                      clear hi281_0 hl281_0
                                      replace p281 := eq_true p281
                                      replace q281 := eq_true q281
                                      go_wp2_with (first | (go_at_call 44; (with_reducible refine (antiquaryref04_Valid.calls k4 _ _ (rd_L1 (rd_L2 l0_2 x4_2) x5_4) true _ ?side1 ?side2 A22.out).mono ?_); (case side1 => repeat (first | exact (Kd.C_below HR281_0.out HB.out) | (with_reducible refine Kd.C_alloc ?_ _) | (with_reducible refine Kd.C_drewN ?_ _) | (with_reducible refine Kd.C_drew ?_))); (case side2 => exact HC281_0.out); rintro e w' ⟨rfl, ⟨nd, rfl⟩⟩; (try first | exact ⟨rfl, _, World.drewN_drewN _ _ _⟩ | exact ⟨rfl, _, Eq.trans (World.drewN_drewN _ _ _) (congrArg (World.drewN _) (Nat.add_assoc _ _ _))⟩); have p283 : 0 ≤ (x4_2 : Int) := of_decide_eq_true (by first | (with_reducible assumption) | assumption); have q283 : x4_2 < (l0_2.length : Int) := of_decide_eq_true (by first | (with_reducible assumption) | assumption); obtain ⟨ad283, A283_0, c283_0, e283, hx283_0, hl283_0, hi283_0⟩ := at_L2 HR0_2.out x4_2 p283 q283; obtain rfl : ad279 = ad283 := (by injection e283); replace hx283_0 := (HB.out.cell (World.block_lt_of_cell? w _ hx283_0)).trans hx283_0; have HR283_0 := Aside0.mk hi283_0; have HC283_0 := Aside0.mk hl283_0; clear hi283_0 hl283_0; replace p283 := eq_true p283; replace q283 := eq_true q283; have ea_ := Option.some.inj (hx279_0.symm.trans hx283_0); injection ea_ with ea_ en_ ec_; subst ea_; subst ec_; clear en_; have p284 : 0 ≤ (x5_4 : Int) := of_decide_eq_true (by first | (with_reducible assumption) | assumption); have q284 : x5_4 < ((rd_L2 l0_2 x4_2).length : Int) := of_decide_eq_true (by first | (with_reducible assumption) | assumption); obtain ⟨ad284, A284_0, c284_0, e284, hx284_0, hl284_0, hi284_0⟩ := at_L1 HR283_0.out x5_4 p284 q284; cases e284; replace hx284_0 := (HB.out.cell (World.block_lt_of_cell? w _ hx284_0)).trans hx284_0; have HR284_0 := Aside0.mk hi284_0; have HC284_0 := Aside0.mk hl284_0; clear hi284_0 hl284_0; replace p284 := eq_true p284; replace q284 := eq_true q284) | (go_at_call 45; (with_reducible refine (antiquaryref08_end.calls _ _ l0_1 a0_0 x4_2 t285 _ ?side1 ?side2 A24.out).mono ?_); (case side1 => repeat (first | exact (Kd.C_below HR0_1.out (by repeat (first | (with_reducible first | exact HB.out | apply below_alloc | apply pw_below_drewN | apply below_drew1 | refine below_set ?_ GE275.out) | exact HB.out))) | (with_reducible refine Kd.C_alloc ?_ _) | (with_reducible refine Kd.C_drewN ?_ _) | (with_reducible refine Kd.C_drew ?_))); (case side2 => exact HC0_1.out); rintro e w' ⟨rfl, ⟨nd, rfl⟩⟩; (try first | exact ⟨rfl, _, World.drewN_drewN _ _ _⟩ | exact ⟨rfl, _, Eq.trans (World.drewN_drewN _ _ _) (congrArg (World.drewN _) (Nat.add_assoc _ _ _))⟩); have p286 : 0 ≤ (x4_2 : Int) := of_decide_eq_true (by first | (with_reducible assumption) | assumption); have q286 : x4_2 < (l0_1.length : Int) := of_decide_eq_true (by first | (with_reducible assumption) | assumption); obtain ⟨ad286, e286, hx286_0⟩ := Kd.at_int HR0_1.out x4_2 p286 q286; cases e286; replace hx286_0 := (HB.out.cell (World.block_lt_of_cell? w _ hx286_0)).trans hx286_0; replace p286 := eq_true p286; replace q286 := eq_true q286))
                                      repeat (go_quiet (first | (go_at_call 44; (with_reducible refine (antiquaryref04_Valid.calls k4 _ _ (rd_L1 (rd_L2 l0_2 x4_2) x5_4) true _ ?side1 ?side2 A22.out).mono ?_); (case side1 => repeat (first | exact (Kd.C_below HR281_0.out HB.out) | (with_reducible refine Kd.C_alloc ?_ _) | (with_reducible refine Kd.C_drewN ?_ _) | (with_reducible refine Kd.C_drew ?_))); (case side2 => exact HC281_0.out); rintro e w' ⟨rfl, ⟨nd, rfl⟩⟩; (try first | exact ⟨rfl, _, World.drewN_drewN _ _ _⟩ | exact ⟨rfl, _, Eq.trans (World.drewN_drewN _ _ _) (congrArg (World.drewN _) (Nat.add_assoc _ _ _))⟩); have p283 : 0 ≤ (x4_2 : Int) := of_decide_eq_true (by first | (with_reducible assumption) | assumption); have q283 : x4_2 < (l0_2.length : Int) := of_decide_eq_true (by first | (with_reducible assumption) | assumption); obtain ⟨ad283, A283_0, c283_0, e283, hx283_0, hl283_0, hi283_0⟩ := at_L2 HR0_2.out x4_2 p283 q283; obtain rfl : ad279 = ad283 := (by injection e283); replace hx283_0 := (HB.out.cell (World.block_lt_of_cell? w _ hx283_0)).trans hx283_0; have HR283_0 := Aside0.mk hi283_0; have HC283_0 := Aside0.mk hl283_0; clear hi283_0 hl283_0; replace p283 := eq_true p283; replace q283 := eq_true q283; have ea_ := Option.some.inj (hx279_0.symm.trans hx283_0); injection ea_ with ea_ en_ ec_; subst ea_; subst ec_; clear en_; have p284 : 0 ≤ (x5_4 : Int) := of_decide_eq_true (by first | (with_reducible assumption) | assumption); have q284 : x5_4 < ((rd_L2 l0_2 x4_2).length : Int) := of_decide_eq_true (by first | (with_reducible assumption) | assumption); obtain ⟨ad284, A284_0, c284_0, e284, hx284_0, hl284_0, hi284_0⟩ := at_L1 HR283_0.out x5_4 p284 q284; cases e284; replace hx284_0 := (HB.out.cell (World.block_lt_of_cell? w _ hx284_0)).trans hx284_0; have HR284_0 := Aside0.mk hi284_0; have HC284_0 := Aside0.mk hl284_0; clear hi284_0 hl284_0; replace p284 := eq_true p284; replace q284 := eq_true q284) | (go_at_call 45; (with_reducible refine (antiquaryref08_end.calls _ _ l0_1 a0_0 x4_2 t285 _ ?side1 ?side2 A24.out).mono ?_); (case side1 => repeat (first | exact (Kd.C_below HR0_1.out (by repeat (first | (with_reducible first | exact HB.out | apply below_alloc | apply pw_below_drewN | apply below_drew1 | refine below_set ?_ GE275.out) | exact HB.out))) | (with_reducible refine Kd.C_alloc ?_ _) | (with_reducible refine Kd.C_drewN ?_ _) | (with_reducible refine Kd.C_drew ?_))); (case side2 => exact HC0_1.out); rintro e w' ⟨rfl, ⟨nd, rfl⟩⟩; (try first | exact ⟨rfl, _, World.drewN_drewN _ _ _⟩ | exact ⟨rfl, _, Eq.trans (World.drewN_drewN _ _ _) (congrArg (World.drewN _) (Nat.add_assoc _ _ _))⟩); have p286 : 0 ≤ (x4_2 : Int) := of_decide_eq_true (by first | (with_reducible assumption) | assumption); have q286 : x4_2 < (l0_1.length : Int) := of_decide_eq_true (by first | (with_reducible assumption) | assumption); obtain ⟨ad286, e286, hx286_0⟩ := Kd.at_int HR0_1.out x4_2 p286 q286; cases e286; replace hx286_0 := (HB.out.cell (World.block_lt_of_cell? w _ hx286_0)).trans hx286_0; replace p286 := eq_true p286; replace q286 := eq_true q286)); try go_wp2_with (first | (go_at_call 44; (with_reducible refine (antiquaryref04_Valid.calls k4 _ _ (rd_L1 (rd_L2 l0_2 x4_2) x5_4) true _ ?side1 ?side2 A22.out).mono ?_); (case side1 => repeat (first | exact (Kd.C_below HR281_0.out HB.out) | (with_reducible refine Kd.C_alloc ?_ _) | (with_reducible refine Kd.C_drewN ?_ _) | (with_reducible refine Kd.C_drew ?_))); (case side2 => exact HC281_0.out); rintro e w' ⟨rfl, ⟨nd, rfl⟩⟩; (try first | exact ⟨rfl, _, World.drewN_drewN _ _ _⟩ | exact ⟨rfl, _, Eq.trans (World.drewN_drewN _ _ _) (congrArg (World.drewN _) (Nat.add_assoc _ _ _))⟩); have p283 : 0 ≤ (x4_2 : Int) := of_decide_eq_true (by first | (with_reducible assumption) | assumption); have q283 : x4_2 < (l0_2.length : Int) := of_decide_eq_true (by first | (with_reducible assumption) | assumption); obtain ⟨ad283, A283_0, c283_0, e283, hx283_0, hl283_0, hi283_0⟩ := at_L2 HR0_2.out x4_2 p283 q283; obtain rfl : ad279 = ad283 := (by injection e283); replace hx283_0 := (HB.out.cell (World.block_lt_of_cell? w _ hx283_0)).trans hx283_0; have HR283_0 := Aside0.mk hi283_0; have HC283_0 := Aside0.mk hl283_0; clear hi283_0 hl283_0; replace p283 := eq_true p283; replace q283 := eq_true q283; have ea_ := Option.some.inj (hx279_0.symm.trans hx283_0); injection ea_ with ea_ en_ ec_; subst ea_; subst ec_; clear en_; have p284 : 0 ≤ (x5_4 : Int) := of_decide_eq_true (by first | (with_reducible assumption) | assumption); have q284 : x5_4 < ((rd_L2 l0_2 x4_2).length : Int) := of_decide_eq_true (by first | (with_reducible assumption) | assumption); obtain ⟨ad284, A284_0, c284_0, e284, hx284_0, hl284_0, hi284_0⟩ := at_L1 HR283_0.out x5_4 p284 q284; cases e284; replace hx284_0 := (HB.out.cell (World.block_lt_of_cell? w _ hx284_0)).trans hx284_0; have HR284_0 := Aside0.mk hi284_0; have HC284_0 := Aside0.mk hl284_0; clear hi284_0 hl284_0; replace p284 := eq_true p284; replace q284 := eq_true q284) | (go_at_call 45; (with_reducible refine (antiquaryref08_end.calls _ _ l0_1 a0_0 x4_2 t285 _ ?side1 ?side2 A24.out).mono ?_); (case side1 => repeat (first | exact (Kd.C_below HR0_1.out (by repeat (first | (with_reducible first | exact HB.out | apply below_alloc | apply pw_below_drewN | apply below_drew1 | refine below_set ?_ GE275.out) | exact HB.out))) | (with_reducible refine Kd.C_alloc ?_ _) | (with_reducible refine Kd.C_drewN ?_ _) | (with_reducible refine Kd.C_drew ?_))); (case side2 => exact HC0_1.out); rintro e w' ⟨rfl, ⟨nd, rfl⟩⟩; (try first | exact ⟨rfl, _, World.drewN_drewN _ _ _⟩ | exact ⟨rfl, _, Eq.trans (World.drewN_drewN _ _ _) (congrArg (World.drewN _) (Nat.add_assoc _ _ _))⟩); have p286 : 0 ≤ (x4_2 : Int) := of_decide_eq_true (by first | (with_reducible assumption) | assumption); have q286 : x4_2 < (l0_1.length : Int) := of_decide_eq_true (by first | (with_reducible assumption) | assumption); obtain ⟨ad286, e286, hx286_0⟩ := Kd.at_int HR0_1.out x4_2 p286 q286; cases e286; replace hx286_0 := (HB.out.cell (World.block_lt_of_cell? w _ hx286_0)).trans hx286_0; replace p286 := eq_true p286; replace q286 := eq_true q286)))
                                      go_ret
                                      exact ⟨by first | rfl | (simp [errW_none, errW_some] <;> rfl) | (simp [*, errW_none, errW_some] <;> rfl), by repeat (first | (with_reducible first | exact HB.out | apply below_alloc | apply pw_below_drewN | apply below_drew1 | refine below_set ?_ GE275.out) | exact HB.out)⟩
                                  · rw [if_neg c25] at H
                                    exact absurd H (by simp)
                                · replace c23 := Bool.eq_false_iff.mpr c23
                                  subst c23
                                  have H1 : (some 80) = some r := by rw [if_neg (show ¬ (false = true) by decide)] at H; exact H
                                  clear H
                                  have H := H1
                                  clear H1
                                  obtain rfl := Option.some.inj H
                                  have hcz29_0 : wr.cell? ⟨gb275, 0, none⟩ = some (.int .i64 a0_0) := (blk_cell BK275.out 0).trans rfl
                                  have hcz29_1 : wr.cell? ⟨gb275, 1, none⟩ = some (.slice A0_1 l0_1.length c0_1) := (blk_cell BK275.out 1).trans rfl
                                  have hcz29_2 : wr.cell? ⟨gb275, 2, none⟩ = some (.slice A0_2 l0_2.length c0_2) := (blk_cell BK275.out 2).trans rfl
                                  have hfz29_0 := blk_frozen BK275.out 0
                                  have hfz29_1 := blk_frozen BK275.out 1
                                  have hfz29_2 := blk_frozen BK275.out 2
                                  have p279 : 0 ≤ (x4_2 : Int) := of_decide_eq_true (by first | (with_reducible assumption) | assumption)
                                  have q279 : x4_2 < (l0_2.length : Int) := of_decide_eq_true (by first | (with_reducible assumption) | assumption)
                                  obtain ⟨ad279, A279_0, c279_0, e279, hx279_0, hl279_0, hi279_0⟩ := at_L2 HR0_2.out x4_2 p279 q279
                                  cases e279
                                  replace hx279_0 := (HB.out.cell (World.block_lt_of_cell? w _ hx279_0)).trans hx279_0
                                  have HR279_0 := Aside0.mk hi279_0
                                  have HC279_0 := Aside0.mk hl279_0
                                  clear hi279_0 hl279_0
                                  replace p279 := eq_true p279
                                  replace q279 := eq_true q279
                                  have p280 : 0 ≤ (x4_2 : Int) := of_decide_eq_true (by first | (with_reducible assumption) | assumption)
                                  have q280 : x4_2 < (l0_2.length : Int) := of_decide_eq_true (by first | (with_reducible assumption) | assumption)
                                  obtain ⟨ad280, A280_0, c280_0, e280, hx280_0, hl280_0, hi280_0⟩ := at_L2 HR0_2.out x4_2 p280 q280
                                  obtain rfl : ad279 = ad280 := (by injection e280)
                                  replace hx280_0 := (HB.out.cell (World.block_lt_of_cell? w _ hx280_0)).trans hx280_0
                                  have HR280_0 := Aside0.mk hi280_0
                                  have HC280_0 := Aside0.mk hl280_0
                                  clear hi280_0 hl280_0
                                  replace p280 := eq_true p280
                                  replace q280 := eq_true q280
                                  have ea_ := Option.some.inj (hx279_0.symm.trans hx280_0)
                                  injection ea_ with ea_ en_ ec_
                                  subst ea_
                                  subst ec_
                                  clear en_
                                  have p281 : 0 ≤ (x5_4 : Int) := of_decide_eq_true (by first | (with_reducible assumption) | assumption)
                                  have q281 : x5_4 < ((rd_L2 l0_2 x4_2).length : Int) := of_decide_eq_true (by first | (with_reducible assumption) | assumption)
                                  obtain ⟨ad281, A281_0, c281_0, e281, hx281_0, hl281_0, hi281_0⟩ := at_L1 HR280_0.out x5_4 p281 q281
                                  cases e281
                                  replace hx281_0 := (HB.out.cell (World.block_lt_of_cell? w _ hx281_0)).trans hx281_0
                                  have HR281_0 := Aside0.mk hi281_0
                                  have HC281_0 := Aside0.mk hl281_0
                                  clear hi281_0 hl281_0
                                  replace p281 := eq_true p281
                                  replace q281 := eq_true q281
                                  go_wp2_with (first | (go_at_call 44; (with_reducible refine (antiquaryref04_Valid.calls k4 _ _ (rd_L1 (rd_L2 l0_2 x4_2) x5_4) false _ ?side1 ?side2 A22.out).mono ?_); (case side1 => repeat (first | exact (Kd.C_below HR281_0.out HB.out) | (with_reducible refine Kd.C_alloc ?_ _) | (with_reducible refine Kd.C_drewN ?_ _) | (with_reducible refine Kd.C_drew ?_))); (case side2 => exact HC281_0.out); rintro e w' ⟨rfl, ⟨nd, rfl⟩⟩; (try first | exact ⟨rfl, _, World.drewN_drewN _ _ _⟩ | exact ⟨rfl, _, Eq.trans (World.drewN_drewN _ _ _) (congrArg (World.drewN _) (Nat.add_assoc _ _ _))⟩)))
                                  repeat (go_quiet (first | (go_at_call 44; (with_reducible refine (antiquaryref04_Valid.calls k4 _ _ (rd_L1 (rd_L2 l0_2 x4_2) x5_4) false _ ?side1 ?side2 A22.out).mono ?_); (case side1 => repeat (first | exact (Kd.C_below HR281_0.out HB.out) | (with_reducible refine Kd.C_alloc ?_ _) | (with_reducible refine Kd.C_drewN ?_ _) | (with_reducible refine Kd.C_drew ?_))); (case side2 => exact HC281_0.out); rintro e w' ⟨rfl, ⟨nd, rfl⟩⟩; (try first | exact ⟨rfl, _, World.drewN_drewN _ _ _⟩ | exact ⟨rfl, _, Eq.trans (World.drewN_drewN _ _ _) (congrArg (World.drewN _) (Nat.add_assoc _ _ _))⟩))); try go_wp2_with (first | (go_at_call 44; (with_reducible refine (antiquaryref04_Valid.calls k4 _ _ (rd_L1 (rd_L2 l0_2 x4_2) x5_4) false _ ?side1 ?side2 A22.out).mono ?_); (case side1 => repeat (first | exact (Kd.C_below HR281_0.out HB.out) | (with_reducible refine Kd.C_alloc ?_ _) | (with_reducible refine Kd.C_drewN ?_ _) | (with_reducible refine Kd.C_drew ?_))); (case side2 => exact HC281_0.out); rintro e w' ⟨rfl, ⟨nd, rfl⟩⟩; (try first | exact ⟨rfl, _, World.drewN_drewN _ _ _⟩ | exact ⟨rfl, _, Eq.trans (World.drewN_drewN _ _ _) (congrArg (World.drewN _) (Nat.add_assoc _ _ _))⟩))))
                                  go_ret
                                  exact ⟨by first | rfl | (simp [errW_none, errW_some] <;> rfl) | (simp [*, errW_none, errW_some] <;> rfl), by repeat (first | (with_reducible first | exact HB.out | apply below_alloc | apply pw_below_drewN | apply below_drew1 | refine below_set ?_ GE275.out) | exact HB.out)⟩
                              · rw [if_neg c21] at H
                                exact absurd H (by simp)
                            · rw [if_neg c20] at H
                              have c20b0 : decide (x5_4 < ((rd_L2 l0_2 x4_2).length : Int)) = false := decide_eq_false c20
                              clear c20
                              have H' := Aside0.mk H
                              clear H
                              have hcz30_0 : wr.cell? ⟨gb275, 0, none⟩ = some (.int .i64 a0_0) := (blk_cell BK275.out 0).trans rfl
                              have hcz30_1 : wr.cell? ⟨gb275, 1, none⟩ = some (.slice A0_1 l0_1.length c0_1) := (blk_cell BK275.out 1).trans rfl
                              have hcz30_2 : wr.cell? ⟨gb275, 2, none⟩ = some (.slice A0_2 l0_2.length c0_2) := (blk_cell BK275.out 2).trans rfl
                              have hfz30_0 := blk_frozen BK275.out 0
                              have hfz30_1 := blk_frozen BK275.out 1
                              have hfz30_2 := blk_frozen BK275.out 2
                              have p279 : 0 ≤ (x4_2 : Int) := of_decide_eq_true (by first | (with_reducible assumption) | assumption)
                              have q279 : x4_2 < (l0_2.length : Int) := of_decide_eq_true (by first | (with_reducible assumption) | assumption)
                              obtain ⟨ad279, A279_0, c279_0, e279, hx279_0, hl279_0, hi279_0⟩ := at_L2 HR0_2.out x4_2 p279 q279
                              cases e279
                              replace hx279_0 := (HB.out.cell (World.block_lt_of_cell? w _ hx279_0)).trans hx279_0
                              have HR279_0 := Aside0.mk hi279_0
                              have HC279_0 := Aside0.mk hl279_0
                              clear hi279_0 hl279_0
                              replace p279 := eq_true p279
                              replace q279 := eq_true q279
                              go_wp2
                              repeat (go_quiet (fail); try go_wp2)
                              go_roundg k4
                              case measure => have := HJ2.out; have := HK2.out; have := HJ9.out; have := HK4.out; omega
                              case rel => exact ⟨(wrap64 (x4_2 + 1)), (by first | rfl | (simp; done) | (simp [*]; done)), H', ⟨by have := HJ2.out; have := HK2.out; have := HJ9.out; have := HK4.out; omega⟩, ⟨by (with_reducible repeat (first | refine blk_drewN ?_ _ | refine blk_drew ?_ | refine blk_alloc ?_ _)); exact BK275.out⟩, ⟨by repeat (first | (with_reducible first | exact HB.out | apply below_alloc | apply pw_below_drewN | apply below_drew1 | refine below_set ?_ GE275.out) | exact HB.out)⟩⟩
                          · rw [if_neg c19] at H
                            exact absurd H (by simp)
                        · rw [if_neg c18] at H
                          exact absurd H (by simp)
            · rw [if_neg c9] at H
              have c9b0 : decide (x4_2 < (l0_1.length : Int)) = false := decide_eq_false c9
              clear c9
              obtain rfl := Option.some.inj H
              have hcz31_0 : wr.cell? ⟨gb275, 0, none⟩ = some (.int .i64 a0_0) := (blk_cell BK275.out 0).trans rfl
              have hcz31_1 : wr.cell? ⟨gb275, 1, none⟩ = some (.slice A0_1 l0_1.length c0_1) := (blk_cell BK275.out 1).trans rfl
              have hcz31_2 : wr.cell? ⟨gb275, 2, none⟩ = some (.slice A0_2 l0_2.length c0_2) := (blk_cell BK275.out 2).trans rfl
              have hfz31_0 := blk_frozen BK275.out 0
              have hfz31_1 := blk_frozen BK275.out 1
              have hfz31_2 := blk_frozen BK275.out 2
              go_wp2
              repeat (go_quiet (fail); try go_wp2)
              go_ret
              exact ⟨by first | rfl | (simp [errW_none, errW_some] <;> rfl) | (simp [*, errW_none, errW_some] <;> rfl), by repeat (first | (with_reducible first | exact HB.out | apply below_alloc | apply pw_below_drewN | apply below_drew1 | refine below_set ?_ GE275.out) | exact HB.out)⟩
def antiquaryref04_Metric.f (a0 : Int) : Option (Bool) := if a0 ≥ 1 then (some (decide (a0 ≤ 3))) else (some false)
set_option maxHeartbeats 8000000 in
set_option maxRecDepth 100000 in
theorem antiquaryref04_Metric.calls (a0 : Int) (r : Bool) (w : World) (h : antiquaryref04_Metric.f a0 = some r) :
    Calls Try.prog 34 #[.int .i64 a0] w fun e w' => e = .returned (.bool r) ∧ Drawn0 w w' := by
  have H : (if a0 ≥ 1 then (some (decide (a0 ≤ 3))) else (some false)) = some r := h
  clear h
  by_cases c2 : a0 ≥ 1
  · rw [if_pos c2] at H
    have c2b0 : decide (1 ≤ a0) = true := decide_eq_true c2
    clear c2
    obtain rfl := Option.some.inj H
    go_enter Try.func34, Try.ntmps34
    go_wp2
    go_ret
    exact ⟨by first | rfl | (simp; done) | (simp [*]; done), by repeat (first | exact Drawn0.refl _ | apply Drawn0.step)⟩
  · rw [if_neg c2] at H
    have c2b0 : decide (1 ≤ a0) = false := decide_eq_false c2
    clear c2
    obtain rfl := Option.some.inj H
    go_enter Try.func34, Try.ntmps34
    go_wp2
    go_ret
    exact ⟨by first | rfl | (simp; done) | (simp [*]; done), by repeat (first | exact Drawn0.refl _ | apply Drawn0.step)⟩
end Go.Proofs.Ytgpdfalopdhjlaa.Q
end
section
namespace Go.Proofs.Ytgpdfalopdhjlaa.Q
open Go.RowKit Go.Proofs.YtgpdfalopdhjlaaW.PrintWords Go.Proofs.YtgpdfalopdhjlaaW.PrintLast Go.Proofs.YtgpdfalopdhjlaaW.PrintMore
attribute [local go_sem] max2_int min2_int max_two min_two max_three min_three max_four min_four   -- for this text's walks alone
set_option linter.unusedVariables false
set_option linter.unusedSimpArgs false
def antiquarylaw08_right.j0 : Nat → List Int → List Int → Bool → Int → List Int → List (List (List Int)) → Option (Bool)
  | 0, _, _, _, _, _, _ => none
  | k + 1, x2, x3, x25, x288000, x288001, x288002 => if x25 = true then (some false) else ((antiquaryref04_Valid.f k x2).bind fun t291 => ((antiquaryref04_Valid.f k x3).bind fun t292 => (if t291 = true then (if t292 = true then (if (x2.length : Int) = x288000 then (some ((x3.length : Int) == x288000)) else (some false)) else (some false)) else (some false))))
def antiquarylaw08_right.f (k : Nat) (a0_0 : Int) (l0_1 : List Int) (l0_2 : List (List (List Int))) (a1 : Int) (l2 : List Int) (l3 : List Int) : Option (Bool) := (antiquaryref08_Few.f k a0_0 l0_1 l0_2).bind fun t288 => (if t288 = true then ((antiquaryref08_Check.f k a0_0 l0_1 l0_2).bind fun t289 => (if t289 = 0 then ((antiquaryref04_Metric.f a1).bind fun t290 => (antiquarylaw08_right.j0 k l2 l3 (!t290) a0_0 l0_1 l0_2)) else (antiquarylaw08_right.j0 k l2 l3 true a0_0 l0_1 l0_2))) else (antiquarylaw08_right.j0 k l2 l3 true a0_0 l0_1 l0_2))
set_option maxHeartbeats 8000000 in
set_option maxRecDepth 100000 in
theorem antiquarylaw08_right.calls (k : Nat) (a0_0 : Int) (A0_1 : Option Addr) (c0_1 : Nat) (l0_1 : List Int) (A0_2 : Option Addr) (c0_2 : Nat) (l0_2 : List (List (List Int))) (a1 : Int) (A2 : Option Addr) (c2 : Nat) (l2 : List Int) (A3 : Option Addr) (c3 : Nat) (l3 : List Int) (r : Bool) (w : World) (hr0_1 : Kd.C (Kd.int .i64) w A0_1 l0_1.length l0_1) (hc0_1 : l0_1.length ≤ c0_1) (hr0_2 : Kd.C (Kd.slice 22 (Kd.slice 3 (Kd.int .i64))) w A0_2 l0_2.length l0_2) (hc0_2 : l0_2.length ≤ c0_2) (hr2 : Kd.C (Kd.int .i64) w A2 l2.length l2) (hc2 : l2.length ≤ c2) (hr3 : Kd.C (Kd.int .i64) w A3 l3.length l3) (hc3 : l3.length ≤ c3) (h : antiquarylaw08_right.f k a0_0 l0_1 l0_2 a1 l2 l3 = some r) :
    Calls Try.prog 14 #[.agg #[.int .i64 a0_0, .slice A0_1 l0_1.length c0_1, .slice A0_2 l0_2.length c0_2], .int .i64 a1, .slice A2 l2.length c2, .slice A3 l3.length c3] w fun e w' => e = .returned (.bool r) ∧ Below w.heap.size w w' := by
  have hu25 := Try.underlying25
  have HR0_1 := Aside0.mk hr0_1
  have HC0_1 := Aside0.mk hc0_1
  clear hr0_1 hc0_1
  have HR0_2 := Aside0.mk hr0_2
  have HC0_2 := Aside0.mk hc0_2
  clear hr0_2 hc0_2
  have HR2 := Aside0.mk hr2
  have HC2 := Aside0.mk hc2
  clear hr2 hc2
  have HR3 := Aside0.mk hr3
  have HC3 := Aside0.mk hc3
  clear hr3 hc3
  have HB := Aside0.mk (Below.refl w.heap.size w)
  have H : ((antiquaryref08_Few.f k a0_0 l0_1 l0_2).bind fun t288 => (if t288 = true then ((antiquaryref08_Check.f k a0_0 l0_1 l0_2).bind fun t289 => (if t289 = 0 then ((antiquaryref04_Metric.f a1).bind fun t290 => (antiquarylaw08_right.j0 k l2 l3 (!t290) a0_0 l0_1 l0_2)) else (antiquarylaw08_right.j0 k l2 l3 true a0_0 l0_1 l0_2))) else (antiquarylaw08_right.j0 k l2 l3 true a0_0 l0_1 l0_2))) = some r := h
  clear h
  replace H := Option.bind_eq_some_iff.mp H
  obtain ⟨t288, A50, H⟩ := H
  replace H : (if t288 = true then ((antiquaryref08_Check.f k a0_0 l0_1 l0_2).bind fun t289 => (if t289 = 0 then ((antiquaryref04_Metric.f a1).bind fun t290 => (antiquarylaw08_right.j0 k l2 l3 (!t290) a0_0 l0_1 l0_2)) else (antiquarylaw08_right.j0 k l2 l3 true a0_0 l0_1 l0_2))) else (antiquarylaw08_right.j0 k l2 l3 true a0_0 l0_1 l0_2)) = some r := H
  have A5 := Aside0.mk A50
  clear A50
  have HC6 := Aside0.mk H
  clear H
  go_enter Try.func14, Try.ntmps14
  go_upto_region 2 with (first | ((with_reducible refine gate_dst (N := 4) rfl ?_); (try (refine gate_guard (by rfl) ?_; dsimp only)); refine box_event ?hg (N := 4) ?hd (cs := #[.int .i64 a0_0, .slice A0_1 l0_1.length c0_1, .slice A0_2 l0_2.length c0_2]) (t := 25) ?hr ?_; (case hd => rfl); (case hg => rfl); (case hr => first | (go_simp; done) | (go_simp; rfl)); intro gb287 hg w7 hbox hb; have n0_ := Aside0.mk (below_step (by repeat (first | (with_reducible first | exact HB.out | apply below_alloc | apply pw_below_drewN | apply below_drew1) | exact HB.out)) hb); have n1_ := Aside0.mk (hbox); have n2_ := Aside0.mk ((by rw [hg]; exact (below_size (by repeat (first | (with_reducible first | exact HB.out | apply below_alloc | apply pw_below_drewN | apply below_drew1) | exact HB.out))) : w.heap.size ≤ gb287)); have n3_ := Aside0.mk ((by rw [hg]; exact (below_size (by repeat (first | (with_reducible first | exact HB.out | apply below_alloc | apply pw_below_drewN | apply below_drew1) | exact HB.out))) : w.heap.size ≤ gb287)); clear HB; have HB := n0_; have BK287 := n1_; have GW287 := n2_; have GE287 := n3_; clear n0_ n1_ n2_ n3_; clear hb hbox hg; have hcz8_0 : w7.cell? ⟨gb287, 0, none⟩ = some (.int .i64 a0_0) := (blk_cell BK287.out 0).trans rfl; have hcz8_1 : w7.cell? ⟨gb287, 1, none⟩ = some (.slice A0_1 l0_1.length c0_1) := (blk_cell BK287.out 1).trans rfl; have hcz8_2 : w7.cell? ⟨gb287, 2, none⟩ = some (.slice A0_2 l0_2.length c0_2) := (blk_cell BK287.out 2).trans rfl; have hfz8_0 := blk_frozen BK287.out 0; have hfz8_1 := blk_frozen BK287.out 1; have hfz8_2 := blk_frozen BK287.out 2) | ((with_reducible refine gate_callee (f := 10) rfl ?_); refine goesL_ (some 13) rfl rfl Try.func10 (by kernel_rfl) rfl #[.agg #[.int .i64 a0_0, .slice A0_1 l0_1.length c0_1, .slice A0_2 l0_2.length c0_2]] rfl (by (try simp only [List.map_toArray, List.map_cons, List.map_nil]); first | done | rfl | (simp only [List.length_drop, List.length_take]; rfl)) ?_; (with_reducible refine (antiquaryref08_Few.calls k a0_0 _ _ l0_1 _ _ l0_2 t288 _ ?side1 ?side2 ?side3 ?side4 A5.out).mono ?_); (case side1 => repeat (first | exact (Kd.C_below HR0_1.out HB.out) | (with_reducible refine Kd.C_alloc ?_ _) | (with_reducible refine Kd.C_drewN ?_ _) | (with_reducible refine Kd.C_drew ?_))); (case side2 => exact HC0_1.out); (case side3 => repeat (first | exact (Kd.C_below HR0_2.out HB.out) | (with_reducible refine Kd.C_alloc ?_ _) | (with_reducible refine Kd.C_drewN ?_ _) | (with_reducible refine Kd.C_drew ?_))); (case side4 => exact HC0_2.out); rintro e w9 ⟨rfl, hb⟩; refine ⟨_, rfl, ?_⟩; have n0_ := Aside0.mk (blk_below (g := gb287) (o := .cells #[.int .i64 a0_0, .slice A0_1 l0_1.length c0_1, .slice A0_2 l0_2.length c0_2] 25 (0, 0)) (by (with_reducible repeat (first | refine blk_drewN ?_ _ | refine blk_drew ?_ | refine blk_alloc ?_ _)); exact BK287.out) hb); have n1_ := Aside0.mk (below_step (by repeat (first | (with_reducible first | exact HB.out | apply below_alloc | apply pw_below_drewN | apply below_drew1 | refine below_set ?_ GE287.out) | exact HB.out)) hb); clear BK287; clear HB; have BK287 := n0_; have HB := n1_; clear n0_ n1_; (try clear hb); (try clear hb2); (try clear hk); (try clear hi)))
  (try simp only [Act.put, List.setIfInBounds_toArray, List.set_cons_zero, List.set_cons_succ])
  go_cut [25] (fun v25 wc => ∃ (kq : Nat) (x25_5 : Bool), v25 = .bool x25_5 ∧ Aside0 (antiquarylaw08_right.j0 kq l2 l3 x25_5 a0_0 l0_1 l0_2 = some r) ∧ Aside0 (kq ≤ k) ∧ Aside0 (wc.heap[gb287]? = some (.cells #[.int .i64 a0_0, (.slice A0_1 l0_1.length c0_1), (.slice A0_2 l0_2.length c0_2)] 25 (0, 0))) ∧ Aside0 (Below w.heap.size w wc))
  case first =>
    have H := HC6.out
    clear HC6
    by_cases c10 : t288 = true
    · subst c10
      have H1 : ((antiquaryref08_Check.f k a0_0 l0_1 l0_2).bind fun t289 => (if t289 = 0 then ((antiquaryref04_Metric.f a1).bind fun t290 => (antiquarylaw08_right.j0 k l2 l3 (!t290) a0_0 l0_1 l0_2)) else (antiquarylaw08_right.j0 k l2 l3 true a0_0 l0_1 l0_2))) = some r := by rw [if_pos rfl] at H; exact H
      clear H
      have H := H1
      clear H1
      replace H := Option.bind_eq_some_iff.mp H
      obtain ⟨t289, A110, H⟩ := H
      replace H : (if t289 = 0 then ((antiquaryref04_Metric.f a1).bind fun t290 => (antiquarylaw08_right.j0 k l2 l3 (!t290) a0_0 l0_1 l0_2)) else (antiquarylaw08_right.j0 k l2 l3 true a0_0 l0_1 l0_2)) = some r := H
      have A11 := Aside0.mk A110
      clear A110
      by_cases c12 : t289 = 0
      · rw [if_pos c12] at H
        have c12b0 : (t289 == 0) = true := beq_iff_eq.mpr c12
        have c12b1 : (t289 != 0) = false := bne_eq_false_iff_eq.mpr c12
        clear c12
        (first | rw [c12b0] | (simp only [i64_w, i32_w]; rw [c12b0]) | skip)
        replace H := Option.bind_eq_some_iff.mp H
        obtain ⟨t290, A130, H⟩ := H
        replace H : (antiquarylaw08_right.j0 k l2 l3 (!t290) a0_0 l0_1 l0_2) = some r := H
        have A13 := Aside0.mk A130
        clear A130
        have H' := Aside0.mk H
        clear H
        have hcz14_0 : w9.cell? ⟨gb287, 0, none⟩ = some (.int .i64 a0_0) := (blk_cell BK287.out 0).trans rfl
        have hcz14_1 : w9.cell? ⟨gb287, 1, none⟩ = some (.slice A0_1 l0_1.length c0_1) := (blk_cell BK287.out 1).trans rfl
        have hcz14_2 : w9.cell? ⟨gb287, 2, none⟩ = some (.slice A0_2 l0_2.length c0_2) := (blk_cell BK287.out 2).trans rfl
        have hfz14_0 := blk_frozen BK287.out 0
        have hfz14_1 := blk_frozen BK287.out 1
        have hfz14_2 := blk_frozen BK287.out 2
        go_wp2_with (first | (go_at_call 13; (with_reducible refine (antiquaryref08_Check.calls k a0_0 _ _ l0_1 _ _ l0_2 t289 _ ?side1 ?side2 ?side3 ?side4 A11.out).mono ?_); (case side1 => repeat (first | exact (Kd.C_below HR0_1.out HB.out) | (with_reducible refine Kd.C_alloc ?_ _) | (with_reducible refine Kd.C_drewN ?_ _) | (with_reducible refine Kd.C_drew ?_))); (case side2 => exact HC0_1.out); (case side3 => repeat (first | exact (Kd.C_below HR0_2.out HB.out) | (with_reducible refine Kd.C_alloc ?_ _) | (with_reducible refine Kd.C_drewN ?_ _) | (with_reducible refine Kd.C_drew ?_))); (case side4 => exact HC0_2.out); rintro e w15 ⟨rfl, hb⟩; have n0_ := Aside0.mk (blk_below (g := gb287) (o := .cells #[.int .i64 a0_0, .slice A0_1 l0_1.length c0_1, .slice A0_2 l0_2.length c0_2] 25 (0, 0)) (by (with_reducible repeat (first | refine blk_drewN ?_ _ | refine blk_drew ?_ | refine blk_alloc ?_ _)); exact BK287.out) hb); have n1_ := Aside0.mk (below_step (by repeat (first | (with_reducible first | exact HB.out | apply below_alloc | apply pw_below_drewN | apply below_drew1 | refine below_set ?_ GE287.out) | exact HB.out)) hb); clear BK287; clear HB; have BK287 := n0_; have HB := n1_; clear n0_ n1_; (try clear hb); (try clear hb2); (try clear hk); (try clear hi)) | (go_at_call 34; (with_reducible refine (antiquaryref04_Metric.calls a1 t290 _ A13.out).mono ?_); rintro e w' ⟨rfl, ⟨nd, rfl⟩⟩))
        go_meet
        case rel => exact ⟨_, (!t290), (by first | rfl | (simp; done) | (simp [*]; done)), H', ⟨by first | omega | exact Nat.le_refl _⟩, ⟨by (with_reducible repeat (first | refine blk_drewN ?_ _ | refine blk_drew ?_ | refine blk_alloc ?_ _)); exact BK287.out⟩, ⟨by repeat (first | (with_reducible first | exact HB.out | apply below_alloc | apply pw_below_drewN | apply below_drew1 | refine below_set ?_ GE287.out) | exact HB.out)⟩⟩
      · rw [if_neg c12] at H
        have c12b0 : (t289 == 0) = false := beq_eq_false_iff_ne.mpr c12
        have c12b1 : (t289 != 0) = true := bne_iff_ne.mpr c12
        (first | rw [c12b0] | (simp only [i64_w, i32_w]; rw [c12b0]) | skip)
        have H' := Aside0.mk H
        clear H
        have hcz16_0 : w9.cell? ⟨gb287, 0, none⟩ = some (.int .i64 a0_0) := (blk_cell BK287.out 0).trans rfl
        have hcz16_1 : w9.cell? ⟨gb287, 1, none⟩ = some (.slice A0_1 l0_1.length c0_1) := (blk_cell BK287.out 1).trans rfl
        have hcz16_2 : w9.cell? ⟨gb287, 2, none⟩ = some (.slice A0_2 l0_2.length c0_2) := (blk_cell BK287.out 2).trans rfl
        have hfz16_0 := blk_frozen BK287.out 0
        have hfz16_1 := blk_frozen BK287.out 1
        have hfz16_2 := blk_frozen BK287.out 2
        go_wp2_with (first | (go_at_call 13; (with_reducible refine (antiquaryref08_Check.calls k a0_0 _ _ l0_1 _ _ l0_2 t289 _ ?side1 ?side2 ?side3 ?side4 A11.out).mono ?_); (case side1 => repeat (first | exact (Kd.C_below HR0_1.out HB.out) | (with_reducible refine Kd.C_alloc ?_ _) | (with_reducible refine Kd.C_drewN ?_ _) | (with_reducible refine Kd.C_drew ?_))); (case side2 => exact HC0_1.out); (case side3 => repeat (first | exact (Kd.C_below HR0_2.out HB.out) | (with_reducible refine Kd.C_alloc ?_ _) | (with_reducible refine Kd.C_drewN ?_ _) | (with_reducible refine Kd.C_drew ?_))); (case side4 => exact HC0_2.out); rintro e w17 ⟨rfl, hb⟩; have n0_ := Aside0.mk (blk_below (g := gb287) (o := .cells #[.int .i64 a0_0, .slice A0_1 l0_1.length c0_1, .slice A0_2 l0_2.length c0_2] 25 (0, 0)) (by (with_reducible repeat (first | refine blk_drewN ?_ _ | refine blk_drew ?_ | refine blk_alloc ?_ _)); exact BK287.out) hb); have n1_ := Aside0.mk (below_step (by repeat (first | (with_reducible first | exact HB.out | apply below_alloc | apply pw_below_drewN | apply below_drew1 | refine below_set ?_ GE287.out) | exact HB.out)) hb); clear BK287; clear HB; have BK287 := n0_; have HB := n1_; clear n0_ n1_; (try clear hb); (try clear hb2); (try clear hk); (try clear hi)))
        go_meet
        case rel => exact ⟨_, (true), (by first | rfl | (simp; done) | (simp [*]; done)), H', ⟨by first | omega | exact Nat.le_refl _⟩, ⟨by (with_reducible repeat (first | refine blk_drewN ?_ _ | refine blk_drew ?_ | refine blk_alloc ?_ _)); exact BK287.out⟩, ⟨by repeat (first | (with_reducible first | exact HB.out | apply below_alloc | apply pw_below_drewN | apply below_drew1 | refine below_set ?_ GE287.out) | exact HB.out)⟩⟩
    · replace c10 := Bool.eq_false_iff.mpr c10
      subst c10
      have H1 : (antiquarylaw08_right.j0 k l2 l3 true a0_0 l0_1 l0_2) = some r := by rw [if_neg (show ¬ (false = true) by decide)] at H; exact H
      clear H
      have H := H1
      clear H1
      have H' := Aside0.mk H
      clear H
      go_wp2
      go_meet
      case rel => exact ⟨_, (true), (by first | rfl | (simp; done) | (simp [*]; done)), H', ⟨by first | omega | exact Nat.le_refl _⟩, ⟨by (with_reducible repeat (first | refine blk_drewN ?_ _ | refine blk_drew ?_ | refine blk_alloc ?_ _)); exact BK287.out⟩, ⟨by repeat (first | (with_reducible first | exact HB.out | apply below_alloc | apply pw_below_drewN | apply below_drew1 | refine below_set ?_ GE287.out) | exact HB.out)⟩⟩
  case rest =>
    clear HC6
    try clear c1
    try clear c2
    try clear p2
    try clear c3
    try clear c10
    try clear c12
    try clear c12b0
    try clear c12b1
    try clear c14
    try clear hcz14_0
    try clear hcz14_1
    try clear hcz14_2
    try clear hcz16_0
    try clear hcz16_1
    try clear hcz16_2
    try clear hcz8_0
    try clear hcz8_1
    try clear hcz8_2
    try clear hfz14_0
    try clear hfz14_1
    try clear hfz14_2
    try clear hfz16_0
    try clear hfz16_1
    try clear hfz16_2
    try clear hfz8_0
    try clear hfz8_1
    try clear hfz8_2
    obtain ⟨kq, x25_5, rfl, HA, HJ5, BK287, HB⟩ := hcut
    cases kq with
    | zero => exact absurd HA.out (by simp [antiquarylaw08_right.j0])
    | succ kj5 =>
      have H := HA.out
      clear HA
      simp only [antiquarylaw08_right.j0] at H
      by_cases c18 : x25_5 = true
      · subst c18
        have H1 : (some false) = some r := by rw [if_pos rfl] at H; exact H
        clear H
        have H := H1
        clear H1
        obtain rfl := Option.some.inj H
        go_wp2
        go_ret
        exact ⟨by first | rfl | (simp [errW_none, errW_some] <;> rfl) | (simp [*, errW_none, errW_some] <;> rfl), by repeat (first | (with_reducible first | exact HB.out | apply below_alloc | apply pw_below_drewN | apply below_drew1 | refine below_set ?_ GE287.out) | exact HB.out)⟩
      · replace c18 := Bool.eq_false_iff.mpr c18
        subst c18
        have H1 : ((antiquaryref04_Valid.f kj5 l2).bind fun t291 => ((antiquaryref04_Valid.f kj5 l3).bind fun t292 => (if t291 = true then (if t292 = true then (if (l2.length : Int) = a0_0 then (some ((l3.length : Int) == a0_0)) else (some false)) else (some false)) else (some false)))) = some r := by rw [if_neg (show ¬ (false = true) by decide)] at H; exact H
        clear H
        have H := H1
        clear H1
        replace H := Option.bind_eq_some_iff.mp H
        obtain ⟨t291, A190, H⟩ := H
        replace H : ((antiquaryref04_Valid.f kj5 l3).bind fun t292 => (if t291 = true then (if t292 = true then (if (l2.length : Int) = a0_0 then (some ((l3.length : Int) == a0_0)) else (some false)) else (some false)) else (some false))) = some r := H
        have A19 := Aside0.mk A190
        clear A190
        replace H := Option.bind_eq_some_iff.mp H
        obtain ⟨t292, A200, H⟩ := H
        replace H : (if t291 = true then (if t292 = true then (if (l2.length : Int) = a0_0 then (some ((l3.length : Int) == a0_0)) else (some false)) else (some false)) else (some false)) = some r := H
        have A20 := Aside0.mk A200
        clear A200
        by_cases c21 : t291 = true
        · subst c21
          have H1 : (if t292 = true then (if (l2.length : Int) = a0_0 then (some ((l3.length : Int) == a0_0)) else (some false)) else (some false)) = some r := by rw [if_pos rfl] at H; exact H
          clear H
          have H := H1
          clear H1
          by_cases c22 : t292 = true
          · subst c22
            have H1 : (if (l2.length : Int) = a0_0 then (some ((l3.length : Int) == a0_0)) else (some false)) = some r := by rw [if_pos rfl] at H; exact H
            clear H
            have H := H1
            clear H1
            by_cases c23 : (l2.length : Int) = a0_0
            · rw [if_pos c23] at H
              have c23b0 : ((l2.length : Int) == a0_0) = true := beq_iff_eq.mpr c23
              have c23b1 : ((l2.length : Int) != a0_0) = false := bne_eq_false_iff_eq.mpr c23
              clear c23
              obtain rfl := Option.some.inj H
              go_wp2_with (first | ((with_reducible refine gate_callee (f := 44) rfl ?_); refine goesL_ (some 27) rfl rfl Try.func44 (by kernel_rfl) rfl #[.slice A2 l2.length c2] rfl (by (try simp only [List.map_toArray, List.map_cons, List.map_nil]); first | done | rfl | (simp only [List.length_drop, List.length_take]; rfl)) ?_; (with_reducible refine (antiquaryref04_Valid.calls kj5 _ _ l2 true _ ?side1 ?side2 A19.out).mono ?_); (case side1 => repeat (first | exact (Kd.C_below HR2.out HB.out) | (with_reducible refine Kd.C_alloc ?_ _) | (with_reducible refine Kd.C_drewN ?_ _) | (with_reducible refine Kd.C_drew ?_))); (case side2 => exact HC2.out); rintro e w' ⟨rfl, ⟨nd, rfl⟩⟩; refine ⟨_, rfl, ?_⟩) | ((with_reducible refine gate_callee (f := 44) rfl ?_); refine goesL_ (some 29) rfl rfl Try.func44 (by kernel_rfl) rfl #[.slice A3 l3.length c3] rfl (by (try simp only [List.map_toArray, List.map_cons, List.map_nil]); first | done | rfl | (simp only [List.length_drop, List.length_take]; rfl)) ?_; (with_reducible refine (antiquaryref04_Valid.calls kj5 _ _ l3 true _ ?side1 ?side2 A20.out).mono ?_); (case side1 => repeat (first | exact (Kd.C_below HR3.out (by repeat (first | (with_reducible first | exact HB.out | apply below_alloc | apply pw_below_drewN | apply below_drew1 | refine below_set ?_ GE287.out) | exact HB.out))) | (with_reducible refine Kd.C_alloc ?_ _) | (with_reducible refine Kd.C_drewN ?_ _) | (with_reducible refine Kd.C_drew ?_))); (case side2 => exact HC3.out); rintro e w' ⟨rfl, ⟨nd, rfl⟩⟩; refine ⟨_, rfl, ?_⟩; have hcz24_0 : wc.cell? ⟨gb287, 0, none⟩ = some (.int .i64 a0_0) := (blk_cell BK287.out 0).trans rfl; have hcz24_1 : wc.cell? ⟨gb287, 1, none⟩ = some (.slice A0_1 l0_1.length c0_1) := (blk_cell BK287.out 1).trans rfl; have hcz24_2 : wc.cell? ⟨gb287, 2, none⟩ = some (.slice A0_2 l0_2.length c0_2) := (blk_cell BK287.out 2).trans rfl; have hfz24_0 := blk_frozen BK287.out 0; have hfz24_1 := blk_frozen BK287.out 1; have hfz24_2 := blk_frozen BK287.out 2))
              go_ret
              exact ⟨by first | rfl | (simp [errW_none, errW_some] <;> rfl) | (simp [*, errW_none, errW_some] <;> rfl), by repeat (first | (with_reducible first | exact HB.out | apply below_alloc | apply pw_below_drewN | apply below_drew1 | refine below_set ?_ GE287.out) | exact HB.out)⟩
            · rw [if_neg c23] at H
              have c23b0 : ((l2.length : Int) == a0_0) = false := beq_eq_false_iff_ne.mpr c23
              have c23b1 : ((l2.length : Int) != a0_0) = true := bne_iff_ne.mpr c23
              obtain rfl := Option.some.inj H
              go_wp2_with (first | ((with_reducible refine gate_callee (f := 44) rfl ?_); refine goesL_ (some 27) rfl rfl Try.func44 (by kernel_rfl) rfl #[.slice A2 l2.length c2] rfl (by (try simp only [List.map_toArray, List.map_cons, List.map_nil]); first | done | rfl | (simp only [List.length_drop, List.length_take]; rfl)) ?_; (with_reducible refine (antiquaryref04_Valid.calls kj5 _ _ l2 true _ ?side1 ?side2 A19.out).mono ?_); (case side1 => repeat (first | exact (Kd.C_below HR2.out HB.out) | (with_reducible refine Kd.C_alloc ?_ _) | (with_reducible refine Kd.C_drewN ?_ _) | (with_reducible refine Kd.C_drew ?_))); (case side2 => exact HC2.out); rintro e w' ⟨rfl, ⟨nd, rfl⟩⟩; refine ⟨_, rfl, ?_⟩) | ((with_reducible refine gate_callee (f := 44) rfl ?_); refine goesL_ (some 29) rfl rfl Try.func44 (by kernel_rfl) rfl #[.slice A3 l3.length c3] rfl (by (try simp only [List.map_toArray, List.map_cons, List.map_nil]); first | done | rfl | (simp only [List.length_drop, List.length_take]; rfl)) ?_; (with_reducible refine (antiquaryref04_Valid.calls kj5 _ _ l3 true _ ?side1 ?side2 A20.out).mono ?_); (case side1 => repeat (first | exact (Kd.C_below HR3.out (by repeat (first | (with_reducible first | exact HB.out | apply below_alloc | apply pw_below_drewN | apply below_drew1 | refine below_set ?_ GE287.out) | exact HB.out))) | (with_reducible refine Kd.C_alloc ?_ _) | (with_reducible refine Kd.C_drewN ?_ _) | (with_reducible refine Kd.C_drew ?_))); (case side2 => exact HC3.out); rintro e w' ⟨rfl, ⟨nd, rfl⟩⟩; refine ⟨_, rfl, ?_⟩; have hcz25_0 : wc.cell? ⟨gb287, 0, none⟩ = some (.int .i64 a0_0) := (blk_cell BK287.out 0).trans rfl; have hcz25_1 : wc.cell? ⟨gb287, 1, none⟩ = some (.slice A0_1 l0_1.length c0_1) := (blk_cell BK287.out 1).trans rfl; have hcz25_2 : wc.cell? ⟨gb287, 2, none⟩ = some (.slice A0_2 l0_2.length c0_2) := (blk_cell BK287.out 2).trans rfl; have hfz25_0 := blk_frozen BK287.out 0; have hfz25_1 := blk_frozen BK287.out 1; have hfz25_2 := blk_frozen BK287.out 2))
              go_ret
              exact ⟨by first | rfl | (simp [errW_none, errW_some] <;> rfl) | (simp [*, errW_none, errW_some] <;> rfl), by repeat (first | (with_reducible first | exact HB.out | apply below_alloc | apply pw_below_drewN | apply below_drew1 | refine below_set ?_ GE287.out) | exact HB.out)⟩
          · replace c22 := Bool.eq_false_iff.mpr c22
            subst c22
            have H1 : (some false) = some r := by rw [if_neg (show ¬ (false = true) by decide)] at H; exact H
            clear H
            have H := H1
            clear H1
            obtain rfl := Option.some.inj H
            go_wp2_with (first | ((with_reducible refine gate_callee (f := 44) rfl ?_); refine goesL_ (some 27) rfl rfl Try.func44 (by kernel_rfl) rfl #[.slice A2 l2.length c2] rfl (by (try simp only [List.map_toArray, List.map_cons, List.map_nil]); first | done | rfl | (simp only [List.length_drop, List.length_take]; rfl)) ?_; (with_reducible refine (antiquaryref04_Valid.calls kj5 _ _ l2 true _ ?side1 ?side2 A19.out).mono ?_); (case side1 => repeat (first | exact (Kd.C_below HR2.out HB.out) | (with_reducible refine Kd.C_alloc ?_ _) | (with_reducible refine Kd.C_drewN ?_ _) | (with_reducible refine Kd.C_drew ?_))); (case side2 => exact HC2.out); rintro e w' ⟨rfl, ⟨nd, rfl⟩⟩; refine ⟨_, rfl, ?_⟩) | ((with_reducible refine gate_callee (f := 44) rfl ?_); refine goesL_ (some 29) rfl rfl Try.func44 (by kernel_rfl) rfl #[.slice A3 l3.length c3] rfl (by (try simp only [List.map_toArray, List.map_cons, List.map_nil]); first | done | rfl | (simp only [List.length_drop, List.length_take]; rfl)) ?_; (with_reducible refine (antiquaryref04_Valid.calls kj5 _ _ l3 false _ ?side1 ?side2 A20.out).mono ?_); (case side1 => repeat (first | exact (Kd.C_below HR3.out (by repeat (first | (with_reducible first | exact HB.out | apply below_alloc | apply pw_below_drewN | apply below_drew1 | refine below_set ?_ GE287.out) | exact HB.out))) | (with_reducible refine Kd.C_alloc ?_ _) | (with_reducible refine Kd.C_drewN ?_ _) | (with_reducible refine Kd.C_drew ?_))); (case side2 => exact HC3.out); rintro e w' ⟨rfl, ⟨nd, rfl⟩⟩; refine ⟨_, rfl, ?_⟩))
            go_ret
            exact ⟨by first | rfl | (simp [errW_none, errW_some] <;> rfl) | (simp [*, errW_none, errW_some] <;> rfl), by repeat (first | (with_reducible first | exact HB.out | apply below_alloc | apply pw_below_drewN | apply below_drew1 | refine below_set ?_ GE287.out) | exact HB.out)⟩
        · replace c21 := Bool.eq_false_iff.mpr c21
          subst c21
          have H1 : (some false) = some r := by rw [if_neg (show ¬ (false = true) by decide)] at H; exact H
          clear H
          have H := H1
          clear H1
          obtain rfl := Option.some.inj H
          go_wp2_with (first | ((with_reducible refine gate_callee (f := 44) rfl ?_); refine goesL_ (some 27) rfl rfl Try.func44 (by kernel_rfl) rfl #[.slice A2 l2.length c2] rfl (by (try simp only [List.map_toArray, List.map_cons, List.map_nil]); first | done | rfl | (simp only [List.length_drop, List.length_take]; rfl)) ?_; (with_reducible refine (antiquaryref04_Valid.calls kj5 _ _ l2 false _ ?side1 ?side2 A19.out).mono ?_); (case side1 => repeat (first | exact (Kd.C_below HR2.out HB.out) | (with_reducible refine Kd.C_alloc ?_ _) | (with_reducible refine Kd.C_drewN ?_ _) | (with_reducible refine Kd.C_drew ?_))); (case side2 => exact HC2.out); rintro e w' ⟨rfl, ⟨nd, rfl⟩⟩; refine ⟨_, rfl, ?_⟩) | ((with_reducible refine gate_callee (f := 44) rfl ?_); refine goesL_ (some 29) rfl rfl Try.func44 (by kernel_rfl) rfl #[.slice A3 l3.length c3] rfl (by (try simp only [List.map_toArray, List.map_cons, List.map_nil]); first | done | rfl | (simp only [List.length_drop, List.length_take]; rfl)) ?_; (with_reducible refine (antiquaryref04_Valid.calls kj5 _ _ l3 t292 _ ?side1 ?side2 A20.out).mono ?_); (case side1 => repeat (first | exact (Kd.C_below HR3.out (by repeat (first | (with_reducible first | exact HB.out | apply below_alloc | apply pw_below_drewN | apply below_drew1 | refine below_set ?_ GE287.out) | exact HB.out))) | (with_reducible refine Kd.C_alloc ?_ _) | (with_reducible refine Kd.C_drewN ?_ _) | (with_reducible refine Kd.C_drew ?_))); (case side2 => exact HC3.out); rintro e w' ⟨rfl, ⟨nd, rfl⟩⟩; refine ⟨_, rfl, ?_⟩))
          go_ret
          exact ⟨by first | rfl | (simp [errW_none, errW_some] <;> rfl) | (simp [*, errW_none, errW_some] <;> rfl), by repeat (first | (with_reducible first | exact HB.out | apply below_alloc | apply pw_below_drewN | apply below_drew1 | refine below_set ?_ GE287.out) | exact HB.out)⟩
end Go.Proofs.Ytgpdfalopdhjlaa.Q
end
section
namespace Go.Proofs.Ytgpdfalopdhjlaa.Q
open Go.RowKit Go.Proofs.YtgpdfalopdhjlaaW.PrintWords Go.Proofs.YtgpdfalopdhjlaaW.PrintLast Go.Proofs.YtgpdfalopdhjlaaW.PrintMore
attribute [local go_sem] max2_int min2_int max_two min_two max_three min_three max_four min_four   -- for this text's walks alone
set_option linter.unusedVariables false
set_option linter.unusedSimpArgs false
def antiquaryref04_size.f (a0 : Int) : Option (Int) := if a0 < 0 then (some (wrap64 (-a0))) else (some a0)
set_option maxHeartbeats 8000000 in
set_option maxRecDepth 100000 in
theorem antiquaryref04_size.calls (a0 : Int) (r : Int) (w : World) (h : antiquaryref04_size.f a0 = some r) :
    Calls Try.prog 73 #[.int .i64 a0] w fun e w' => e = .returned (.int .i64 r) ∧ Drawn0 w w' := by
  have H : (if a0 < 0 then (some (wrap64 (-a0))) else (some a0)) = some r := h
  clear h
  by_cases c2 : a0 < 0
  · rw [if_pos c2] at H
    have c2b0 : decide (a0 < 0) = true := decide_eq_true c2
    clear c2
    obtain rfl := Option.some.inj H
    go_enter Try.func73, Try.ntmps73
    go_wp2
    go_ret
    exact ⟨by first | rfl | (simp; done) | (simp [*]; done), by repeat (first | exact Drawn0.refl _ | apply Drawn0.step)⟩
  · rw [if_neg c2] at H
    have c2b0 : decide (a0 < 0) = false := decide_eq_false c2
    clear c2
    obtain rfl := Option.some.inj H
    go_enter Try.func73, Try.ntmps73
    go_wp2
    go_ret
    exact ⟨by first | rfl | (simp; done) | (simp [*]; done), by repeat (first | exact Drawn0.refl _ | apply Drawn0.step)⟩
def antiquaryref04_Norm.l0 : Nat → Int → List Int → Int → Int → Option (Int)
  | 0, _, _, _, _ => none
  | k + 1, x0, x1, x5, x6 => if x6 < (x1.length : Int) then (if x0 = 1 then (if 0 ≤ x6 then ((antiquaryref04_size.f (rd x1 x6)).bind fun t305 => (antiquaryref04_Norm.l0 k x0 x1 (wrap64 (x5 + t305)) (wrap64 (x6 + 1)))) else (none)) else (if x0 = 2 then (if 0 ≤ x6 then (antiquaryref04_Norm.l0 k x0 x1 (wrap64 (x5 + (wrap64 ((rd x1 x6) * (rd x1 x6))))) (wrap64 (x6 + 1))) else (none)) else (if 0 ≤ x6 then ((antiquaryref04_size.f (rd x1 x6)).bind fun t309 => (antiquaryref04_Norm.l0 k x0 x1 (mx x5 t309) (wrap64 (x6 + 1)))) else (none)))) else (some x5)
def antiquaryref04_Norm.f (k : Nat) (a0 : Int) (l1 : List Int) : Option (Int) := antiquaryref04_Norm.l0 k a0 l1 0 0
set_option maxHeartbeats 8000000 in
set_option maxRecDepth 100000 in
theorem antiquaryref04_Norm.calls (k : Nat) (a0 : Int) (A1 : Option Addr) (c1 : Nat) (l1 : List Int) (r : Int) (w : World) (hr1 : Kd.C (Kd.int .i64) w A1 l1.length l1) (hc1 : l1.length ≤ c1) (h : antiquaryref04_Norm.f k a0 l1 = some r) :
    Calls Try.prog 56 #[.int .i64 a0, .slice A1 l1.length c1] w fun e w' => e = .returned (.int .i64 r) ∧ Below w.heap.size w w' := by
  have HR1 := Aside0.mk hr1
  have HC1 := Aside0.mk hc1
  clear hr1 hc1
  have HB := Aside0.mk (Below.refl w.heap.size w)
  have H : (antiquaryref04_Norm.l0 k a0 l1 0 0) = some r := h
  clear h
  have H' := Aside0.mk H
  clear H
  go_enter Try.func56, Try.ntmps56
  go_wp2
  repeat (go_quiet (fail); try go_wp2)
  go_loopg [5, 6] k (fun kq v5 v6 w' => ∃ (x5_1 : Int) (x6_1 : Int), v5 = .int .i64 x5_1 ∧ v6 = .int .i64 x6_1 ∧ Aside0 (antiquaryref04_Norm.l0 kq a0 l1 x5_1 x6_1 = some r) ∧ Aside0 (kq ≤ k) ∧ Aside0 (Below w.heap.size w w'))
  case atStart => exact ⟨(0), (0), (by first | rfl | (simp; done) | (simp [*]; done)), (by first | rfl | (simp; done) | (simp [*]; done)), H', ⟨Nat.le_refl _⟩, ⟨by repeat (first | (with_reducible first | exact HB.out | apply below_alloc | apply pw_below_drewN | apply below_drew1) | exact HB.out)⟩⟩
  case round =>
    clear H'
    try clear c1
    try clear p2
    obtain ⟨x5_1, x6_1, rfl, rfl, HA, HK1, HB⟩ := hrel
    cases gk with
    | zero => exact absurd HA.out (by simp [antiquaryref04_Norm.l0])
    | succ k1 =>
      have H := HA.out
      clear HA
      simp only [antiquaryref04_Norm.l0] at H
      by_cases c3 : x6_1 < (l1.length : Int)
      · rw [if_pos c3] at H
        have c3b0 : decide (x6_1 < (l1.length : Int)) = true := decide_eq_true c3
        clear c3
        by_cases c4 : a0 = 1
        · rw [if_pos c4] at H
          have c4b0 : (a0 == 1) = true := beq_iff_eq.mpr c4
          have c4b1 : (a0 != 1) = false := bne_eq_false_iff_eq.mpr c4
          clear c4
          by_cases c5 : 0 ≤ x6_1
          · rw [if_pos c5] at H
            have c5b0 : decide (0 ≤ x6_1) = true := decide_eq_true c5
            clear c5
            replace H := Option.bind_eq_some_iff.mp H
            obtain ⟨t305, A60, H⟩ := H
            replace H : (antiquaryref04_Norm.l0 k1 a0 l1 (wrap64 (x5_1 + t305)) (wrap64 (x6_1 + 1))) = some r := H
            have A6 := Aside0.mk A60
            clear A60
            have H' := Aside0.mk H
            clear H
            have p304 : 0 ≤ (x6_1 : Int) := of_decide_eq_true (by first | (with_reducible assumption) | assumption)
            have q304 : x6_1 < (l1.length : Int) := of_decide_eq_true (by first | (with_reducible assumption) | assumption)
            obtain ⟨ad304, e304, hx304_0⟩ := Kd.at_int HR1.out x6_1 p304 q304
            cases e304
            replace hx304_0 := (HB.out.cell (World.block_lt_of_cell? w _ hx304_0)).trans hx304_0
            replace p304 := eq_true p304
            replace q304 := eq_true q304
            go_wp2_with (first | (go_at_call 73; (with_reducible refine (antiquaryref04_size.calls (rd l1 x6_1) t305 _ A6.out).mono ?_); rintro e w' ⟨rfl, ⟨nd, rfl⟩⟩; (try first | exact ⟨rfl, _, World.drewN_drewN _ _ _⟩ | exact ⟨rfl, _, Eq.trans (World.drewN_drewN _ _ _) (congrArg (World.drewN _) (Nat.add_assoc _ _ _))⟩)))
            repeat (go_quiet (first | (go_at_call 73; (with_reducible refine (antiquaryref04_size.calls (rd l1 x6_1) t305 _ A6.out).mono ?_); rintro e w' ⟨rfl, ⟨nd, rfl⟩⟩; (try first | exact ⟨rfl, _, World.drewN_drewN _ _ _⟩ | exact ⟨rfl, _, Eq.trans (World.drewN_drewN _ _ _) (congrArg (World.drewN _) (Nat.add_assoc _ _ _))⟩))); try go_wp2_with (first | (go_at_call 73; (with_reducible refine (antiquaryref04_size.calls (rd l1 x6_1) t305 _ A6.out).mono ?_); rintro e w' ⟨rfl, ⟨nd, rfl⟩⟩; (try first | exact ⟨rfl, _, World.drewN_drewN _ _ _⟩ | exact ⟨rfl, _, Eq.trans (World.drewN_drewN _ _ _) (congrArg (World.drewN _) (Nat.add_assoc _ _ _))⟩))))
            go_roundg k1
            case measure => have := HK1.out; omega
            case rel => exact ⟨(wrap64 (x5_1 + t305)), (wrap64 (x6_1 + 1)), (by first | rfl | (simp; done) | (simp [*]; done)), (by first | rfl | (simp; done) | (simp [*]; done)), H', ⟨by have := HK1.out; omega⟩, ⟨by repeat (first | (with_reducible first | exact HB.out | apply below_alloc | apply pw_below_drewN | apply below_drew1) | exact HB.out)⟩⟩
          · rw [if_neg c5] at H
            exact absurd H (by simp)
        · rw [if_neg c4] at H
          have c4b0 : (a0 == 1) = false := beq_eq_false_iff_ne.mpr c4
          have c4b1 : (a0 != 1) = true := bne_iff_ne.mpr c4
          by_cases c7 : a0 = 2
          · rw [if_pos c7] at H
            have c7b0 : (a0 == 2) = true := beq_iff_eq.mpr c7
            have c7b1 : (a0 != 2) = false := bne_eq_false_iff_eq.mpr c7
            clear c7
            by_cases c8 : 0 ≤ x6_1
            · rw [if_pos c8] at H
              have c8b0 : decide (0 ≤ x6_1) = true := decide_eq_true c8
              clear c8
              have H' := Aside0.mk H
              clear H
              have p306 : 0 ≤ (x6_1 : Int) := of_decide_eq_true (by first | (with_reducible assumption) | assumption)
              have q306 : x6_1 < (l1.length : Int) := of_decide_eq_true (by first | (with_reducible assumption) | assumption)
              obtain ⟨ad306, e306, hx306_0⟩ := Kd.at_int HR1.out x6_1 p306 q306
              cases e306
              replace hx306_0 := (HB.out.cell (World.block_lt_of_cell? w _ hx306_0)).trans hx306_0
              replace p306 := eq_true p306
              replace q306 := eq_true q306
              have p307 : 0 ≤ (x6_1 : Int) := of_decide_eq_true (by first | (with_reducible assumption) | assumption)
              have q307 : x6_1 < (l1.length : Int) := of_decide_eq_true (by first | (with_reducible assumption) | assumption)
              obtain ⟨ad307, e307, hx307_0⟩ := Kd.at_int HR1.out x6_1 p307 q307
              obtain rfl : ad306 = ad307 := (by injection e307)
              replace hx307_0 := (HB.out.cell (World.block_lt_of_cell? w _ hx307_0)).trans hx307_0
              replace p307 := eq_true p307
              replace q307 := eq_true q307
              go_wp2
              repeat (go_quiet (fail); try go_wp2)
              go_roundg k1
              case measure => have := HK1.out; omega
              case rel => exact ⟨(wrap64 (x5_1 + (wrap64 ((rd l1 x6_1) * (rd l1 x6_1))))), (wrap64 (x6_1 + 1)), (by first | rfl | (simp; done) | (simp [*]; done)), (by first | rfl | (simp; done) | (simp [*]; done)), H', ⟨by have := HK1.out; omega⟩, ⟨by repeat (first | (with_reducible first | exact HB.out | apply below_alloc | apply pw_below_drewN | apply below_drew1) | exact HB.out)⟩⟩
            · rw [if_neg c8] at H
              exact absurd H (by simp)
          · rw [if_neg c7] at H
            have c7b0 : (a0 == 2) = false := beq_eq_false_iff_ne.mpr c7
            have c7b1 : (a0 != 2) = true := bne_iff_ne.mpr c7
            by_cases c9 : 0 ≤ x6_1
            · rw [if_pos c9] at H
              have c9b0 : decide (0 ≤ x6_1) = true := decide_eq_true c9
              clear c9
              replace H := Option.bind_eq_some_iff.mp H
              obtain ⟨t309, A100, H⟩ := H
              replace H : (antiquaryref04_Norm.l0 k1 a0 l1 (mx x5_1 t309) (wrap64 (x6_1 + 1))) = some r := H
              have A10 := Aside0.mk A100
              clear A100
              obtain ⟨ji11, hji11⟩ : ∃ j_ : Int, (mx x5_1 t309) = j_ := ⟨_, rfl⟩
              replace H : (antiquaryref04_Norm.l0 k1 a0 l1 ji11 (wrap64 (x6_1 + 1))) = some r := by first | (rw [hji11] at H; exact H) | (simp only [hji11] at H ⊢; exact H)
              (try rw [hji11] at A10)
              have hji11_ : (if x5_1 < t309 then t309 else x5_1) = ji11 := hji11
              have H' := Aside0.mk H
              clear H
              have p308 : 0 ≤ (x6_1 : Int) := of_decide_eq_true (by first | (with_reducible assumption) | assumption)
              have q308 : x6_1 < (l1.length : Int) := of_decide_eq_true (by first | (with_reducible assumption) | assumption)
              obtain ⟨ad308, e308, hx308_0⟩ := Kd.at_int HR1.out x6_1 p308 q308
              cases e308
              replace hx308_0 := (HB.out.cell (World.block_lt_of_cell? w _ hx308_0)).trans hx308_0
              replace p308 := eq_true p308
              replace q308 := eq_true q308
              go_wp2_with (first | (go_at_call 73; (with_reducible refine (antiquaryref04_size.calls (rd l1 x6_1) t309 _ A10.out).mono ?_); rintro e w' ⟨rfl, ⟨nd, rfl⟩⟩; (try first | exact ⟨rfl, _, World.drewN_drewN _ _ _⟩ | exact ⟨rfl, _, Eq.trans (World.drewN_drewN _ _ _) (congrArg (World.drewN _) (Nat.add_assoc _ _ _))⟩)))
              repeat (go_quiet (first | (go_at_call 73; (with_reducible refine (antiquaryref04_size.calls (rd l1 x6_1) t309 _ A10.out).mono ?_); rintro e w' ⟨rfl, ⟨nd, rfl⟩⟩; (try first | exact ⟨rfl, _, World.drewN_drewN _ _ _⟩ | exact ⟨rfl, _, Eq.trans (World.drewN_drewN _ _ _) (congrArg (World.drewN _) (Nat.add_assoc _ _ _))⟩))); try go_wp2_with (first | (go_at_call 73; (with_reducible refine (antiquaryref04_size.calls (rd l1 x6_1) t309 _ A10.out).mono ?_); rintro e w' ⟨rfl, ⟨nd, rfl⟩⟩; (try first | exact ⟨rfl, _, World.drewN_drewN _ _ _⟩ | exact ⟨rfl, _, Eq.trans (World.drewN_drewN _ _ _) (congrArg (World.drewN _) (Nat.add_assoc _ _ _))⟩))))
              go_roundg k1
              case measure => have := HK1.out; omega
              case rel => exact ⟨(ji11), (wrap64 (x6_1 + 1)), (by first | rfl | (simp; done) | (simp only [← hji11] <;> (first | rfl | simp)) | (simp [*]; done)), (by first | rfl | (simp; done) | (simp [*]; done)), H', ⟨by have := HK1.out; omega⟩, ⟨by repeat (first | (with_reducible first | exact HB.out | apply below_alloc | apply pw_below_drewN | apply below_drew1) | exact HB.out)⟩⟩
            · rw [if_neg c9] at H
              exact absurd H (by simp)
      · rw [if_neg c3] at H
        have c3b0 : decide (x6_1 < (l1.length : Int)) = false := decide_eq_false c3
        clear c3
        obtain rfl := Option.some.inj H
        go_wp2
        repeat (go_quiet (fail); try go_wp2)
        go_ret
        exact ⟨by first | rfl | (simp [errW_none, errW_some] <;> rfl) | (simp [*, errW_none, errW_some] <;> rfl), by repeat (first | (with_reducible first | exact HB.out | apply below_alloc | apply pw_below_drewN | apply below_drew1) | exact HB.out)⟩
def antiquaryref04_Sub.l0 : Nat → List Int → List Int → List Int → Int → Option (List Int)
  | 0, _, _, _, _ => none
  | k + 1, x0, x1, x5, x6 => if x6 < (x0.length : Int) then (if 0 ≤ x6 then (if x6 < (x1.length : Int) then (if x5.length < 17592186044416 then (antiquaryref04_Sub.l0 k x0 x1 (x5 ++ [wrap64 ((rd x0 x6) - (rd x1 x6))]) (wrap64 (x6 + 1))) else (none)) else (none)) else (none)) else (some x5)
def antiquaryref04_Sub.f (k : Nat) (l0 : List Int) (l1 : List Int) : Option (List Int) := antiquaryref04_Sub.l0 k l0 l1 ([] : List Int) 0
def antiquaryref04_Sub.T5 : Bool × List (List Nat × List Nat) := (true, [([], []), ([], []), ([], []), ([1, 2], [1, 2]), ([3], [3]), ([], []), ([], []), ([5, 6], [5, 6]), ([7], [7]), ([4, 8], [4, 8]), ([9], [9]), ([0, 10], [0, 10]), ([11, 11, 0, 1, 2, 3, 4, 5, 6, 7, 8, 9, 10, 11], [0, 11])])
def antiquaryref04_Sub.B5 : List Nat := [0, 0, 0, 6, 14, 0, 0, 96, 224, 510, 1022, 2047, 4095]
theorem antiquaryref04_Sub.tab5 : rtab .any (opsOf Try.f57 5) = antiquaryref04_Sub.T5 := by kernel_rfl
theorem antiquaryref04_Sub.bits5 : waitsOk antiquaryref04_Sub.T5.2 antiquaryref04_Sub.B5 = true := by kernel_rfl
set_option maxHeartbeats 8000000 in
set_option maxRecDepth 100000 in
theorem antiquaryref04_Sub.calls (k : Nat) (A0 : Option Addr) (c0 : Nat) (l0 : List Int) (A1 : Option Addr) (c1 : Nat) (l1 : List Int) (r : List Int) (w : World) (hr0 : Kd.C (Kd.int .i64) w A0 l0.length l0) (hc0 : l0.length ≤ c0) (hr1 : Kd.C (Kd.int .i64) w A1 l1.length l1) (hc1 : l1.length ≤ c1) (h : antiquaryref04_Sub.f k l0 l1 = some r) :
    Calls Try.prog 57 #[.slice A0 l0.length c0, .slice A1 l1.length c1] w fun e w' => ∃ v0_ : Value, e = .returned (v0_) ∧ Kd.R (Kd.int .i64) 3 w' w.heap.size (fun _ => True) v0_ r ∧ Below w.heap.size w w' := by
  have HR0 := Aside0.mk hr0
  have HC0 := Aside0.mk hc0
  clear hr0 hc0
  have HR1 := Aside0.mk hr1
  have HC1 := Aside0.mk hc1
  clear hr1 hc1
  have HB := Aside0.mk (Below.refl w.heap.size w)
  have H : (antiquaryref04_Sub.l0 k l0 l1 ([] : List Int) 0) = some r := h
  clear h
  have H' := Aside0.mk H
  clear H
  go_enter Try.func57, Try.ntmps57
  go_wp2
  go_loopg [5, 6] k (fun kq v5 v6 w' => ∃ (x5_1 : List Int) (x6_1 : Int), v6 = .int .i64 x6_1 ∧ Aside0 (antiquaryref04_Sub.l0 kq l0 l1 x5_1 x6_1 = some r) ∧ Aside0 (kq ≤ k) ∧ Aside0 (Kd.R (Kd.int .i64) 3 w' w.heap.size (fun _ => True) v5 x5_1) ∧ Aside0 (Below w.heap.size w w'))
  case atStart => exact ⟨(([] : List Int)), (0), (by first | rfl | (simp; done) | (simp [*]; done)), H', ⟨Nat.le_refl _⟩, ⟨by first | exact Kd.R_nil _ _ _ _ _ | exact Kd.N_nil _ _ _ _ _ | exact Kd.V_nil _ _ _ _ _ | exact Kd.Q_nil _ _ _ _ _ | exact Kd.S_nil _ _ _ _ _⟩, ⟨by repeat (first | (with_reducible first | exact HB.out | apply below_alloc | apply pw_below_drewN | apply below_drew1) | exact HB.out)⟩⟩
  case round =>
    clear H'
    try clear c1
    try clear p2
    obtain ⟨x5_1, x6_1, rfl, HA, HK1, HO_5, HB⟩ := hrel
    cases gk with
    | zero => exact absurd HA.out (by simp [antiquaryref04_Sub.l0])
    | succ k1 =>
      have H := HA.out
      clear HA
      simp only [antiquaryref04_Sub.l0] at H
      by_cases c3 : x6_1 < (l0.length : Int)
      · rw [if_pos c3] at H
        have c3b0 : decide (x6_1 < (l0.length : Int)) = true := decide_eq_true c3
        clear c3
        by_cases c4 : 0 ≤ x6_1
        · rw [if_pos c4] at H
          have c4b0 : decide (0 ≤ x6_1) = true := decide_eq_true c4
          clear c4
          by_cases c5 : x6_1 < (l1.length : Int)
          · rw [if_pos c5] at H
            have c5b0 : decide (x6_1 < (l1.length : Int)) = true := decide_eq_true c5
            clear c5
            by_cases c6 : x5_1.length < 17592186044416
            · rw [if_pos c6] at H
              have LMc6 := Aside0.mk c6
              clear c6
              obtain ⟨y312, hy312⟩ : ∃ y_ : List Int, y_ = (x5_1 ++ [wrap64 ((rd l0 x6_1) - (rd l1 x6_1))]) := ⟨_, rfl⟩
              replace H : (antiquaryref04_Sub.l0 k1 l0 l1 y312 (wrap64 (x6_1 + 1))) = some r := by first | (rw [hy312]; with_reducible exact H) | (have H2_ := (Option.bind_some _ _).symm.trans H; rw [hy312]; with_reducible exact H2_) | (have H2_ := (Option.bind_some _ _).symm.trans H; with_reducible exact H2_) | with_reducible exact H | (rw [hy312]; exact H) | exact H
              have Ny312 := Aside0.mk hy312
              clear hy312
              have H' := Aside0.mk H
              clear H
              try go_wp2
              have n0_ := Aside0.mk (Kd.R_drew HO_5.out)
              have n1_ := Aside0.mk (below_drew1 HB.out)
              clear HO_5
              clear HB
              have HO_5 := n0_
              have HB := n1_
              clear n0_ n1_
              have p310 : 0 ≤ (x6_1 : Int) := of_decide_eq_true (by first | (with_reducible assumption) | assumption)
              have q310 : x6_1 < (l0.length : Int) := of_decide_eq_true (by first | (with_reducible assumption) | assumption)
              obtain ⟨ad310, e310, hx310_0⟩ := Kd.at_int HR0.out x6_1 p310 q310
              have hw310_0 := hx310_0
              cases e310
              replace hx310_0 := (HB.out.cell (World.block_lt_of_cell? w _ hx310_0)).trans hx310_0
              replace p310 := eq_true p310
              replace q310 := eq_true q310
              have p311 : 0 ≤ (x6_1 : Int) := of_decide_eq_true (by first | (with_reducible assumption) | assumption)
              have q311 : x6_1 < (l1.length : Int) := of_decide_eq_true (by first | (with_reducible assumption) | assumption)
              obtain ⟨ad311, e311, hx311_0⟩ := Kd.at_int HR1.out x6_1 p311 q311
              have hw311_0 := hx311_0
              cases e311
              replace hx311_0 := (HB.out.cell (World.block_lt_of_cell? w _ hx311_0)).trans hx311_0
              replace p311 := eq_true p311
              replace q311 := eq_true q311
              refine start_ (n := 13) (S := fun w' => w'.cell? (ad310.add (x6_1).toNat) = some (.int .i64 (rd l0 x6_1)) ∧ w'.cell? (ad311.add (x6_1).toNat) = some (.int .i64 (rd l1 x6_1))) (ds := []) #[false, false, false, false, false, false, false, false, false, false, false, false, false] (by kernel_rfl) rfl rfl ⟨((HB.out.cell (World.block_lt_of_cell? w _ hw310_0)).trans hw310_0), ((HB.out.cell (World.block_lt_of_cell? w _ hw311_0)).trans hw311_0)⟩ (fun hHeld => ?_); refine with_tabW antiquaryref04_Sub.tab5 antiquaryref04_Sub.bits5 (fun HT_ HW_ => ?_)
              generalize wr.drew = w7 at HO_5 HB hx310_0 hx311_0 hHeld ⊢
              refine pure_ (i := 0) (N := some 13) (v := ?_) (a' := ?_) #[true, false, false, false, false, false, false, false, false, false, false, false, false] rfl rfl (any_of HT_.out (by kernel_rfl)) (fun _ _ _ h => h) (Or.inl ⟨by rfl, ?_⟩) ?_ ?_
              rotate_left
              · intro w'
                go_simp
                with_reducible rfl
              rotate_left
              · simp only [Act.put, List.setIfInBounds_toArray, List.set_cons_zero, List.set_cons_succ, i64_w, i32_w]
                rfl
              refine pure_ (i := 1) (N := some 14) (v := ?_) (a' := ?_) #[true, true, false, false, false, false, false, false, false, false, false, false, false] rfl rfl (any_of HT_.out (by kernel_rfl)) (fun _ _ _ h => h) (Or.inl ⟨by rfl, ?_⟩) ?_ ?_
              rotate_left
              · intro w'
                go_simp
                with_reducible rfl
              rotate_left
              · simp only [Act.put, List.setIfInBounds_toArray, List.set_cons_zero, List.set_cons_succ, i64_w, i32_w]
                rfl
              refine pure_ (i := 2) (N := some 15) (v := ?_) (a' := ?_) #[true, true, true, false, false, false, false, false, false, false, false, false, false] rfl rfl (any_of HT_.out (by kernel_rfl)) (fun _ _ _ h => h) (Or.inl ⟨by rfl, ?_⟩) ?_ ?_
              rotate_left
              · intro w'
                go_simp
                with_reducible rfl
              rotate_left
              · simp only [Act.put, List.setIfInBounds_toArray, List.set_cons_zero, List.set_cons_succ, i64_w, i32_w]
                rfl
              refine pure_ (i := 3) (N := some 16) (v := ?_) (a' := ?_) #[true, true, true, true, false, false, false, false, false, false, false, false, false] rfl rfl (any_of HT_.out (by kernel_rfl)) (fun _ _ _ h => h) (Or.inl ⟨by rfl, ?_⟩) ?_ ?_
              rotate_left
              · intro w'
                go_simp
                with_reducible rfl
              rotate_left
              · simp only [Act.put, List.setIfInBounds_toArray, List.set_cons_zero, List.set_cons_succ, i64_w, i32_w]
                rfl
              refine pure_ (i := 5) (N := some 18) (v := ?_) (a' := ?_) #[true, true, true, true, false, true, false, false, false, false, false, false, false] rfl rfl (any_of HT_.out (by kernel_rfl)) (fun _ _ _ h => h) (Or.inl ⟨by rfl, ?_⟩) ?_ ?_
              rotate_left
              · intro w'
                go_simp
                with_reducible rfl
              rotate_left
              · simp only [Act.put, List.setIfInBounds_toArray, List.set_cons_zero, List.set_cons_succ, i64_w, i32_w]
                rfl
              refine pure_ (i := 6) (N := some 19) (v := ?_) (a' := ?_) #[true, true, true, true, false, true, true, false, false, false, false, false, false] rfl rfl (any_of HT_.out (by kernel_rfl)) (fun _ _ _ h => h) (Or.inl ⟨by rfl, ?_⟩) ?_ ?_
              rotate_left
              · intro w'
                go_simp
                with_reducible rfl
              rotate_left
              · simp only [Act.put, List.setIfInBounds_toArray, List.set_cons_zero, List.set_cons_succ, i64_w, i32_w]
                rfl
              refine pure_ (i := 7) (N := some 20) (v := ?_) (a' := ?_) #[true, true, true, true, false, true, true, true, false, false, false, false, false] rfl rfl (any_of HT_.out (by kernel_rfl)) (fun _ _ _ h => h) (Or.inl ⟨by rfl, ?_⟩) ?_ ?_
              rotate_left
              · intro w'
                go_simp
                with_reducible rfl
              rotate_left
              · simp only [Act.put, List.setIfInBounds_toArray, List.set_cons_zero, List.set_cons_succ, i64_w, i32_w]
                rfl
              refine take_ (i := 4) (N := some 17) (v := ?_) (a' := ?_) #[true, true, true, true, true, true, true, true, false, false, false, false, false] rfl rfl (take_ofW HT_.out HW_.out (by kernel_rfl)) (fun _ _ _ h => h) (Or.inl ⟨by rfl, ?_⟩) hHeld ?_ ?_
              rotate_left
              · rintro w' ⟨s0, s1⟩
                go_simp
                with_reducible rfl
              rotate_left
              · simp only [Act.put, List.setIfInBounds_toArray, List.set_cons_zero, List.set_cons_succ, i64_w, i32_w]
                rfl
              refine take_ (i := 8) (N := some 21) (v := ?_) (a' := ?_) #[true, true, true, true, true, true, true, true, true, false, false, false, false] rfl rfl (take_ofW HT_.out HW_.out (by kernel_rfl)) (fun _ _ _ h => h) (Or.inl ⟨by rfl, ?_⟩) hHeld ?_ ?_
              rotate_left
              · rintro w' ⟨s0, s1⟩
                go_simp
                with_reducible rfl
              rotate_left
              · simp only [Act.put, List.setIfInBounds_toArray, List.set_cons_zero, List.set_cons_succ, i64_w, i32_w]
                rfl
              refine pure_ (i := 9) (N := some 22) (v := ?_) (a' := ?_) #[true, true, true, true, true, true, true, true, true, true, false, false, false] rfl rfl (any_of HT_.out (by kernel_rfl)) (fun _ _ _ h => h) (Or.inl ⟨by rfl, ?_⟩) ?_ ?_
              rotate_left
              · intro w'
                go_simp
                with_reducible rfl
              rotate_left
              · simp only [Act.put, List.setIfInBounds_toArray, List.set_cons_zero, List.set_cons_succ, i64_w, i32_w]
                rfl
              refine one_ (i := 10) (N := some 23) #[true, true, true, true, true, true, true, true, true, true, true, false, false] rfl rfl (one_of HT_.out (by kernel_rfl)) (by decide) (fun K hK => ?_)
              refine value_ (w1 := ?_) (v := ?_) (by rfl) rfl ?_ ?_
              rotate_left 2
              · go_simp
                constructor
                · rfl
                · rfl
              refine hK.out _ _ ⟨(World.cell?_alloc_lt _ _ _ (World.block_lt_of_cell? _ _ (((HB.out.cell (World.block_lt_of_cell? w _ hw310_0)).trans hw310_0)))).trans (((HB.out.cell (World.block_lt_of_cell? w _ hw310_0)).trans hw310_0)), (World.cell?_alloc_lt _ _ _ (World.block_lt_of_cell? _ _ (((HB.out.cell (World.block_lt_of_cell? w _ hw311_0)).trans hw311_0)))).trans (((HB.out.cell (World.block_lt_of_cell? w _ hw311_0)).trans hw311_0))⟩ (fun hHeld => ?_)
              clear hK K
              refine norm_ (a' := ?_) ?_ ?_
              rotate_left
              · show Act.put _ (some 23) _ = _
                simp only [Act.put, List.setIfInBounds_toArray, List.set_cons_zero, List.set_cons_succ, i64_w, i32_w]
                rfl
              refine one_ (i := 11) (N := some 24) #[true, true, true, true, true, true, true, true, true, true, true, true, false] rfl rfl (one_of HT_.out (by kernel_rfl)) (by decide) (fun K hK => ?_)
              refine Kd.R_append_step (Kd.int .i64) (w0 := w) w.heap.size (by rfl) (.tmp 13) (.tmp 23) 22 3 (.int .i64 0) 8 rfl Try.underlying22 info3 rfl (by decide) (by omega) u5 x5_1 (wrap64 ((rd l0 x6_1) - (rd l1 x6_1))) [.int .i64 (wrap64 ((rd l0 x6_1) - (rd l1 x6_1)))] (fun _ => True) (fun _ => False) rfl rfl ?aP (fun _ hk => hk.elim) ?aF ?aO ?aB ?aS ?aL ?_
              (case aP => exact rfl)
              (case aB => exact (by repeat (first | (with_reducible first | exact HB.out | apply below_alloc | apply pw_below_drewN | apply below_drew1) | exact HB.out)))
              (case aF => exact (fun _ _ => trivial))
              (case aO => exact (by (with_reducible repeat (first | apply Kd.R_alloc | apply Kd.R_drewN | apply Kd.R_drew)); exact HO_5.out))
              (case aS => exact (below_size (by repeat (first | (with_reducible first | exact HB.out | apply below_alloc | apply pw_below_drewN | apply below_drew1) | exact HB.out))))
              (case aL => have := LMc6.out; omega)
              intro v313 w8 ho hb hg hat
              rw [← Ny312.out] at ho
              have n0_ := Aside0.mk (hb)
              have n1_ := Aside0.mk (ho)
              clear HB
              clear HO_5
              have HB := n0_
              have HO314 := n1_
              clear n0_ n1_
              clear ho hb hg hat
              refine hK.out _ _ ⟨((HB.out.cell (World.block_lt_of_cell? w _ hw310_0)).trans hw310_0), ((HB.out.cell (World.block_lt_of_cell? w _ hw311_0)).trans hw311_0)⟩ (fun hHeld => ?_)
              clear hK K
              refine norm_ (a' := ?_) ?_ ?_
              rotate_left
              · show Act.put _ (some 24) _ = _
                simp only [Act.put, List.setIfInBounds_toArray, List.set_cons_zero, List.set_cons_succ, i64_w, i32_w]
                rfl
              refine pure_ (i := 12) (N := some 5) (v := ?_) (a' := ?_) #[true, true, true, true, true, true, true, true, true, true, true, true, true] rfl rfl (any_of HT_.out (by kernel_rfl)) (fun _ _ _ h => h) (Or.inl ⟨by rfl, ?_⟩) ?_ ?_
              rotate_left
              · intro w'
                go_simp
                with_reducible rfl
              rotate_left
              · simp only [Act.put, List.setIfInBounds_toArray, List.set_cons_zero, List.set_cons_succ, i64_w, i32_w]
                rfl
              refine done_ (done_of HT_.out (by kernel_rfl)) ?_
              try go_wp2
              go_roundg k1
              case measure => have := HK1.out; omega
              case rel => exact ⟨(y312), (wrap64 (x6_1 + 1)), (by first | rfl | (simp; done) | (simp [*]; done)), H', ⟨by have := HK1.out; omega⟩, ⟨by (with_reducible repeat (first | apply Kd.R_alloc | apply Kd.R_drewN | apply Kd.R_drew)); exact HO314.out⟩, ⟨by repeat (first | (with_reducible first | exact HB.out | apply below_alloc | apply pw_below_drewN | apply below_drew1) | exact HB.out)⟩⟩
            · rw [if_neg c6] at H
              exact absurd H (by simp)
          · rw [if_neg c5] at H
            exact absurd H (by simp)
        · rw [if_neg c4] at H
          exact absurd H (by simp)
      · rw [if_neg c3] at H
        have c3b0 : decide (x6_1 < (l0.length : Int)) = false := decide_eq_false c3
        clear c3
        obtain rfl := Option.some.inj H
        go_wp2
        go_ret
        exact ⟨_, by first | rfl | (simp [errW_none, errW_some] <;> rfl) | (simp [*, errW_none, errW_some] <;> rfl), by (with_reducible repeat (first | apply Kd.R_alloc | apply Kd.R_drewN | apply Kd.R_drew)); exact HO_5.out, by repeat (first | (with_reducible first | exact HB.out | apply below_alloc | apply pw_below_drewN | apply below_drew1) | exact HB.out)⟩
def antiquaryref04_Key.f (k : Nat) (a0 : Int) (l1 : List Int) (l2 : List Int) : Option (Int) := (antiquaryref04_Sub.f k l1 l2).bind fun t315 => ((antiquaryref04_Norm.f k a0 t315).bind fun t318 => (some t318))
set_option maxHeartbeats 8000000 in
set_option maxRecDepth 100000 in
theorem antiquaryref04_Key.calls (k : Nat) (a0 : Int) (A1 : Option Addr) (c1 : Nat) (l1 : List Int) (A2 : Option Addr) (c2 : Nat) (l2 : List Int) (r : Int) (w : World) (hr1 : Kd.C (Kd.int .i64) w A1 l1.length l1) (hc1 : l1.length ≤ c1) (hr2 : Kd.C (Kd.int .i64) w A2 l2.length l2) (hc2 : l2.length ≤ c2) (h : antiquaryref04_Key.f k a0 l1 l2 = some r) :
    Calls Try.prog 29 #[.int .i64 a0, .slice A1 l1.length c1, .slice A2 l2.length c2] w fun e w' => e = .returned (.int .i64 r) ∧ Below w.heap.size w w' := by
  have HR1 := Aside0.mk hr1
  have HC1 := Aside0.mk hc1
  clear hr1 hc1
  have HR2 := Aside0.mk hr2
  have HC2 := Aside0.mk hc2
  clear hr2 hc2
  have HB := Aside0.mk (Below.refl w.heap.size w)
  have H : ((antiquaryref04_Sub.f k l1 l2).bind fun t315 => ((antiquaryref04_Norm.f k a0 t315).bind fun t318 => (some t318))) = some r := h
  clear h
  replace H := Option.bind_eq_some_iff.mp H
  obtain ⟨t315, A40, H⟩ := H
  replace H : ((antiquaryref04_Norm.f k a0 t315).bind fun t318 => (some t318)) = some r := H
  have A4 := Aside0.mk A40
  clear A40
  replace H := Option.bind_eq_some_iff.mp H
  obtain ⟨t318, A50, H⟩ := H
  replace H : (some t318) = some r := H
  have A5 := Aside0.mk A50
  clear A50
  obtain rfl := Option.some.inj H
  go_enter Try.func29, Try.ntmps29
  go_wp2_with (first | ((with_reducible refine gate_callee (f := 57) rfl ?_); refine goesL_ (some 10) rfl rfl Try.func57 (by kernel_rfl) rfl #[.slice A1 l1.length c1, .slice A2 l2.length c2] rfl (by (try simp only [List.map_toArray, List.map_cons, List.map_nil]); first | done | rfl | (simp only [List.length_drop, List.length_take]; rfl)) ?_; (with_reducible refine (antiquaryref04_Sub.calls k _ _ l1 _ _ l2 t315 _ ?side1 ?side2 ?side3 ?side4 A4.out).mono ?_); (case side1 => repeat (first | exact HR1.out | (with_reducible refine Kd.C_alloc ?_ _) | (with_reducible refine Kd.C_drewN ?_ _) | (with_reducible refine Kd.C_drew ?_))); (case side2 => exact HC1.out); (case side3 => repeat (first | exact HR2.out | (with_reducible refine Kd.C_alloc ?_ _) | (with_reducible refine Kd.C_drewN ?_ _) | (with_reducible refine Kd.C_drew ?_))); (case side4 => exact HC2.out); rintro e w6 ⟨v316, rfl, ho0, hb⟩; refine ⟨_, rfl, ?_⟩; have n0_ := Aside0.mk (Kd.R_lower ho0 (below_size (by repeat (first | (with_reducible first | exact HB.out | apply below_alloc | apply pw_below_drewN | apply below_drew1) | exact HB.out)))); have n1_ := Aside0.mk (below_step (by repeat (first | (with_reducible first | exact HB.out | apply below_alloc | apply pw_below_drewN | apply below_drew1) | exact HB.out)) hb); clear HB; have HO317 := n0_; have HB := n1_; clear n0_ n1_; (try clear hb); (try clear hb2); (try clear hk); (try clear hi); (try clear ho0); obtain ⟨Ao7, co7, eo7⟩ := Kd.R_slice HO317.out; subst eo7) | ((with_reducible refine gate_callee (f := 56) rfl ?_); refine goesL_ (some 11) rfl rfl Try.func56 (by kernel_rfl) rfl #[.int .i64 a0, .slice Ao7 t315.length co7] rfl (by (try simp only [List.map_toArray, List.map_cons, List.map_nil]); first | done | rfl | (simp only [List.length_drop, List.length_take]; rfl)) ?_; (with_reducible refine (antiquaryref04_Norm.calls k a0 _ _ t315 t318 _ ?side1 ?side2 A5.out).mono ?_); (case side1 => repeat (first | exact (Kd.R_reads' HO317.out).2.2 | (with_reducible refine Kd.C_alloc ?_ _) | (with_reducible refine Kd.C_drewN ?_ _) | (with_reducible refine Kd.C_drew ?_))); (case side2 => exact (Kd.R_reads' HO317.out).2.1); rintro e w8 ⟨rfl, hb⟩; refine ⟨_, rfl, ?_⟩; have n0_ := Aside0.mk (Kd.R_below (by (with_reducible repeat (first | apply Kd.R_alloc | apply Kd.R_drewN | apply Kd.R_drew)); exact HO317.out) hb); have n1_ := Aside0.mk (below_step (by repeat (first | (with_reducible first | exact HB.out | apply below_alloc | apply pw_below_drewN | apply below_drew1) | exact HB.out)) hb); clear HO317; clear HB; have HO317 := n0_; have HB := n1_; clear n0_ n1_; (try clear hb); (try clear hb2); (try clear hk); (try clear hi)))
  go_ret
  exact ⟨by first | rfl | (simp [errW_none, errW_some] <;> rfl) | (simp [*, errW_none, errW_some] <;> rfl), by repeat (first | (with_reducible first | exact HB.out | apply below_alloc | apply pw_below_drewN | apply below_drew1) | exact HB.out)⟩
end Go.Proofs.Ytgpdfalopdhjlaa.Q
end
section
namespace Go.Proofs.Ytgpdfalopdhjlaa.Q
open Go.RowKit Go.Proofs.YtgpdfalopdhjlaaW.PrintWords Go.Proofs.YtgpdfalopdhjlaaW.PrintLast Go.Proofs.YtgpdfalopdhjlaaW.PrintMore
attribute [local go_sem] max2_int min2_int max_two min_two max_three min_three max_four min_four   -- for this text's walks alone
set_option linter.unusedVariables false
set_option linter.unusedSimpArgs false
def antiquarylaw08_CodeTablesAddUp.j0 : Nat → Int → List Int → List Int → Bool → Int → List Int → List (List (List Int)) → Option (Bool)
  | 0, _, _, _, _, _, _, _ => none
  | k + 1, x1, x2, x3, x23, x439000, x439001, x439002 => if x23 = true then ((antiquarylaw08_sanity.f k).bind fun t440 => (some t440)) else ((code_Decode.f k x439000 x439001 x439002 x3).bind fun bt441 => (if bt441.2 = 0 then ((antiquarylaw08_sanity.f k).bind fun t446 => (if t446 = true then (if (bt441.1.length : Int) = x439000 then ((code_Table.f x439000 x439001 x439002 x1 x2).bind fun t447 => ((code_Sum.f x1 t447 x3).bind fun t450 => ((antiquaryref04_Key.f k x1 x2 bt441.1).bind fun t451 => (some (t450 == t451))))) else (some false)) else (some false))) else ((antiquarylaw08_sanity.f k).bind fun t445 => (if t445 = true then (some ((bt441.1.length : Int) == 0)) else (some false)))))
def antiquarylaw08_CodeTablesAddUp.f (k : Nat) (a0_0 : Int) (l0_1 : List Int) (l0_2 : List (List (List Int))) (a1 : Int) (l2 : List Int) (l3 : List Int) : Option (Bool) := (antiquarylaw08_right.f k a0_0 l0_1 l0_2 a1 l2 l2).bind fun t439 => (if t439 = true then (antiquarylaw08_CodeTablesAddUp.j0 k a1 l2 l3 (decide ((l3.length : Int) > 20)) a0_0 l0_1 l0_2) else (antiquarylaw08_CodeTablesAddUp.j0 k a1 l2 l3 true a0_0 l0_1 l0_2))
set_option maxHeartbeats 8000000 in
set_option maxRecDepth 100000 in
theorem antiquarylaw08_CodeTablesAddUp.calls (k : Nat) (a0_0 : Int) (A0_1 : Option Addr) (c0_1 : Nat) (l0_1 : List Int) (A0_2 : Option Addr) (c0_2 : Nat) (l0_2 : List (List (List Int))) (a1 : Int) (A2 : Option Addr) (c2 : Nat) (l2 : List Int) (A3 : Option Addr) (c3 : Nat) (l3 : List Int) (r : Bool) (w : World) (hr0_1 : Kd.C (Kd.int .i64) w A0_1 l0_1.length l0_1) (hc0_1 : l0_1.length ≤ c0_1) (hr0_2 : Kd.C (Kd.slice 22 (Kd.slice 3 (Kd.int .i64))) w A0_2 l0_2.length l0_2) (hc0_2 : l0_2.length ≤ c0_2) (hr2 : Kd.C (Kd.int .i64) w A2 l2.length l2) (hc2 : l2.length ≤ c2) (hr3 : Kd.C (Kd.int .i64) w A3 l3.length l3) (hc3 : l3.length ≤ c3) (h : antiquarylaw08_CodeTablesAddUp.f k a0_0 l0_1 l0_2 a1 l2 l3 = some r) (hT : r = true) :
    Calls Try.prog 6 #[.agg #[.int .i64 a0_0, .slice A0_1 l0_1.length c0_1, .slice A0_2 l0_2.length c0_2], .int .i64 a1, .slice A2 l2.length c2, .slice A3 l3.length c3] w fun e w' => e = .returned (.bool r) ∧ Below w.heap.size w w' := by
  have HT := Aside0.mk hT
  clear hT
  have hu25 := Try.underlying25
  have HR0_1 := Aside0.mk hr0_1
  have HC0_1 := Aside0.mk hc0_1
  clear hr0_1 hc0_1
  have HR0_2 := Aside0.mk hr0_2
  have HC0_2 := Aside0.mk hc0_2
  clear hr0_2 hc0_2
  have HR2 := Aside0.mk hr2
  have HC2 := Aside0.mk hc2
  clear hr2 hc2
  have HR3 := Aside0.mk hr3
  have HC3 := Aside0.mk hc3
  clear hr3 hc3
  have HB := Aside0.mk (Below.refl w.heap.size w)
  have H : ((antiquarylaw08_right.f k a0_0 l0_1 l0_2 a1 l2 l2).bind fun t439 => (if t439 = true then (antiquarylaw08_CodeTablesAddUp.j0 k a1 l2 l3 (decide ((l3.length : Int) > 20)) a0_0 l0_1 l0_2) else (antiquarylaw08_CodeTablesAddUp.j0 k a1 l2 l3 true a0_0 l0_1 l0_2))) = some r := h
  clear h
  replace H := Option.bind_eq_some_iff.mp H
  obtain ⟨t439, A50, H⟩ := H
  replace H : (if t439 = true then (antiquarylaw08_CodeTablesAddUp.j0 k a1 l2 l3 (decide ((l3.length : Int) > 20)) a0_0 l0_1 l0_2) else (antiquarylaw08_CodeTablesAddUp.j0 k a1 l2 l3 true a0_0 l0_1 l0_2)) = some r := H
  have A5 := Aside0.mk A50
  clear A50
  have HC6 := Aside0.mk H
  clear H
  go_enter Try.func6, Try.ntmps6
  go_upto_region 2 with (first | ((with_reducible refine gate_dst (N := 4) rfl ?_); (try (refine gate_guard (by rfl) ?_; dsimp only)); refine box_event ?hg (N := 4) ?hd (cs := #[.int .i64 a0_0, .slice A0_1 l0_1.length c0_1, .slice A0_2 l0_2.length c0_2]) (t := 25) ?hr ?_; (case hd => rfl); (case hg => rfl); (case hr => first | (go_simp; done) | (go_simp; rfl)); intro gb438 hg w7 hbox hb; have n0_ := Aside0.mk (below_step (by repeat (first | (with_reducible first | exact HB.out | apply below_alloc | apply pw_below_drewN | apply below_drew1) | exact HB.out)) hb); have n1_ := Aside0.mk (hbox); have n2_ := Aside0.mk ((by rw [hg]; exact (below_size (by repeat (first | (with_reducible first | exact HB.out | apply below_alloc | apply pw_below_drewN | apply below_drew1) | exact HB.out))) : w.heap.size ≤ gb438)); have n3_ := Aside0.mk ((by rw [hg]; exact (below_size (by repeat (first | (with_reducible first | exact HB.out | apply below_alloc | apply pw_below_drewN | apply below_drew1) | exact HB.out))) : w.heap.size ≤ gb438)); clear HB; have HB := n0_; have BK438 := n1_; have GW438 := n2_; have GE438 := n3_; clear n0_ n1_ n2_ n3_; clear hb hbox hg; have hcz8_0 : w7.cell? ⟨gb438, 0, none⟩ = some (.int .i64 a0_0) := (blk_cell BK438.out 0).trans rfl; have hcz8_1 : w7.cell? ⟨gb438, 1, none⟩ = some (.slice A0_1 l0_1.length c0_1) := (blk_cell BK438.out 1).trans rfl; have hcz8_2 : w7.cell? ⟨gb438, 2, none⟩ = some (.slice A0_2 l0_2.length c0_2) := (blk_cell BK438.out 2).trans rfl; have hfz8_0 := blk_frozen BK438.out 0; have hfz8_1 := blk_frozen BK438.out 1; have hfz8_2 := blk_frozen BK438.out 2) | ((with_reducible refine gate_callee (f := 14) rfl ?_); refine goesL_ (some 16) rfl rfl Try.func14 (by kernel_rfl) rfl #[.agg #[.int .i64 a0_0, .slice A0_1 l0_1.length c0_1, .slice A0_2 l0_2.length c0_2], .int .i64 a1, .slice A2 l2.length c2, .slice A2 l2.length c2] rfl (by (try simp only [List.map_toArray, List.map_cons, List.map_nil]); first | done | rfl | (simp only [List.length_drop, List.length_take]; rfl)) ?_; (with_reducible refine (antiquarylaw08_right.calls k a0_0 _ _ l0_1 _ _ l0_2 a1 _ _ l2 _ _ l2 t439 _ ?side1 ?side2 ?side3 ?side4 ?side5 ?side6 ?side7 ?side8 A5.out).mono ?_); (case side1 => repeat (first | exact (Kd.C_below HR0_1.out HB.out) | (with_reducible refine Kd.C_alloc ?_ _) | (with_reducible refine Kd.C_drewN ?_ _) | (with_reducible refine Kd.C_drew ?_))); (case side2 => exact HC0_1.out); (case side3 => repeat (first | exact (Kd.C_below HR0_2.out HB.out) | (with_reducible refine Kd.C_alloc ?_ _) | (with_reducible refine Kd.C_drewN ?_ _) | (with_reducible refine Kd.C_drew ?_))); (case side4 => exact HC0_2.out); (case side5 => repeat (first | exact (Kd.C_below HR2.out HB.out) | (with_reducible refine Kd.C_alloc ?_ _) | (with_reducible refine Kd.C_drewN ?_ _) | (with_reducible refine Kd.C_drew ?_))); (case side6 => exact HC2.out); (case side7 => repeat (first | exact (Kd.C_below HR2.out HB.out) | (with_reducible refine Kd.C_alloc ?_ _) | (with_reducible refine Kd.C_drewN ?_ _) | (with_reducible refine Kd.C_drew ?_))); (case side8 => exact HC2.out); rintro e w9 ⟨rfl, hb⟩; refine ⟨_, rfl, ?_⟩; have n0_ := Aside0.mk (blk_below (g := gb438) (o := .cells #[.int .i64 a0_0, .slice A0_1 l0_1.length c0_1, .slice A0_2 l0_2.length c0_2] 25 (0, 0)) (by (with_reducible repeat (first | refine blk_drewN ?_ _ | refine blk_drew ?_ | refine blk_alloc ?_ _)); exact BK438.out) hb); have n1_ := Aside0.mk (below_step (by repeat (first | (with_reducible first | exact HB.out | apply below_alloc | apply pw_below_drewN | apply below_drew1 | refine below_set ?_ GE438.out) | exact HB.out)) hb); clear BK438; clear HB; have BK438 := n0_; have HB := n1_; clear n0_ n1_; (try clear hb); (try clear hb2); (try clear hk); (try clear hi)))
  (try simp only [Act.put, List.setIfInBounds_toArray, List.set_cons_zero, List.set_cons_succ])
  go_cut [23] (fun v23 wc => ∃ (kq : Nat) (x23_5 : Bool), v23 = .bool x23_5 ∧ Aside0 (antiquarylaw08_CodeTablesAddUp.j0 kq a1 l2 l3 x23_5 a0_0 l0_1 l0_2 = some r) ∧ Aside0 (kq ≤ k) ∧ Aside0 (wc.heap[gb438]? = some (.cells #[.int .i64 a0_0, (.slice A0_1 l0_1.length c0_1), (.slice A0_2 l0_2.length c0_2)] 25 (0, 0))) ∧ Aside0 (Below w.heap.size w wc))
  case first =>
    have H := HC6.out
    clear HC6
    by_cases c10 : t439 = true
    · subst c10
      have H1 : (antiquarylaw08_CodeTablesAddUp.j0 k a1 l2 l3 (decide ((l3.length : Int) > 20)) a0_0 l0_1 l0_2) = some r := by rw [if_pos rfl] at H; exact H
      clear H
      have H := H1
      clear H1
      have H' := Aside0.mk H
      clear H
      go_wp2
      go_meet
      case rel => exact ⟨_, (decide ((l3.length : Int) > 20)), (by first | rfl | (simp; done) | (simp [*]; done)), H', ⟨by first | omega | exact Nat.le_refl _⟩, ⟨by (with_reducible repeat (first | refine blk_drewN ?_ _ | refine blk_drew ?_ | refine blk_alloc ?_ _)); exact BK438.out⟩, ⟨by repeat (first | (with_reducible first | exact HB.out | apply below_alloc | apply pw_below_drewN | apply below_drew1 | refine below_set ?_ GE438.out) | exact HB.out)⟩⟩
    · replace c10 := Bool.eq_false_iff.mpr c10
      subst c10
      have H1 : (antiquarylaw08_CodeTablesAddUp.j0 k a1 l2 l3 true a0_0 l0_1 l0_2) = some r := by rw [if_neg (show ¬ (false = true) by decide)] at H; exact H
      clear H
      have H := H1
      clear H1
      have H' := Aside0.mk H
      clear H
      go_wp2
      go_meet
      case rel => exact ⟨_, (true), (by first | rfl | (simp; done) | (simp [*]; done)), H', ⟨by first | omega | exact Nat.le_refl _⟩, ⟨by (with_reducible repeat (first | refine blk_drewN ?_ _ | refine blk_drew ?_ | refine blk_alloc ?_ _)); exact BK438.out⟩, ⟨by repeat (first | (with_reducible first | exact HB.out | apply below_alloc | apply pw_below_drewN | apply below_drew1 | refine below_set ?_ GE438.out) | exact HB.out)⟩⟩
  case rest =>
    clear HC6
    try clear c1
    try clear c2
    try clear p2
    try clear c3
    try clear c6
    try clear c10
    try clear hcz8_0
    try clear hcz8_1
    try clear hcz8_2
    try clear hfz8_0
    try clear hfz8_1
    try clear hfz8_2
    obtain ⟨kq, x23_5, rfl, HA, HJ5, BK438, HB⟩ := hcut
    cases kq with
    | zero => exact absurd HA.out (by simp [antiquarylaw08_CodeTablesAddUp.j0])
    | succ kj5 =>
      have H := HA.out
      clear HA
      simp only [antiquarylaw08_CodeTablesAddUp.j0] at H
      by_cases c11 : x23_5 = true
      · subst c11
        have H1 : ((antiquarylaw08_sanity.f kj5).bind fun t440 => (some t440)) = some r := by rw [if_pos rfl] at H; exact H
        clear H
        have H := H1
        clear H1
        replace H := Option.bind_eq_some_iff.mp H
        obtain ⟨t440, A120, H⟩ := H
        replace H : (some t440) = some r := H
        have A12 := Aside0.mk A120
        clear A120
        obtain rfl := Option.some.inj H
        go_wp2_with (first | ((with_reducible refine gate_callee (f := 11) rfl ?_); refine goesL_ (some 24) rfl rfl Try.func11 (by kernel_rfl) rfl #[] rfl (by (try simp only [List.map_toArray, List.map_cons, List.map_nil]); first | done | rfl | (simp only [List.length_drop, List.length_take]; rfl)) ?_; (with_reducible refine (antiquarylaw08_sanity.calls kj5  t440 _ A12.out (by first | rfl | exact HT.out)).mono ?_); rintro e w13 ⟨rfl, hb⟩; refine ⟨_, rfl, ?_⟩; have n0_ := Aside0.mk (blk_below (g := gb438) (o := .cells #[.int .i64 a0_0, .slice A0_1 l0_1.length c0_1, .slice A0_2 l0_2.length c0_2] 25 (0, 0)) (by (with_reducible repeat (first | refine blk_drewN ?_ _ | refine blk_drew ?_ | refine blk_alloc ?_ _)); exact BK438.out) hb); have n1_ := Aside0.mk (below_step (by repeat (first | (with_reducible first | exact HB.out | apply below_alloc | apply pw_below_drewN | apply below_drew1 | refine below_set ?_ GE438.out) | exact HB.out)) hb); clear BK438; clear HB; have BK438 := n0_; have HB := n1_; clear n0_ n1_; (try clear hb); (try clear hb2); (try clear hk); (try clear hi)))
        go_ret
        exact ⟨by first | rfl | (simp [errW_none, errW_some] <;> rfl) | (simp [*, errW_none, errW_some] <;> rfl), by repeat (first | (with_reducible first | exact HB.out | apply below_alloc | apply pw_below_drewN | apply below_drew1 | refine below_set ?_ GE438.out) | exact HB.out)⟩
      · replace c11 := Bool.eq_false_iff.mpr c11
        subst c11
        have H1 : ((code_Decode.f kj5 a0_0 l0_1 l0_2 l3).bind fun bt441 => (if bt441.2 = 0 then ((antiquarylaw08_sanity.f kj5).bind fun t446 => (if t446 = true then (if (bt441.1.length : Int) = a0_0 then ((code_Table.f a0_0 l0_1 l0_2 a1 l2).bind fun t447 => ((code_Sum.f a1 t447 l3).bind fun t450 => ((antiquaryref04_Key.f kj5 a1 l2 bt441.1).bind fun t451 => (some (t450 == t451))))) else (some false)) else (some false))) else ((antiquarylaw08_sanity.f kj5).bind fun t445 => (if t445 = true then (some ((bt441.1.length : Int) == 0)) else (some false))))) = some r := by rw [if_neg (show ¬ (false = true) by decide)] at H; exact H
        clear H
        have H := H1
        clear H1
        replace H := Option.bind_eq_some_iff.mp H
        obtain ⟨⟨t441, t444⟩, A140, H⟩ := H
        replace H : (if t444 = 0 then ((antiquarylaw08_sanity.f kj5).bind fun t446 => (if t446 = true then (if (t441.length : Int) = a0_0 then ((code_Table.f a0_0 l0_1 l0_2 a1 l2).bind fun t447 => ((code_Sum.f a1 t447 l3).bind fun t450 => ((antiquaryref04_Key.f kj5 a1 l2 t441).bind fun t451 => (some (t450 == t451))))) else (some false)) else (some false))) else ((antiquarylaw08_sanity.f kj5).bind fun t445 => (if t445 = true then (some ((t441.length : Int) == 0)) else (some false)))) = some r := H
        have A14 := Aside0.mk A140
        clear A140
        by_cases c15 : t444 = 0
        · rw [if_pos c15] at H
          have c15b0 : (t444 == 0) = true := beq_iff_eq.mpr c15
          have c15b1 : (t444 != 0) = false := bne_eq_false_iff_eq.mpr c15
          clear c15
          replace H := Option.bind_eq_some_iff.mp H
          obtain ⟨t446, A160, H⟩ := H
          replace H : (if t446 = true then (if (t441.length : Int) = a0_0 then ((code_Table.f a0_0 l0_1 l0_2 a1 l2).bind fun t447 => ((code_Sum.f a1 t447 l3).bind fun t450 => ((antiquaryref04_Key.f kj5 a1 l2 t441).bind fun t451 => (some (t450 == t451))))) else (some false)) else (some false)) = some r := H
          have A16 := Aside0.mk A160
          clear A160
          by_cases c17 : t446 = true
          · subst c17
            have H1 : (if (t441.length : Int) = a0_0 then ((code_Table.f a0_0 l0_1 l0_2 a1 l2).bind fun t447 => ((code_Sum.f a1 t447 l3).bind fun t450 => ((antiquaryref04_Key.f kj5 a1 l2 t441).bind fun t451 => (some (t450 == t451))))) else (some false)) = some r := by rw [if_pos rfl] at H; exact H
            clear H
            have H := H1
            clear H1
            by_cases c18 : (t441.length : Int) = a0_0
            · rw [if_pos c18] at H
              have c18b0 : ((t441.length : Int) == a0_0) = true := beq_iff_eq.mpr c18
              have c18b1 : ((t441.length : Int) != a0_0) = false := bne_eq_false_iff_eq.mpr c18
              clear c18
              replace H := Option.bind_eq_some_iff.mp H
              obtain ⟨t447, A190, H⟩ := H
              replace H : ((code_Sum.f a1 t447 l3).bind fun t450 => ((antiquaryref04_Key.f kj5 a1 l2 t441).bind fun t451 => (some (t450 == t451)))) = some r := H
              have A19 := Aside0.mk A190
              clear A190
              replace H := Option.bind_eq_some_iff.mp H
              obtain ⟨t450, A200, H⟩ := H
              replace H : ((antiquaryref04_Key.f kj5 a1 l2 t441).bind fun t451 => (some (t450 == t451))) = some r := H
              have A20 := Aside0.mk A200
              clear A200
              replace H := Option.bind_eq_some_iff.mp H
              obtain ⟨t451, A210, H⟩ := H
              replace H : (some (t450 == t451)) = some r := H
              have A21 := Aside0.mk A210
              clear A210
              obtain rfl := Option.some.inj H
              have hcz22_0 : wc.cell? ⟨gb438, 0, none⟩ = some (.int .i64 a0_0) := (blk_cell BK438.out 0).trans rfl
              have hcz22_1 : wc.cell? ⟨gb438, 1, none⟩ = some (.slice A0_1 l0_1.length c0_1) := (blk_cell BK438.out 1).trans rfl
              have hcz22_2 : wc.cell? ⟨gb438, 2, none⟩ = some (.slice A0_2 l0_2.length c0_2) := (blk_cell BK438.out 2).trans rfl
              have hfz22_0 := blk_frozen BK438.out 0
              have hfz22_1 := blk_frozen BK438.out 1
              have hfz22_2 := blk_frozen BK438.out 2
              go_wp2_with (first | ((with_reducible refine gate_callee (f := 15) rfl ?_); refine goesL_ (some 28) rfl rfl Try.func15 (by kernel_rfl) rfl #[.agg #[.int .i64 a0_0, .slice A0_1 l0_1.length c0_1, .slice A0_2 l0_2.length c0_2], .slice A3 l3.length c3] rfl (by (try simp only [List.map_toArray, List.map_cons, List.map_nil]); first | done | rfl | (simp only [List.length_drop, List.length_take]; rfl)) ?_; (with_reducible refine (code_Decode.calls kj5 a0_0 _ _ l0_1 _ _ l0_2 _ _ l3 t441 t444 _ ?side1 ?side2 ?side3 ?side4 ?side5 ?side6 A14.out).mono ?_); (case side1 => repeat (first | exact (Kd.C_below HR0_1.out HB.out) | (with_reducible refine Kd.C_alloc ?_ _) | (with_reducible refine Kd.C_drewN ?_ _) | (with_reducible refine Kd.C_drew ?_))); (case side2 => exact HC0_1.out); (case side3 => repeat (first | exact (Kd.C_below HR0_2.out HB.out) | (with_reducible refine Kd.C_alloc ?_ _) | (with_reducible refine Kd.C_drewN ?_ _) | (with_reducible refine Kd.C_drew ?_))); (case side4 => exact HC0_2.out); (case side5 => repeat (first | exact (Kd.C_below HR3.out HB.out) | (with_reducible refine Kd.C_alloc ?_ _) | (with_reducible refine Kd.C_drewN ?_ _) | (with_reducible refine Kd.C_drew ?_))); (case side6 => exact HC3.out); rintro e w23 ⟨v442, rfl, ho0, hb⟩; refine ⟨_, rfl, ?_⟩; have n0_ := Aside0.mk (Kd.R_lower ho0 (below_size (by repeat (first | (with_reducible first | exact HB.out | apply below_alloc | apply pw_below_drewN | apply below_drew1 | refine below_set ?_ GE438.out) | exact HB.out)))); have n1_ := Aside0.mk (blk_below (g := gb438) (o := .cells #[.int .i64 a0_0, .slice A0_1 l0_1.length c0_1, .slice A0_2 l0_2.length c0_2] 25 (0, 0)) (by (with_reducible repeat (first | refine blk_drewN ?_ _ | refine blk_drew ?_ | refine blk_alloc ?_ _)); exact BK438.out) hb); have n2_ := Aside0.mk (below_step (by repeat (first | (with_reducible first | exact HB.out | apply below_alloc | apply pw_below_drewN | apply below_drew1 | refine below_set ?_ GE438.out) | exact HB.out)) hb); clear BK438; clear HB; have HO443 := n0_; have BK438 := n1_; have HB := n2_; clear n0_ n1_ n2_; (try clear hb); (try clear hb2); (try clear hk); (try clear hi); (try clear ho0)) | ((with_reducible refine gate_callee (f := 11) rfl ?_); refine goesL_ (some 39) rfl rfl Try.func11 (by kernel_rfl) rfl #[] rfl (by (try simp only [List.map_toArray, List.map_cons, List.map_nil]); first | done | rfl | (simp only [List.length_drop, List.length_take]; rfl)) ?_; (with_reducible refine (antiquarylaw08_sanity.calls kj5  true _ A16.out (by first | rfl | exact HT.out)).mono ?_); rintro e w24 ⟨rfl, hb⟩; refine ⟨_, rfl, ?_⟩; have n0_ := Aside0.mk (Kd.R_below (by (with_reducible repeat (first | apply Kd.R_alloc | apply Kd.R_drewN | apply Kd.R_drew)); exact HO443.out) hb); have n1_ := Aside0.mk (blk_below (g := gb438) (o := .cells #[.int .i64 a0_0, .slice A0_1 l0_1.length c0_1, .slice A0_2 l0_2.length c0_2] 25 (0, 0)) (by (with_reducible repeat (first | refine blk_drewN ?_ _ | refine blk_drew ?_ | refine blk_alloc ?_ _)); exact BK438.out) hb); have n2_ := Aside0.mk (below_step (by repeat (first | (with_reducible first | exact HB.out | apply below_alloc | apply pw_below_drewN | apply below_drew1 | refine below_set ?_ GE438.out) | exact HB.out)) hb); clear HO443; clear BK438; clear HB; have HO443 := n0_; have BK438 := n1_; have HB := n2_; clear n0_ n1_ n2_; (try clear hb); (try clear hb2); (try clear hk); (try clear hi); obtain ⟨Ao25, co25, eo25⟩ := Kd.R_slice HO443.out; subst eo25; have hcz26_0 : w24.cell? ⟨gb438, 0, none⟩ = some (.int .i64 a0_0) := (blk_cell BK438.out 0).trans rfl; have hcz26_1 : w24.cell? ⟨gb438, 1, none⟩ = some (.slice A0_1 l0_1.length c0_1) := (blk_cell BK438.out 1).trans rfl; have hcz26_2 : w24.cell? ⟨gb438, 2, none⟩ = some (.slice A0_2 l0_2.length c0_2) := (blk_cell BK438.out 2).trans rfl; have hfz26_0 := blk_frozen BK438.out 0; have hfz26_1 := blk_frozen BK438.out 1; have hfz26_2 := blk_frozen BK438.out 2) | (go_at_call 26; (with_reducible refine (code_Table.calls a0_0 _ _ l0_1 _ _ l0_2 a1 _ _ l2 t447 _ ?side1 ?side2 ?side3 ?side4 ?side5 ?side6 A19.out).mono ?_); (case side1 => repeat (first | exact (Kd.C_below HR0_1.out HB.out) | (with_reducible refine Kd.C_alloc ?_ _) | (with_reducible refine Kd.C_drewN ?_ _) | (with_reducible refine Kd.C_drew ?_))); (case side2 => exact HC0_1.out); (case side3 => repeat (first | exact (Kd.C_below HR0_2.out HB.out) | (with_reducible refine Kd.C_alloc ?_ _) | (with_reducible refine Kd.C_drewN ?_ _) | (with_reducible refine Kd.C_drew ?_))); (case side4 => exact HC0_2.out); (case side5 => repeat (first | exact (Kd.C_below HR2.out HB.out) | (with_reducible refine Kd.C_alloc ?_ _) | (with_reducible refine Kd.C_drewN ?_ _) | (with_reducible refine Kd.C_drew ?_))); (case side6 => exact HC2.out); rintro e w27 ⟨v448, rfl, ho0, hb⟩; have n0_ := Aside0.mk (Kd.R_below (by (with_reducible repeat (first | apply Kd.R_alloc | apply Kd.R_drewN | apply Kd.R_drew)); exact HO443.out) hb); have n1_ := Aside0.mk (Kd.S_lower (Kd.S_new' ho0 (Kd.R_lt (by (with_reducible repeat (first | apply Kd.R_alloc | apply Kd.R_drewN | apply Kd.R_drew)); exact HO443.out))) (below_size (by repeat (first | (with_reducible first | exact HB.out | apply below_alloc | apply pw_below_drewN | apply below_drew1 | refine below_set ?_ GE438.out) | exact HB.out)))); have n2_ := Aside0.mk (blk_below (g := gb438) (o := .cells #[.int .i64 a0_0, .slice A0_1 l0_1.length c0_1, .slice A0_2 l0_2.length c0_2] 25 (0, 0)) (by (with_reducible repeat (first | refine blk_drewN ?_ _ | refine blk_drew ?_ | refine blk_alloc ?_ _)); exact BK438.out) hb); have n3_ := Aside0.mk (below_step (by repeat (first | (with_reducible first | exact HB.out | apply below_alloc | apply pw_below_drewN | apply below_drew1 | refine below_set ?_ GE438.out) | exact HB.out)) hb); clear HO443; clear BK438; clear HB; have HO443 := n0_; have HO449 := n1_; have BK438 := n2_; have HB := n3_; clear n0_ n1_ n2_ n3_; (try clear hb); (try clear hb2); (try clear hk); (try clear hi); (try clear ho0); obtain ⟨Ao28, co28, eo28⟩ := Kd.S_slice HO449.out; subst eo28) | (go_at_call 27; (with_reducible refine (code_Sum.calls a1 _ _ t447 _ _ l3 t450 _ ?side1 ?side2 ?side3 ?side4 A20.out).mono ?_); (case side1 => repeat (first | exact (Kd.S_reads' HO449.out).2.2 | (with_reducible refine Kd.C_alloc ?_ _) | (with_reducible refine Kd.C_drewN ?_ _) | (with_reducible refine Kd.C_drew ?_))); (case side2 => exact (Kd.S_reads' HO449.out).2.1); (case side3 => repeat (first | exact (Kd.C_below HR3.out HB.out) | (with_reducible refine Kd.C_alloc ?_ _) | (with_reducible refine Kd.C_drewN ?_ _) | (with_reducible refine Kd.C_drew ?_))); (case side4 => exact HC3.out); rintro e w29 ⟨rfl, hb⟩; have n0_ := Aside0.mk (Kd.R_below (by (with_reducible repeat (first | apply Kd.R_alloc | apply Kd.R_drewN | apply Kd.R_drew)); exact HO443.out) hb); have n1_ := Aside0.mk (Kd.S_below (by (with_reducible repeat (first | apply Kd.S_alloc | apply Kd.S_drewN | apply Kd.S_drew)); exact HO449.out) hb); have n2_ := Aside0.mk (blk_below (g := gb438) (o := .cells #[.int .i64 a0_0, .slice A0_1 l0_1.length c0_1, .slice A0_2 l0_2.length c0_2] 25 (0, 0)) (by (with_reducible repeat (first | refine blk_drewN ?_ _ | refine blk_drew ?_ | refine blk_alloc ?_ _)); exact BK438.out) hb); have n3_ := Aside0.mk (below_step (by repeat (first | (with_reducible first | exact HB.out | apply below_alloc | apply pw_below_drewN | apply below_drew1 | refine below_set ?_ GE438.out) | exact HB.out)) hb); clear HO443; clear HO449; clear BK438; clear HB; have HO443 := n0_; have HO449 := n1_; have BK438 := n2_; have HB := n3_; clear n0_ n1_ n2_ n3_; (try clear hb); (try clear hb2); (try clear hk); (try clear hi)) | (go_at_call 29; (with_reducible refine (antiquaryref04_Key.calls kj5 a1 _ _ l2 _ _ t441 t451 _ ?side1 ?side2 ?side3 ?side4 A21.out).mono ?_); (case side1 => repeat (first | exact (Kd.C_below HR2.out HB.out) | (with_reducible refine Kd.C_alloc ?_ _) | (with_reducible refine Kd.C_drewN ?_ _) | (with_reducible refine Kd.C_drew ?_))); (case side2 => exact HC2.out); (case side3 => repeat (first | exact (Kd.R_reads' HO443.out).2.2 | (with_reducible refine Kd.C_alloc ?_ _) | (with_reducible refine Kd.C_drewN ?_ _) | (with_reducible refine Kd.C_drew ?_))); (case side4 => exact (Kd.R_reads' HO443.out).2.1); rintro e w30 ⟨rfl, hb⟩; have n0_ := Aside0.mk (Kd.R_below (by (with_reducible repeat (first | apply Kd.R_alloc | apply Kd.R_drewN | apply Kd.R_drew)); exact HO443.out) hb); have n1_ := Aside0.mk (Kd.S_below (by (with_reducible repeat (first | apply Kd.S_alloc | apply Kd.S_drewN | apply Kd.S_drew)); exact HO449.out) hb); have n2_ := Aside0.mk (blk_below (g := gb438) (o := .cells #[.int .i64 a0_0, .slice A0_1 l0_1.length c0_1, .slice A0_2 l0_2.length c0_2] 25 (0, 0)) (by (with_reducible repeat (first | refine blk_drewN ?_ _ | refine blk_drew ?_ | refine blk_alloc ?_ _)); exact BK438.out) hb); have n3_ := Aside0.mk (below_step (by repeat (first | (with_reducible first | exact HB.out | apply below_alloc | apply pw_below_drewN | apply below_drew1 | refine below_set ?_ GE438.out) | exact HB.out)) hb); clear HO443; clear HO449; clear BK438; clear HB; have HO443 := n0_; have HO449 := n1_; have BK438 := n2_; have HB := n3_; clear n0_ n1_ n2_ n3_; (try clear hb); (try clear hb2); (try clear hk); (try clear hi)))
              go_ret
              exact ⟨by first | rfl | (simp [errW_none, errW_some] <;> rfl) | (simp [*, errW_none, errW_some] <;> rfl), by repeat (first | (with_reducible first | exact HB.out | apply below_alloc | apply pw_below_drewN | apply below_drew1 | refine below_set ?_ GE438.out) | exact HB.out)⟩
            · rw [if_neg c18] at H
              have c18b0 : ((t441.length : Int) == a0_0) = false := beq_eq_false_iff_ne.mpr c18
              have c18b1 : ((t441.length : Int) != a0_0) = true := bne_iff_ne.mpr c18
              exact absurd (Option.some.inj H) (by rw [HT.out]; decide)
          · replace c17 := Bool.eq_false_iff.mpr c17
            subst c17
            have H1 : (some false) = some r := by rw [if_neg (show ¬ (false = true) by decide)] at H; exact H
            clear H
            have H := H1
            clear H1
            exact absurd (Option.some.inj H) (by rw [HT.out]; decide)
        · rw [if_neg c15] at H
          have c15b0 : (t444 == 0) = false := beq_eq_false_iff_ne.mpr c15
          have c15b1 : (t444 != 0) = true := bne_iff_ne.mpr c15
          replace H := Option.bind_eq_some_iff.mp H
          obtain ⟨t445, A390, H⟩ := H
          replace H : (if t445 = true then (some ((t441.length : Int) == 0)) else (some false)) = some r := H
          have A39 := Aside0.mk A390
          clear A390
          by_cases c40 : t445 = true
          · subst c40
            have H1 : (some ((t441.length : Int) == 0)) = some r := by rw [if_pos rfl] at H; exact H
            clear H
            have H := H1
            clear H1
            obtain rfl := Option.some.inj H
            have hcz41_0 : wc.cell? ⟨gb438, 0, none⟩ = some (.int .i64 a0_0) := (blk_cell BK438.out 0).trans rfl
            have hcz41_1 : wc.cell? ⟨gb438, 1, none⟩ = some (.slice A0_1 l0_1.length c0_1) := (blk_cell BK438.out 1).trans rfl
            have hcz41_2 : wc.cell? ⟨gb438, 2, none⟩ = some (.slice A0_2 l0_2.length c0_2) := (blk_cell BK438.out 2).trans rfl
            have hfz41_0 := blk_frozen BK438.out 0
            have hfz41_1 := blk_frozen BK438.out 1
            have hfz41_2 := blk_frozen BK438.out 2
            go_wp2_with (first | ((with_reducible refine gate_callee (f := 15) rfl ?_); refine goesL_ (some 28) rfl rfl Try.func15 (by kernel_rfl) rfl #[.agg #[.int .i64 a0_0, .slice A0_1 l0_1.length c0_1, .slice A0_2 l0_2.length c0_2], .slice A3 l3.length c3] rfl (by (try simp only [List.map_toArray, List.map_cons, List.map_nil]); first | done | rfl | (simp only [List.length_drop, List.length_take]; rfl)) ?_; (with_reducible refine (code_Decode.calls kj5 a0_0 _ _ l0_1 _ _ l0_2 _ _ l3 t441 t444 _ ?side1 ?side2 ?side3 ?side4 ?side5 ?side6 A14.out).mono ?_); (case side1 => repeat (first | exact (Kd.C_below HR0_1.out HB.out) | (with_reducible refine Kd.C_alloc ?_ _) | (with_reducible refine Kd.C_drewN ?_ _) | (with_reducible refine Kd.C_drew ?_))); (case side2 => exact HC0_1.out); (case side3 => repeat (first | exact (Kd.C_below HR0_2.out HB.out) | (with_reducible refine Kd.C_alloc ?_ _) | (with_reducible refine Kd.C_drewN ?_ _) | (with_reducible refine Kd.C_drew ?_))); (case side4 => exact HC0_2.out); (case side5 => repeat (first | exact (Kd.C_below HR3.out HB.out) | (with_reducible refine Kd.C_alloc ?_ _) | (with_reducible refine Kd.C_drewN ?_ _) | (with_reducible refine Kd.C_drew ?_))); (case side6 => exact HC3.out); rintro e w42 ⟨v442, rfl, ho0, hb⟩; refine ⟨_, rfl, ?_⟩; have n0_ := Aside0.mk (Kd.R_lower ho0 (below_size (by repeat (first | (with_reducible first | exact HB.out | apply below_alloc | apply pw_below_drewN | apply below_drew1 | refine below_set ?_ GE438.out) | exact HB.out)))); have n1_ := Aside0.mk (blk_below (g := gb438) (o := .cells #[.int .i64 a0_0, .slice A0_1 l0_1.length c0_1, .slice A0_2 l0_2.length c0_2] 25 (0, 0)) (by (with_reducible repeat (first | refine blk_drewN ?_ _ | refine blk_drew ?_ | refine blk_alloc ?_ _)); exact BK438.out) hb); have n2_ := Aside0.mk (below_step (by repeat (first | (with_reducible first | exact HB.out | apply below_alloc | apply pw_below_drewN | apply below_drew1 | refine below_set ?_ GE438.out) | exact HB.out)) hb); clear BK438; clear HB; have HO443 := n0_; have BK438 := n1_; have HB := n2_; clear n0_ n1_ n2_; (try clear hb); (try clear hb2); (try clear hk); (try clear hi); (try clear ho0)) | ((with_reducible refine gate_callee (f := 11) rfl ?_); refine goesL_ (some 33) rfl rfl Try.func11 (by kernel_rfl) rfl #[] rfl (by (try simp only [List.map_toArray, List.map_cons, List.map_nil]); first | done | rfl | (simp only [List.length_drop, List.length_take]; rfl)) ?_; (with_reducible refine (antiquarylaw08_sanity.calls kj5  true _ A39.out (by first | rfl | exact HT.out)).mono ?_); rintro e w43 ⟨rfl, hb⟩; refine ⟨_, rfl, ?_⟩; have n0_ := Aside0.mk (Kd.R_below (by (with_reducible repeat (first | apply Kd.R_alloc | apply Kd.R_drewN | apply Kd.R_drew)); exact HO443.out) hb); have n1_ := Aside0.mk (blk_below (g := gb438) (o := .cells #[.int .i64 a0_0, .slice A0_1 l0_1.length c0_1, .slice A0_2 l0_2.length c0_2] 25 (0, 0)) (by (with_reducible repeat (first | refine blk_drewN ?_ _ | refine blk_drew ?_ | refine blk_alloc ?_ _)); exact BK438.out) hb); have n2_ := Aside0.mk (below_step (by repeat (first | (with_reducible first | exact HB.out | apply below_alloc | apply pw_below_drewN | apply below_drew1 | refine below_set ?_ GE438.out) | exact HB.out)) hb); clear HO443; clear BK438; clear HB; have HO443 := n0_; have BK438 := n1_; have HB := n2_; clear n0_ n1_ n2_; (try clear hb); (try clear hb2); (try clear hk); (try clear hi); obtain ⟨Ao44, co44, eo44⟩ := Kd.R_slice HO443.out; subst eo44))
            go_ret
            exact ⟨by first | rfl | (simp [errW_none, errW_some] <;> rfl) | (simp [*, errW_none, errW_some] <;> rfl), by repeat (first | (with_reducible first | exact HB.out | apply below_alloc | apply pw_below_drewN | apply below_drew1 | refine below_set ?_ GE438.out) | exact HB.out)⟩
          · replace c40 := Bool.eq_false_iff.mpr c40
            subst c40
            have H1 : (some false) = some r := by rw [if_neg (show ¬ (false = true) by decide)] at H; exact H
            clear H
            have H := H1
            clear H1
            exact absurd (Option.some.inj H) (by rw [HT.out]; decide)
end Go.Proofs.Ytgpdfalopdhjlaa.Q
end
section
set_option linter.unusedVariables false
namespace Go.Proofs.Ytgpdfalopdhjlaa.Book
open Go.RowKit Go.Proofs.Ytgpdfalopdhjlaa.Q Go.Proofs.YtgpdfalopdhjlaaW.PrintWords Plain
theorem rdn (l : List Int) (k : Nat) (h : k < l.length) : rd l (k : Int) = l[k] := by unfold rd; rw [Int.toNat_natCast, List.getD_eq_getElem?_getD, List.getElem?_eq_getElem h]; rfl
theorem rdn_L1 (l : List (List Int)) (k : Nat) (h : k < l.length) : rd_L1 l (k : Int) = l[k] := by unfold rd_L1; rw [Int.toNat_natCast, List.getD_eq_getElem?_getD, List.getElem?_eq_getElem h]; rfl
theorem rd_mem_L1 (l : List (List Int)) {k : Int} (h0 : 0 ≤ k) (h : k < l.length) : rd_L1 l k ∈ l := by
  obtain ⟨n, rfl⟩ : ∃ n : Nat, k = n := ⟨k.toNat, by omega⟩
  rw [rdn_L1 l n (by omega)]
  exact List.getElem_mem _
theorem rd_L2_words (words : List (List (List Int))) (i : Nat) : rd_L2 words (i : Int) = wordsAt words i := by unfold rd_L2 wordsAt; rw [Int.toNat_natCast]
/-- keys put together, part by part -/
def joinUpTo (m : Int) (g : Nat → Int) : Nat → Int
  | 0 => 0
  | n + 1 => join m (joinUpTo m g n) (g n)
theorem joinUpTo_congr {m : Int} {g h : Nat → Int} : ∀ n, (∀ i, i < n → g i = h i) → joinUpTo m g n = joinUpTo m h n
  | 0, _ => rfl
  | n + 1, e => by rw [joinUpTo, joinUpTo, joinUpTo_congr n (fun i hi => e i (by omega)), e n (by omega)]
theorem table_length (dims : Int) (cuts : List Int) (words : List (List (List Int))) (m : Int) (v : List Int) : (tableOf dims cuts words m v (List.finRange cuts.length)).length = cuts.length := by unfold tableOf; rw [List.length_map, List.length_finRange]
theorem table_rd (dims : Int) (cuts : List Int) (words : List (List (List Int))) (m : Int) (v : List Int) {i : Nat} (h : i < cuts.length) : rd_L1 (tableOf dims cuts words m v (List.finRange cuts.length)) (i : Int) = tableRow dims cuts words m v i := by
  rw [rdn_L1 _ i (by rw [table_length]; exact h)]
  unfold tableOf
  simp
/-- where part n begins, or the end -/
def cutAt (cuts : List Int) (dims : Int) (n : Nat) : Int := if n < cuts.length then rd cuts (n : Int) else dims
theorem partAt_cut {cuts : List Int} {dims : Int} {i : Nat} (h : i < cuts.length) : Q.partAt cuts dims i = ((i : Int), cutAt cuts dims i, cutAt cuts dims (i + 1)) := by
  unfold Q.partAt cutAt
  rw [if_pos h]
theorem cutAt_zero {cuts : List Int} {dims : Int} (h : cutOk cuts dims) : cutAt cuts dims 0 = 0 := by
  unfold cutAt
  rw [if_pos (by have := h.2.1.1; omega)]
  exact h.2.2.1
theorem cutAt_end {cuts : List Int} {dims : Int} : cutAt cuts dims cuts.length = dims := by
  unfold cutAt
  rw [if_neg (by omega)]
theorem cutAt_range {cuts : List Int} {dims : Int} (h : cutOk cuts dims) {i : Nat} (hi : i < cuts.length) : 0 ≤ cutAt cuts dims i ∧ cutAt cuts dims i < cutAt cuts dims (i + 1) ∧ cutAt cuts dims (i + 1) ≤ dims := by
  have := part_range h hi
  rw [partAt_cut hi] at this
  exact this
theorem cutAt_nonneg {cuts : List Int} {dims : Int} (h : cutOk cuts dims) {i : Nat} (hi : i ≤ cuts.length) : 0 ≤ cutAt cuts dims i ∧ cutAt cuts dims i ≤ dims := by
  rcases Nat.lt_or_ge i cuts.length with h2 | h2
  · have := cutAt_range h h2; omega
  · obtain rfl : i = cuts.length := by omega
    rw [cutAt_end]; have := h.1; omega
theorem part_step {cuts : List Int} {dims : Int} (h : cutOk cuts dims) {i : Nat} (hi : i < cuts.length) (v : List Int) : v.take (cutAt cuts dims (i + 1)).toNat = v.take (cutAt cuts dims i).toNat ++ partOf v (Q.partAt cuts dims i) := by
  have := cutAt_range h hi
  rw [partAt_cut hi]
  unfold partOf
  dsimp only
  have e := List.take_append_drop (cutAt cuts dims i).toNat (v.take (cutAt cuts dims (i + 1)).toNat)
  rw [List.take_take, Nat.min_eq_left (by omega)] at e
  exact e.symm
theorem diffs_append : ∀ (p1 q1 p2 q2 : List Int), p1.length = q1.length → diffs (p1 ++ p2) (q1 ++ q2) = diffs p1 q1 ++ diffs p2 q2
  | [], [], _, _, _ => rfl
  | x :: p, y :: q, p2, q2, h => by simp only [List.cons_append, diffs]; rw [diffs_append p q p2 q2 (by simpa using h)]
theorem key_append (m : Int) {p1 q1 : List Int} (p2 q2 : List Int) (h : p1.length = q1.length) : key m (p1 ++ p2) (q1 ++ q2) = join m (key m p1 q1) (key m p2 q2) := by
  unfold key
  rw [diffs_append _ _ _ _ h, norm_append]
/-- the word that a code names for a part -/
def wordOf (words : List (List (List Int))) (c : List Int) (i : Nat) : List Int := rd_L1 (wordsAt words i) (rd c (i : Int))
/-- what a code stands for, up to a part -/
def standUpTo (words : List (List (List Int))) (c : List Int) : Nat → List Int
  | 0 => []
  | n + 1 => standUpTo words c n ++ wordOf words c n
def isCode (words : List (List (List Int))) (c : List Int) : Prop := c.length = words.length ∧ ∀ i, i < c.length → 0 ≤ rd c (i : Int) ∧ rd c (i : Int) < (wordsAt words i).length
instance (words : List (List (List Int))) (c : List Int) : Decidable (isCode words c) := by unfold isCode; infer_instance
/-- what a code stands for, and the error -/
def decodeOf (words : List (List (List Int))) (c : List Int) : List Int × Int := if isCode words c then (standUpTo words c c.length, 0) else ([], 1)
theorem wordOf_mem {words : List (List (List Int))} {c : List Int} (h : isCode words c) {i : Nat} (hi : i < c.length) : wordOf words c i ∈ wordsAt words i := rd_mem_L1 _ (h.2 i hi).1 (h.2 i hi).2
theorem wordOf_book {dims : Int} {cuts : List Int} {words : List (List (List Int))} {c : List Int} (hb : bookOk dims cuts words) (h : isCode words c) {i : Nat} (hi : i < cuts.length) : isVec (wordOf words c i) ∧ ((wordOf words c i).length : Int) = cutAt cuts dims (i + 1) - cutAt cuts dims i := by
  have := (hb.2.2 i hi).2 _ (wordOf_mem h (by have := h.1; have := hb.2.1; omega))
  rw [partAt_cut hi] at this
  exact this
theorem stand_length {dims : Int} {cuts : List Int} {words : List (List (List Int))} {c : List Int} (hb : bookOk dims cuts words) (h : isCode words c) : ∀ n, n ≤ cuts.length → ((standUpTo words c n).length : Int) = cutAt cuts dims n
  | 0, _ => by rw [cutAt_zero hb.1]; rfl
  | n + 1, hn => by
    have := stand_length hb h n (by omega)
    have := (wordOf_book hb h (show n < cuts.length by omega)).2
    rw [standUpTo, List.length_append]
    omega
theorem stand_range {dims : Int} {cuts : List Int} {words : List (List (List Int))} {c : List Int} (hb : bookOk dims cuts words) (h : isCode words c) : ∀ n, n ≤ cuts.length → ∀ x ∈ standUpTo words c n, -1000 ≤ x ∧ x ≤ 1000
  | 0, _ => by simp [standUpTo]
  | n + 1, hn => by
    intro x hx
    rw [standUpTo] at hx
    rcases List.mem_append.1 hx with hx | hx
    · exact stand_range hb h n (by omega) x hx
    · exact (wordOf_book hb h (show n < cuts.length by omega)).1.1 x hx
theorem stand_vec {dims : Int} {cuts : List Int} {words : List (List (List Int))} {c : List Int} (hb : bookOk dims cuts words) (h : isCode words c) : isVec (standUpTo words c cuts.length) ∧ ((standUpTo words c cuts.length).length : Int) = dims := by
  have hl := stand_length hb h cuts.length (Nat.le_refl _)
  rw [cutAt_end] at hl
  have := hb.1.1
  exact ⟨⟨stand_range hb h _ (Nat.le_refl _), by omega, by omega⟩, hl⟩
theorem key_stand {dims : Int} {cuts : List Int} {words : List (List (List Int))} {c v : List Int} (m : Int) (hb : bookOk dims cuts words) (h : isCode words c) (hv : (v.length : Int) = dims) : ∀ n, n ≤ cuts.length → key m (v.take (cutAt cuts dims n).toNat) (standUpTo words c n) = joinUpTo m (fun i => key m (partOf v (Q.partAt cuts dims i)) (wordOf words c i)) n
  | 0, _ => by rw [cutAt_zero hb.1]; rfl
  | n + 1, hn => by
    have hs := stand_length hb h n (by omega)
    have hc := cutAt_nonneg hb.1 (show n ≤ cuts.length by omega)
    rw [part_step hb.1 (by omega), standUpTo, key_append m _ _ (by rw [List.length_take]; omega), key_stand m hb h hv n (by omega)]
    rfl
theorem key_stand_all {dims : Int} {cuts : List Int} {words : List (List (List Int))} {c v : List Int} (m : Int) (hb : bookOk dims cuts words) (h : isCode words c) (hv : (v.length : Int) = dims) : key m v (standUpTo words c cuts.length) = joinUpTo m (fun i => key m (partOf v (Q.partAt cuts dims i)) (wordOf words c i)) cuts.length := by
  have := key_stand m hb h hv cuts.length (Nat.le_refl _)
  rw [cutAt_end, List.take_of_length_le (by omega)] at this
  exact this
theorem sum_join (m : Int) (t : List (List Int)) (c : List Int) : ∀ n, sumUpTo m t c n = joinUpTo m (sumAt t c) n
  | 0 => rfl
  | n + 1 => by rw [sumUpTo, joinUpTo, sum_join m t c n]
theorem sumAt_is {dims : Int} {cuts : List Int} {words : List (List (List Int))} {c q : List Int} (m : Int) (hb : bookOk dims cuts words) (h : isCode words c) {i : Nat} (hi : i < cuts.length) :
    sumAt (tableOf dims cuts words m q (List.finRange cuts.length)) c i = key m (partOf q (Q.partAt cuts dims i)) (wordOf words c i) := by
  have hc := h.2 i (by have := h.1; have := hb.2.1; omega)
  unfold sumAt wordOf
  rw [table_rd _ _ _ _ _ hi]
  obtain ⟨j, hj⟩ : ∃ j : Nat, rd c (i : Int) = j := ⟨(rd c (i : Int)).toNat, by omega⟩
  rw [hj] at hc ⊢
  have hj2 : j < (wordsAt words i).length := by omega
  rw [rdn _ j (by unfold tableRow; rw [List.length_map]; exact hj2), rdn_L1 _ j hj2, key_comm]
  unfold tableRow
  simp
/-- the sum of a table and a code is the key of the query and what the code stands for -/
theorem sum_is {dims : Int} {cuts : List Int} {words : List (List (List Int))} {c q : List Int} (m : Int) (hb : bookOk dims cuts words) (h : isCode words c) (hq : (q.length : Int) = dims) :
    sumUpTo m (tableOf dims cuts words m q (List.finRange cuts.length)) c c.length = key m q (standUpTo words c cuts.length) := by
  have hl : c.length = cuts.length := by rw [h.1, hb.2.1]
  rw [hl, sum_join, key_stand_all m hb h hq]
  exact joinUpTo_congr _ (fun i hi => sumAt_is m hb h hi)
theorem sum_ok {dims : Int} {cuts : List Int} {words : List (List (List Int))} {c q : List Int} {m : Int} (hm : 1 ≤ m ∧ m ≤ 3) (hb : bookOk dims cuts words) (h : isCode words c) (hs : isVec q) (hq : (q.length : Int) = dims) :
    sumOk m (tableOf dims cuts words m q (List.finRange cuts.length)) c := by
  have hl : c.length = cuts.length := by rw [h.1, hb.2.1]
  refine ⟨hm, ⟨by rw [table_length]; omega, by have := hb.1.2.1.2; omega⟩, fun i hi => ?_⟩
  have hi2 : i < cuts.length := by omega
  have hc := h.2 i hi
  rw [sumAt_is m hb h hi2, table_rd _ _ _ _ _ hi2]
  have ha := alike_symm (book_alike hb hi2 hq hs _ (wordOf_mem h hi))
  have hk := key_isKey m ha
  unfold isKey at hk
  unfold tableRow
  rw [List.length_map]
  exact ⟨hc, hk.1, by omega⟩
end Go.Proofs.Ytgpdfalopdhjlaa.Book
end
section
set_option linter.unusedVariables false
namespace Go.Proofs.Ytgpdfalopdhjlaa.Ref04
open Go.RowKit Go.Proofs.Ytgpdfalopdhjlaa.Q Go.Proofs.YtgpdfalopdhjlaaW.PrintWords Plain
theorem rd_mid (pre : List Int) (x : Int) (v : List Int) : rd (pre ++ x :: v) (pre.length : Int) = x := by
  unfold rd
  simp
theorem len_cast (pre : List Int) (x : Int) (v : List Int) : ((pre ++ x :: v).length : Int) = pre.length + 1 + v.length := by
  simp; omega
theorem snoc_len (pre : List Int) (x : Int) : ((pre ++ [x]).length : Int) = pre.length + 1 := by simp
theorem snoc_eq (pre : List Int) (x : Int) (v : List Int) : pre ++ x :: v = (pre ++ [x]) ++ v := by simp
theorem wsucc (n : Nat) (h : (n : Int) ≤ 4611686018427387904) : wrap64 ((n : Int) + 1) = (n : Int) + 1 := by unfold wrap64; omega
theorem valid_l (v : List Int) : ∀ pre : List Int, ((pre ++ v).length : Int) ≤ 4611686018427387904 →
    Ev (fun k => antiquaryref04_Valid.l0 k (pre ++ v) pre.length) (decide ((∀ x ∈ v, -1000 ≤ x ∧ x ≤ 1000) ∧ 1 ≤ (pre ++ v).length ∧ (pre ++ v).length ≤ 32)) := by
  induction v with
  | nil =>
    intro pre hl
    refine ev_succ ?_
    simp only [antiquaryref04_Valid.l0, List.append_nil]
    refine ev_neg (by omega) ?_
    by_cases h1 : (pre.length : Int) ≥ 1
    · exact ev_pos h1 (ev_some (by rw [Bool.eq_iff_iff]; simp; omega))
    · exact ev_neg h1 (ev_some (by rw [Bool.eq_iff_iff]; simp; omega))
  | cons x v ih =>
    intro pre hl
    have hlen := len_cast pre x v
    refine ev_succ ?_
    simp only [antiquaryref04_Valid.l0]
    refine ev_pos (by omega) (ev_pos (by omega) ?_)
    rw [rd_mid]
    by_cases h1 : x < -1000
    · refine ev_pos h1 (ev_some ?_)
      symm
      rw [decide_eq_false_iff_not]
      rintro ⟨h, _⟩
      have := h x List.mem_cons_self
      omega
    · refine ev_neg h1 ?_
      by_cases h2 : x > 1000
      · refine ev_pos h2 (ev_some ?_)
        symm
        rw [decide_eq_false_iff_not]
        rintro ⟨h, _⟩
        have := h x List.mem_cons_self
        omega
      · refine ev_neg h2 ?_
        have := ih (pre ++ [x]) (by rw [← snoc_eq]; exact hl)
        rw [snoc_len, ← snoc_eq] at this
        rw [wsucc _ (by omega)]
        refine ev_cast this ?_
        rw [Bool.eq_iff_iff, decide_eq_true_eq, decide_eq_true_eq]
        refine and_congr_left (fun _ => ⟨fun h y hy => ?_, fun h y hy => h y (List.mem_cons_of_mem _ hy)⟩)
        rcases List.mem_cons.mp hy with rfl | hy
        · omega
        · exact h y hy
theorem valid_ev (v : List Int) (hl : v.length * 8 ≤ 140737488351232) : Ev (fun k => antiquaryref04_Valid.f k v) (decide (isVec v)) := by
  have h : Ev (fun k => antiquaryref04_Valid.f k v) _ := valid_l v [] (by simp; omega)
  exact ev_cast h (by rw [Bool.eq_iff_iff, decide_eq_true_eq, decide_eq_true_eq]; exact Iff.rfl)
theorem mag_f {x : Int} (h : -2000 ≤ x ∧ x ≤ 2000) : antiquaryref04_size.f x = some (Plain.mag x) := by
  unfold antiquaryref04_size.f Plain.mag
  split
  · rw [w64 (by omega) (by omega)]
  · rfl
theorem norm_l (m : Int) (v : List Int) : ∀ (pre : List Int) (acc : Int), (∀ x ∈ v, -2000 ≤ x ∧ x ≤ 2000) → 0 ≤ acc → acc + 4000000 * v.length ≤ 4611686018427387904 → ((pre ++ v).length : Int) ≤ 4611686018427387904 →
    Ev (fun k => antiquaryref04_Norm.l0 k m (pre ++ v) acc pre.length) (join m acc (norm m v)) := by
  induction v with
  | nil =>
    intro pre acc _ h0 _ hl
    refine ev_succ ?_
    simp only [antiquaryref04_Norm.l0, List.append_nil]
    refine ev_neg (by omega) (ev_some ?_)
    exact (join_zero m h0).symm
  | cons x v ih =>
    intro pre acc hv h0 hb hl
    have hlen := len_cast pre x v
    have hx := hv x List.mem_cons_self
    have hp0 := ptl_nonneg m x
    have hp1 := ptl_le m hx
    have hn := ih (pre ++ [x]) (join m acc (ptl m x)) (fun y hy => hv y (List.mem_cons_of_mem _ hy)) (join_nonneg m h0 hp0)
      (by have := join_le_add m h0 hp0; simp only [List.length_cons] at hb; omega) (by rw [← snoc_eq]; exact hl)
    rw [snoc_len, ← snoc_eq, join_assoc] at hn
    simp only [List.length_cons] at hb
    refine ev_succ ?_
    simp only [antiquaryref04_Norm.l0]
    refine ev_pos (by omega) ?_
    rw [rd_mid, wsucc _ (by omega)]
    by_cases h1 : m = 1
    · refine ev_pos h1 (ev_pos (by omega) (ev_ob (mag_f hx) ?_))
      have e : join m acc (ptl m x) = wrap64 (acc + Plain.mag x) := by
        have e1 : ptl m x = Plain.mag x := by unfold ptl; rw [if_neg (by omega)]
        rw [w64 (by omega) (by omega), e1]
        unfold join; rw [if_pos (.inl h1)]
      rw [e] at hn
      exact hn
    · refine ev_neg h1 ?_
      by_cases h2 : m = 2
      · refine ev_pos h2 (ev_pos (by omega) ?_)
        have e1 : ptl m x = x * x := by unfold ptl; rw [if_pos h2]
        have e : join m acc (ptl m x) = wrap64 (acc + wrap64 (x * x)) := by
          rw [w64 (x := x * x) (by omega) (by omega), w64 (by omega) (by omega), e1]
          unfold join; rw [if_pos (.inr h2)]
        rw [e] at hn
        exact hn
      · refine ev_neg h2 (ev_pos (by omega) (ev_ob (mag_f hx) ?_))
        have e : join m acc (ptl m x) = mx acc (Plain.mag x) := by
          unfold join ptl mx; rw [if_neg (by omega), if_neg h2]
        rw [e] at hn
        exact hn
theorem norm_ev (m : Int) (v : List Int) (hv : ∀ x ∈ v, -2000 ≤ x ∧ x ≤ 2000) (hl : v.length ≤ 1000000) : Ev (fun k => antiquaryref04_Norm.f k m v) (norm m v) := by
  have h : Ev (fun k => antiquaryref04_Norm.f k m v) _ := norm_l m v [] 0 hv (by omega) (by omega) (by simp; omega)
  exact ev_cast h (zero_join m (norm_nonneg m v))
theorem sub_l (p : List Int) : ∀ (q p0 q0 acc : List Int), p.length = q.length → p0.length = q0.length → acc.length = p0.length → (p0 ++ p).length ≤ 1000000 → (∀ x ∈ p, -1000 ≤ x ∧ x ≤ 1000) → (∀ x ∈ q, -1000 ≤ x ∧ x ≤ 1000) →
    Ev (fun k => antiquaryref04_Sub.l0 k (p0 ++ p) (q0 ++ q) acc p0.length) (acc ++ diffs p q) := by
  induction p with
  | nil =>
    intro q p0 q0 acc h1 h2 h3 hl _ _
    obtain rfl : q = [] := List.eq_nil_of_length_eq_zero (by simpa using h1.symm)
    refine ev_succ ?_
    simp only [antiquaryref04_Sub.l0, List.append_nil]
    refine ev_neg (by omega) (ev_some ?_)
    simp [diffs]
  | cons x p ih =>
    intro q p0 q0 acc h1 h2 h3 hl hp hq
    obtain ⟨y, q, rfl⟩ : ∃ y t, q = y :: t := by
      cases q with
      | nil => simp at h1
      | cons y t => exact ⟨y, t, rfl⟩
    have hlen := len_cast p0 x p
    have hlen2 := len_cast q0 y q
    have h1' : p.length = q.length := by simpa using h1
    have hx := hp x List.mem_cons_self
    have hy := hq y List.mem_cons_self
    have hn := ih q (p0 ++ [x]) (q0 ++ [y]) (acc ++ [x - y]) h1' (by simp [h2]) (by simp [h3]) (by simpa using hl) (fun z hz => hp z (List.mem_cons_of_mem _ hz)) (fun z hz => hq z (List.mem_cons_of_mem _ hz))
    rw [snoc_len, ← snoc_eq, ← snoc_eq] at hn
    have hl' : (p0 ++ x :: p).length ≤ 1000000 := hl
    refine ev_succ ?_
    simp only [antiquaryref04_Sub.l0]
    refine ev_pos (by omega) (ev_pos (by omega) (ev_pos (by omega) (ev_pos (by omega) ?_)))
    rw [rd_mid, show (p0.length : Int) = (q0.length : Int) by omega, rd_mid, ← show (p0.length : Int) = (q0.length : Int) by omega, wsucc _ (by omega), w64 (by omega) (by omega)]
    refine ev_cast hn ?_
    simp [diffs]
theorem sub_ev {p q : List Int} (h : alike p q) : Ev (fun k => antiquaryref04_Sub.f k p q) (diffs p q) := by
  have h : Ev (fun k => antiquaryref04_Sub.f k p q) _ := sub_l p q [] [] [] h.2.2 rfl rfl (by have := h.1.2.2; simp; omega) h.1.1 h.2.1.1
  exact h
theorem key_ev (m : Int) {p q : List Int} (h : alike p q) : Ev (fun k => antiquaryref04_Key.f k m p q) (key m p q) := by
  unfold antiquaryref04_Key.f
  refine ev_bind (sub_ev h) (ev_bind (norm_ev m _ (diffs_range p q h.1.1 h.2.1.1) ?_) (ev_some rfl))
  rw [diffs_length p q h.2.2]
  have := h.1.2.2
  omega
end Go.Proofs.Ytgpdfalopdhjlaa.Ref04
end
section
set_option linter.unusedVariables false
namespace Go.Proofs.Ytgpdfalopdhjlaa.Ev08
open Go.RowKit Go.Proofs.Ytgpdfalopdhjlaa.Q Go.Proofs.YtgpdfalopdhjlaaW.PrintWords Plain Go.Proofs.Ytgpdfalopdhjlaa.Book
theorem valid_any (v : List Int) (hl : v.length ≤ 9223372036854775807) : Ev (fun k => antiquaryref04_Valid.f k v) (decide (isVec v)) := by
  have bad : ∀ i, i < v.length → ¬ (-1000 ≤ rd v (i : Int) ∧ rd v (i : Int) ≤ 1000) → false = decide (isVec v) := fun i hi h => by
    symm
    rw [decide_eq_false_iff_not]
    intro h2
    rw [rdn v i hi] at h
    exact h (h2.1 _ (List.getElem_mem hi))
  refine ev_count (G := fun i k => antiquaryref04_Valid.l0 k v (i : Int)) (n := v.length) (fun i => ∀ j, j < i → -1000 ≤ rd v (j : Int) ∧ rd v (j : Int) ≤ 1000) (fun j hj => by omega) (fun i hi hI h => ?_) (fun hI => ?_)
  · refine ev_succ ?_
    simp only [antiquaryref04_Valid.l0]
    refine ev_pos (by omega) (ev_pos (by omega) ?_)
    by_cases c1 : rd v (i : Int) < -1000
    · exact ev_pos c1 (ev_some (bad i hi (by omega)))
    refine ev_neg c1 ?_
    by_cases c2 : rd v (i : Int) > 1000
    · exact ev_pos c2 (ev_some (bad i hi (by omega)))
    refine ev_neg c2 ?_
    rw [wsuc i (by omega)]
    exact h (fun j hj => by
      rcases Nat.lt_or_ge j i with h4 | h4
      · exact hI j h4
      · obtain rfl : j = i := by omega
        omega)
  · have hall : ∀ x ∈ v, -1000 ≤ x ∧ x ≤ 1000 := fun x hx => by
      obtain ⟨j, hj, rfl⟩ := List.mem_iff_getElem.1 hx
      have := hI j hj
      rwa [rdn v j hj] at this
    refine ev_succ ?_
    simp only [antiquaryref04_Valid.l0]
    refine ev_neg (by omega) ?_
    by_cases h1 : (v.length : Int) ≥ 1
    · refine ev_pos h1 (ev_some ?_)
      rw [decide_eq_decide]
      exact ⟨fun h => ⟨hall, by omega, by omega⟩, fun h => by have := h.2.2; omega⟩
    · refine ev_neg h1 (ev_some (decide_eq_false (fun h => by have := h.2.1; omega)).symm)
/-- a codebook with few words -/
def fewW (ws : List (List Int)) : Prop := (ws.length ≤ 30 ∨ (256 < ws.length ∧ ws.length ≤ 300)) ∧ ∀ j, j < ws.length → (rd_L1 ws (j : Int)).length ≤ 33
instance (ws : List (List Int)) : Decidable (fewW ws) := by unfold fewW; infer_instance
def few (cuts : List Int) (words : List (List (List Int))) : Prop := (words.length ≤ 9 ∧ cuts.length ≤ 9) ∧ ∀ i, i < words.length → fewW (wordsAt words i)
instance (cuts : List Int) (words : List (List (List Int))) : Decidable (few cuts words) := by unfold few; infer_instance
theorem few_ev (d : Int) (cuts : List Int) (words : List (List (List Int))) : Ev (fun k => antiquaryref08_Few.f k d cuts words) (decide (few cuts words)) := by
  have no : ¬ few cuts words → false = decide (few cuts words) := fun h => (decide_eq_false h).symm
  have bad : ∀ i, i < words.length → ¬ fewW (wordsAt words i) → false = decide (few cuts words) := fun i hi h => no (fun h2 => h (h2.2 i hi))
  unfold antiquaryref08_Few.f
  by_cases h1 : (words.length : Int) > 9
  · refine ev_pos h1 (ev_succ ?_)
    simp only [antiquaryref08_Few.j0]
    exact ev_pos trivial (ev_some (no (fun h => by have := h.1.1; omega)))
  refine ev_neg h1 (ev_succ ?_)
  simp only [antiquaryref08_Few.j0]
  by_cases h2 : (cuts.length : Int) > 9
  · exact ev_pos (decide_eq_true h2) (ev_some (no (fun h => by have := h.1.2; omega)))
  refine ev_neg (by simpa using h2) ?_
  refine ev_count (G := fun i k => antiquaryref08_Few.l0 k (i : Int) d cuts words) (n := words.length) (fun i => ∀ j, j < i → fewW (wordsAt words j)) (fun j hj => by omega) (fun i hi hI h => ?_) (fun hI => ?_)
  · refine ev_succ ?_
    simp only [antiquaryref08_Few.l0]
    rw [rd_L2_words]
    have inner : ((wordsAt words i).length ≤ 30 ∨ (256 < (wordsAt words i).length ∧ (wordsAt words i).length ≤ 300)) → Ev (fun k => antiquaryref08_Few.l1 k (i : Int) 0 d cuts words) (decide (few cuts words)) := fun hl => by
      refine ev_count (G := fun j k => antiquaryref08_Few.l1 k (i : Int) (j : Int) d cuts words) (n := (wordsAt words i).length) (fun j => ∀ j', j' < j → (rd_L1 (wordsAt words i) (j' : Int)).length ≤ 33) (fun j hj => by omega) (fun j hj hJ h2 => ?_) (fun hJ => ?_)
      · refine ev_succ ?_
        simp only [antiquaryref08_Few.l1]
        rw [rd_L2_words]
        refine ev_pos (by omega) (ev_pos (by omega) (ev_pos (by omega) (ev_pos (by omega) ?_)))
        by_cases h3 : ((rd_L1 (wordsAt words i) (j : Int)).length : Int) > 33
        · exact ev_pos h3 (ev_some (bad i hi (fun h4 => by have := h4.2 j hj; omega)))
        · refine ev_neg h3 ?_
          rw [wsuc j (by omega)]
          exact h2 (fun j' hj' => by
            rcases Nat.lt_or_ge j' j with h4 | h4
            · exact hJ j' h4
            · obtain rfl : j' = j := by omega
              omega)
      · refine ev_succ ?_
        simp only [antiquaryref08_Few.l1]
        rw [rd_L2_words]
        refine ev_pos (by omega) (ev_pos (by omega) (ev_neg (by omega) ?_))
        rw [wsuc i (by omega)]
        exact h (fun j hj => by
          rcases Nat.lt_or_ge j i with h4 | h4
          · exact hI j h4
          · obtain rfl : j = i := by omega
            exact ⟨hl, hJ⟩)
    have yes : ((wordsAt words i).length ≤ 30 ∨ (256 < (wordsAt words i).length ∧ (wordsAt words i).length ≤ 300)) → Ev (fun k => antiquaryref08_Few.j2 k (i : Int) false d cuts words) (decide (few cuts words)) := fun hl => by
      refine ev_succ ?_
      simp only [antiquaryref08_Few.j2]
      exact ev_neg (by simp) (inner hl)
    have nope : ¬ ((wordsAt words i).length ≤ 30 ∨ (256 < (wordsAt words i).length ∧ (wordsAt words i).length ≤ 300)) → Ev (fun k => antiquaryref08_Few.j2 k (i : Int) true d cuts words) (decide (few cuts words)) := fun hl => by
      refine ev_succ ?_
      simp only [antiquaryref08_Few.j2]
      exact ev_pos trivial (ev_some (bad i hi (fun h4 => hl h4.1)))
    refine ev_pos (by omega) (ev_pos (by omega) ?_)
    by_cases c1 : ((wordsAt words i).length : Int) > 30
    · refine ev_pos c1 ?_
      by_cases c2 : ((wordsAt words i).length : Int) ≤ 256
      · exact ev_pos c2 (nope (by omega))
      · refine ev_neg c2 ?_
        by_cases c3 : ((wordsAt words i).length : Int) > 300
        · rw [decide_eq_true c3]; exact nope (by omega)
        · rw [decide_eq_false c3]; exact yes (by omega)
    · refine ev_neg c1 ?_
      rw [decide_eq_false (by omega)]
      exact yes (by omega)
  · refine ev_succ ?_
    simp only [antiquaryref08_Few.l0]
    exact ev_neg (by omega) (ev_some (decide_eq_true ⟨⟨by omega, by omega⟩, hI⟩).symm)
theorem cut_ev (cuts : List Int) (dims : Int) (hl : cuts.length ≤ 4611686018427387904) : Ev (fun k => antiquaryref08_cut.f k cuts dims) (decide (cutOk cuts dims)) := by
  have no : ¬ cutOk cuts dims → Ev (fun k => antiquaryref08_cut.j0 k cuts dims true) (decide (cutOk cuts dims)) := fun h => by
    refine ev_succ ?_
    simp only [antiquaryref08_cut.j0]
    exact ev_pos trivial (ev_some (decide_eq_false h).symm)
  have bad : ∀ j, j < cuts.length → ¬ cutGood cuts dims j → false = decide (cutOk cuts dims) := fun j hj h => by
    symm
    rw [decide_eq_false_iff_not, cutOk_iff]
    exact fun h2 => h (h2.2.2 j hj)
  unfold antiquaryref08_cut.f
  by_cases h1 : dims < 1
  · exact ev_pos h1 (no (fun h => by have := h.1.1; omega))
  refine ev_neg h1 ?_
  by_cases h2 : dims > 32
  · exact ev_pos h2 (no (fun h => by have := h.1.2; omega))
  refine ev_neg h2 ?_
  by_cases h3 : (cuts.length : Int) < 1
  · exact ev_pos h3 (no (fun h => by have := h.2.1.1; omega))
  refine ev_neg h3 ?_
  by_cases h4 : (cuts.length : Int) > 8
  · exact ev_pos h4 (no (fun h => by have := h.2.1.2; omega))
  refine ev_neg h4 (ev_pos (by omega) ?_)
  by_cases h5 : rd cuts 0 = 0
  rotate_left
  · rw [show (rd cuts 0 != 0) = true by simpa using h5]
    exact no (fun h => h5 h.2.2.1)
  rw [show (rd cuts 0 != 0) = false by simpa using h5]
  refine ev_succ ?_
  simp only [antiquaryref08_cut.j0]
  refine ev_neg (by simp) ?_
  refine ev_count (G := fun i k => antiquaryref08_cut.l0 k cuts dims (i : Int)) (n := cuts.length) (fun i => ∀ j, j < i → cutGood cuts dims j) (fun j hj => by omega) (fun i hi hI h => ?_) (fun hI => ?_)
  · have next : cutGood cuts dims i → Ev (fun k => antiquaryref08_cut.l0 k cuts dims (wrap64 ((i : Int) + 1))) (decide (cutOk cuts dims)) := fun hg => by
      rw [wsuc i (by omega)]
      exact h (fun j hj => by
        rcases Nat.lt_or_ge j i with h4 | h4
        · exact hI j h4
        · obtain rfl : j = i := by omega
          exact hg)
    refine ev_succ ?_
    simp only [antiquaryref08_cut.l0]
    refine ev_pos (by omega) (ev_pos (by omega) ?_)
    by_cases c1 : rd cuts (i : Int) ≥ dims
    · exact ev_pos c1 (ev_some (bad i hi (fun h => by have := h.1; omega)))
    refine ev_neg c1 ?_
    by_cases c2 : (i : Int) > 0
    · obtain ⟨m, rfl⟩ : ∃ m, i = m + 1 := ⟨i - 1, by omega⟩
      rw [show wrap64 (((m + 1 : Nat) : Int) - 1) = (m : Int) by rw [Plain.w64 (by omega) (by omega)]; omega]
      refine ev_pos c2 (ev_pos (by omega) (ev_pos (by omega) ?_))
      by_cases c3 : rd cuts ((m + 1 : Nat) : Int) ≤ rd cuts (m : Int)
      · exact ev_pos c3 (ev_some (bad _ hi (fun h => by have := h.2.2 m rfl; omega)))
      · refine ev_neg c3 (next ⟨by omega, fun e => by omega, fun m' hm' => ?_⟩)
        obtain rfl : m' = m := by omega
        exact Int.not_le.1 c3
    · obtain rfl : i = 0 := by omega
      exact ev_neg c2 (next ⟨by omega, fun _ => h5, fun m' hm' => by omega⟩)
  · refine ev_succ ?_
    simp only [antiquaryref08_cut.l0]
    refine ev_neg (by omega) (ev_some ?_)
    symm
    rw [decide_eq_true_eq, cutOk_iff]
    exact ⟨⟨by omega, by omega⟩, ⟨by omega, by omega⟩, hI⟩
theorem end_is {cuts : List Int} {dims : Int} {i : Nat} (hi : i < cuts.length) (hl : cuts.length ≤ 4611686018427387904) : antiquaryref08_end.f cuts dims (i : Int) = some (cutAt cuts dims (i + 1)) := by
  unfold antiquaryref08_end.f cutAt
  rw [wsuc i (by omega)]
  by_cases h : i + 1 < cuts.length
  · rw [if_pos (by omega), if_pos (by omega), if_pos h]
  · rw [if_neg (by omega), if_neg h]
theorem check_ev (d : Int) (cuts : List Int) (words : List (List (List Int))) (hf : few cuts words) : Ev (fun k => antiquaryref08_Check.f k d cuts words) (if bookOk d cuts words then 0 else 80) := by
  have no : ¬ bookOk d cuts words → (80 : Int) = if bookOk d cuts words then 0 else 80 := fun h => (if_neg h).symm
  have nj : ¬ bookOk d cuts words → Ev (fun k => antiquaryref08_Check.j0 k true d cuts words) (if bookOk d cuts words then (0 : Int) else 80) := fun h => by
    refine ev_succ ?_
    simp only [antiquaryref08_Check.j0]
    exact ev_pos trivial (ev_some (no h))
  refine ev_bind (cut_ev cuts d (by have := hf.1.2; omega)) ?_
  by_cases h1 : cutOk cuts d
  rotate_left
  · exact ev_neg (by simpa using h1) (nj (fun h => h1 h.1))
  refine ev_pos (by simpa using h1) ?_
  by_cases h2 : words.length = cuts.length
  rotate_left
  · rw [show ((words.length : Int) != (cuts.length : Int)) = true by simp; omega]
    exact nj (fun h => h2 h.2.1)
  rw [show ((words.length : Int) != (cuts.length : Int)) = false by simp; omega]
  refine ev_succ ?_
  simp only [antiquaryref08_Check.j0]
  refine ev_neg (by simp) ?_
  have bad : ∀ i, i < cuts.length → ¬ partGood d cuts words i → (80 : Int) = if bookOk d cuts words then 0 else 80 := fun i hi h => no (fun h3 => h (((bookOk_iff _ _ _).1 h3).2 i hi))
  refine ev_count (G := fun i k => antiquaryref08_Check.l0 k (i : Int) d cuts words) (n := cuts.length) (fun i => ∀ j, j < i → partGood d cuts words j) (fun j hj => by omega) (fun i hi hI h => ?_) (fun hI => ?_)
  · refine ev_succ ?_
    simp only [antiquaryref08_Check.l0]
    rw [rd_L2_words]
    have hfw := hf.2 i (by omega)
    have hlen : (wordsAt words i).length ≤ 300 := by have := hfw.1; omega
    have hcr := cutAt_range h1 hi
    have hd := h1.1
    have hc9 := hf.1.2
    have inner : (1 ≤ (wordsAt words i).length ∧ (wordsAt words i).length ≤ 256) → Ev (fun k => antiquaryref08_Check.l1 k (i : Int) 0 d cuts words) (if bookOk d cuts words then (0 : Int) else 80) := fun hl => by
      refine ev_count (G := fun j k => antiquaryref08_Check.l1 k (i : Int) (j : Int) d cuts words) (n := (wordsAt words i).length) (fun j => ∀ j', j' < j → badW (cutAt cuts d (i + 1) - cutAt cuts d i) (rd_L1 (wordsAt words i) (j' : Int)) = false) (fun j hj => by omega) (fun j hj hJ h2 => ?_) (fun hJ => ?_)
      · have hb : badW (cutAt cuts d (i + 1) - cutAt cuts d i) (rd_L1 (wordsAt words i) (j : Int)) = true → (80 : Int) = if bookOk d cuts words then 0 else 80 := fun hb => bad i hi (fun hg => hg.2 ⟨_, rd_mem_L1 (wordsAt words i) (k := (j : Int)) (by omega) (by omega), by rw [partAt_cut hi]; exact hb⟩)
        refine ev_succ ?_
        simp only [antiquaryref08_Check.l1]
        rw [rd_L2_words]
        refine ev_pos (by omega) (ev_pos (by omega) (ev_pos (by omega) (ev_pos (by omega) ?_)))
        refine ev_bind (Ref04.valid_ev _ (by have := hfw.2 j hj; omega)) ?_
        by_cases c1 : isVec (rd_L1 (wordsAt words i) (j : Int))
        rotate_left
        · exact ev_neg (by simpa using c1) (ev_some (hb (by unfold badW; simp [c1])))
        refine ev_pos (by simpa using c1) (ev_ob (end_is hi (by have := hf.1.2; omega)) (ev_pos (by omega) ?_))
        rw [show rd cuts (i : Int) = cutAt cuts d i from (by unfold cutAt; rw [if_pos hi]), Plain.w64 (by omega) (by omega)]
        by_cases c2 : ((rd_L1 (wordsAt words i) (j : Int)).length : Int) = cutAt cuts d (i + 1) - cutAt cuts d i
        · refine ev_pos c2 ?_
          rw [wsuc j (by omega)]
          exact h2 (fun j' hj' => by
            rcases Nat.lt_or_ge j' j with h4 | h4
            · exact hJ j' h4
            · obtain rfl : j' = j := by omega
              unfold badW
              simp [c1, c2])
        · exact ev_neg c2 (ev_some (hb (by unfold badW; simp [c2])))
      · refine ev_succ ?_
        simp only [antiquaryref08_Check.l1]
        rw [rd_L2_words]
        refine ev_pos (by omega) (ev_pos (by omega) (ev_neg (by omega) ?_))
        rw [wsuc i (by omega)]
        exact h (fun j hj => by
          rcases Nat.lt_or_ge j i with h4 | h4
          · exact hI j h4
          · obtain rfl : j = i := by omega
            refine ⟨hl, ?_⟩
            rw [partAt_cut hi]
            rintro ⟨w, hw, hbw⟩
            obtain ⟨n, hn, rfl⟩ := List.mem_iff_getElem.1 hw
            have := hJ n hn
            rw [rdn_L1 _ n hn] at this
            rw [this] at hbw
            cases hbw)
    have yes : (1 ≤ (wordsAt words i).length ∧ (wordsAt words i).length ≤ 256) → Ev (fun k => antiquaryref08_Check.j2 k (i : Int) false d cuts words) (if bookOk d cuts words then (0 : Int) else 80) := fun hl => by
      refine ev_succ ?_
      simp only [antiquaryref08_Check.j2]
      exact ev_neg (by simp) (inner hl)
    have nope : ¬ (1 ≤ (wordsAt words i).length ∧ (wordsAt words i).length ≤ 256) → Ev (fun k => antiquaryref08_Check.j2 k (i : Int) true d cuts words) (if bookOk d cuts words then (0 : Int) else 80) := fun hl => by
      refine ev_succ ?_
      simp only [antiquaryref08_Check.j2]
      exact ev_pos trivial (ev_some (bad i hi (fun h4 => hl h4.1)))
    refine ev_pos (by omega) (ev_pos (by omega) (ev_pos (by omega) ?_))
    by_cases c1 : ((wordsAt words i).length : Int) < 1
    · exact ev_pos c1 (nope (by omega))
    · refine ev_neg c1 ?_
      by_cases c3 : ((wordsAt words i).length : Int) > 256
      · rw [decide_eq_true c3]; exact nope (by omega)
      · rw [decide_eq_false c3]; exact yes (by omega)
  · refine ev_succ ?_
    simp only [antiquaryref08_Check.l0]
    exact ev_neg (by omega) (ev_some (if_pos ((bookOk_iff _ _ _).2 ⟨⟨h1, h2⟩, hI⟩)).symm)
theorem metric_is (m : Int) : antiquaryref04_Metric.f m = some (decide (1 ≤ m ∧ m ≤ 3)) := by
  unfold antiquaryref04_Metric.f
  by_cases h : m ≥ 1
  · rw [if_pos h]
    congr 1
    rw [decide_eq_decide]
    omega
  · rw [if_neg h, decide_eq_false (by omega)]
/-- what the statements ask of a codebook, a metric and two vectors -/
def rightOk (d : Int) (cuts : List Int) (words : List (List (List Int))) (m : Int) (v q : List Int) : Prop := few cuts words ∧ bookOk d cuts words ∧ (1 ≤ m ∧ m ≤ 3) ∧ (isVec v ∧ isVec q) ∧ (v.length : Int) = d ∧ (q.length : Int) = d
instance (d : Int) (cuts : List Int) (words : List (List (List Int))) (m : Int) (v q : List Int) : Decidable (rightOk d cuts words m v q) := by unfold rightOk; infer_instance
theorem right_ev (d : Int) (cuts : List Int) (words : List (List (List Int))) (m : Int) (v q : List Int) (hv : v.length ≤ 9223372036854775807) (hq : q.length ≤ 9223372036854775807) :
    Ev (fun k => antiquarylaw08_right.f k d cuts words m v q) (decide (rightOk d cuts words m v q)) := by
  have no : ¬ rightOk d cuts words m v q → Ev (fun k => antiquarylaw08_right.j0 k v q true d cuts words) (decide (rightOk d cuts words m v q)) := fun h => by
    refine ev_succ ?_
    simp only [antiquarylaw08_right.j0]
    exact ev_pos trivial (ev_some (decide_eq_false h).symm)
  refine ev_bind (few_ev d cuts words) ?_
  by_cases h1 : few cuts words
  rotate_left
  · exact ev_neg (by simpa using h1) (no (fun h => h1 h.1))
  refine ev_pos (by simpa using h1) (ev_bind (check_ev d cuts words h1) ?_)
  by_cases h2 : bookOk d cuts words
  rotate_left
  · exact ev_neg (by rw [if_neg h2]; decide) (no (fun h => h2 h.2.1))
  refine ev_pos (if_pos h2) (ev_ob (metric_is m) ?_)
  by_cases h3 : 1 ≤ m ∧ m ≤ 3
  rotate_left
  · rw [decide_eq_false h3]; exact no (fun h => h3 h.2.2.1)
  rw [decide_eq_true h3]
  refine ev_succ ?_
  simp only [antiquarylaw08_right.j0]
  refine ev_neg (by simp) (ev_bind (valid_any v hv) (ev_bind (valid_any q hq) ?_))
  by_cases h4 : isVec v
  rotate_left
  · exact ev_neg (by simpa using h4) (ev_some (decide_eq_false (fun h => h4 h.2.2.2.1.1)).symm)
  refine ev_pos (by simpa using h4) ?_
  by_cases h5 : isVec q
  rotate_left
  · exact ev_neg (by simpa using h5) (ev_some (decide_eq_false (fun h => h5 h.2.2.2.1.2)).symm)
  refine ev_pos (by simpa using h5) ?_
  by_cases h6 : (v.length : Int) = d
  rotate_left
  · exact ev_neg h6 (ev_some (decide_eq_false (fun h => h6 h.2.2.2.2.1)).symm)
  refine ev_pos h6 (ev_some ?_)
  rw [Bool.eq_iff_iff, beq_iff_eq, decide_eq_true_eq]
  exact ⟨fun h => ⟨h1, h2, h3, ⟨h4, h5⟩, h6, h⟩, fun h => h.2.2.2.2.2⟩
end Go.Proofs.Ytgpdfalopdhjlaa.Ev08
end
section
set_option linter.unusedVariables false
namespace Go.Proofs.Ytgpdfalopdhjlaa.EvRead
open Go.RowKit Go.Proofs.Ytgpdfalopdhjlaa.Q Go.Proofs.YtgpdfalopdhjlaaW.PrintWords Go.Proofs.YtgpdfalopdhjlaaW.PrintMore Plain Go.Proofs.Ytgpdfalopdhjlaa.Book Go.Proofs.Ytgpdfalopdhjlaa.Ev08
theorem fin_step {P : Nat → Prop} {i : Nat} (h : ∀ j, j < i → P j) (hi : P i) : ∀ j, j < i + 1 → P j := fun j hj => by
  rcases Nat.lt_or_ge j i with h4 | h4
  · exact h j h4
  · obtain rfl : j = i := by omega
    exact hi
theorem decode_no {words : List (List (List Int))} {c : List Int} (h : ¬ isCode words c) : (([], 1) : List Int × Int) = decodeOf words c := (if_neg h).symm
theorem decode_ev {d : Int} {cuts : List Int} {words : List (List (List Int))} (c : List Int) (hf : few cuts words) (hl : c.length ≤ 20) : Ev (fun k => code_Decode.f k d cuts words c) (decodeOf words c) := by
  by_cases h1 : c.length = words.length
  rotate_left
  · exact ev_neg (by omega) (ev_some (decode_no (fun h => h1 h.1)))
  refine ev_pos (by omega) ?_
  refine ev_count (G := fun i k => code_Decode.l0 k (standUpTo words c i) c (c.length : Int) (i : Int) d cuts words) (n := c.length) (fun i => ∀ j, j < i → 0 ≤ rd c (j : Int) ∧ rd c (j : Int) < (wordsAt words j).length) (fun j hj => by omega) (fun i hi hI h => ?_) (fun hI => ?_)
  · refine ev_succ ?_
    simp only [code_Decode.l0]
    rw [rd_L2_words]
    refine ev_pos (by omega) (ev_pos (by omega) (ev_pos (by omega) ?_))
    by_cases c1 : rd c (i : Int) < 0
    · exact ev_pos c1 (ev_some (decode_no (fun h => by have := (h.2 i hi).1; omega)))
    refine ev_neg c1 (ev_pos (by omega) ?_)
    by_cases c2 : rd c (i : Int) ≥ (wordsAt words i).length
    · exact ev_pos c2 (ev_some (decode_no (fun h => by have := (h.2 i hi).2; omega)))
    have hlen : (standUpTo words c i).length + (rd_L1 (wordsAt words i) (rd c (i : Int))).length < 17592186044416 := by
      have e : c.take i = c.take i := rfl
      have h2 := (hf.2 i (by omega)).2 (rd c (i : Int)).toNat (by omega)
      rw [Int.toNat_of_nonneg (by omega)] at h2
      have h3 : ∀ n, n ≤ i → (standUpTo words c n).length ≤ 33 * n := by
        intro n
        induction n with
        | zero => intro _; simp [standUpTo]
        | succ n ih =>
          intro hn
          have h5 := ih (by omega)
          have hc := hI n (by omega)
          have h6 := (hf.2 n (by omega)).2 (rd c (n : Int)).toNat (by omega)
          rw [Int.toNat_of_nonneg hc.1] at h6
          have h7 : (wordOf words c n).length ≤ 33 := h6
          rw [standUpTo, List.length_append]
          omega
      have := h3 i (Nat.le_refl _)
      omega
    refine ev_neg c2 (ev_pos (by omega) (ev_pos (by omega) (ev_pos hlen ?_)))
    rw [wsuc i (by omega)]
    exact h (fin_step hI ⟨by omega, by omega⟩)
  · refine ev_succ ?_
    simp only [code_Decode.l0]
    exact ev_neg (by omega) (ev_some (by rw [decodeOf, if_pos ⟨h1, hI⟩]))
/-- what a vector and a codebook that is right are asked for -/
theorem read_is {d : Int} {cuts : List Int} {words : List (List (List Int))} {m : Int} {v : List Int} (hm : 1 ≤ m ∧ m ≤ 3) (hb : bookOk d cuts words) (hs : isVec v) (hv : (v.length : Int) = d) : readOk d cuts words m v := ⟨hm, hb, hs, hv⟩
end Go.Proofs.Ytgpdfalopdhjlaa.EvRead
end
section
set_option linter.unusedVariables false
namespace Go.Proofs.Ytgpdfalopdhjlaa.Sane
open Go.RowKit Go.Proofs.Ytgpdfalopdhjlaa.Q Go.Proofs.YtgpdfalopdhjlaaW.PrintWords Plain
theorem sanity_is : antiquarylaw08_sanity.f 60 = some true := by decide +kernel
theorem sanity_ev : Ev (fun k => antiquarylaw08_sanity.f k) true := ev_ofx (fun k => antiquarylaw08_sanity.mono k) ⟨60, sanity_is⟩
end Go.Proofs.Ytgpdfalopdhjlaa.Sane
end
section
set_option linter.unusedVariables false
namespace Go.Proofs.Ytgpdfalopdhjlaa.Pure
open Go.RowKit Go.Proofs.Ytgpdfalopdhjlaa.Q Go.Proofs.YtgpdfalopdhjlaaW.PrintWords Plain Go.Proofs.Ytgpdfalopdhjlaa.Book Go.Proofs.Ytgpdfalopdhjlaa.Ev08 Go.Proofs.Ytgpdfalopdhjlaa.EvRead
theorem CodeTablesAddUp (d : Int) (cuts : List Int) (words : List (List (List Int))) (m : Int) (q c : List Int) (_ : cuts.length ≤ Go.maxLen) (_ : words.length ≤ Go.maxLen) (hq : q.length ≤ Go.maxLen) (hc : c.length ≤ Go.maxLen) :
    ∃ k, antiquarylaw08_CodeTablesAddUp.f k d cuts words m q c = some true := by
  unfold Go.maxLen at hq hc
  refine ev_ex ?_
  have other : Ev (fun k => antiquarylaw08_CodeTablesAddUp.j0 k m q c true d cuts words) true := by
    refine ev_succ ?_
    simp only [antiquarylaw08_CodeTablesAddUp.j0]
    exact ev_pos trivial (ev_bind Sane.sanity_ev (ev_some rfl))
  refine ev_bind (right_ev d cuts words m q q (by omega) (by omega)) ?_
  by_cases h3 : rightOk d cuts words m q q
  rotate_left
  · exact ev_neg (by simpa using h3) other
  refine ev_pos (by simpa using h3) ?_
  by_cases h2 : (c.length : Int) > 20
  · rw [decide_eq_true h2]; exact other
  rw [decide_eq_false h2]
  obtain ⟨h1, hb, hm, ⟨hs, _⟩, hql, _⟩ := h3
  refine ev_succ ?_
  simp only [antiquarylaw08_CodeTablesAddUp.j0]
  refine ev_neg (by simp) (ev_bind (decode_ev c h1 (by omega)) ?_)
  by_cases h4 : isCode words c
  rotate_left
  · rw [decodeOf, if_neg h4]
    exact ev_neg (by decide) (ev_bind Sane.sanity_ev (ev_pos rfl (ev_some rfl)))
  rw [decodeOf, if_pos h4]
  have hst := stand_vec hb h4
  have hso := sum_ok hm hb h4 hs hql
  have e1 := sum_is m hb h4 hql
  have hl : c.length = cuts.length := by rw [h4.1, hb.2.1]
  rw [hl] at e1 ⊢
  refine ev_pos rfl (ev_bind Sane.sanity_ev (ev_pos rfl (ev_pos hst.2 ?_)))
  refine ev_ob (show code_Table.f d cuts words m q = some _ from if_pos (read_is hm hb hs hql)) (ev_ob (show code_Sum.f m _ _ = some _ from if_pos hso) (ev_bind (Ref04.key_ev m ⟨hs, hst.1, by have := hst.2; dsimp only; omega⟩) (ev_some ?_)))
  rw [hl, e1]
  simp
end Go.Proofs.Ytgpdfalopdhjlaa.Pure
end
section
set_option linter.unusedVariables false
namespace Go.Proofs.Ytgpdfalopdhjlaa.Open
open Go.RowKit Go.Proofs.Ytgpdfalopdhjlaa.Q Go.Proofs.YtgpdfalopdhjlaaW.PrintWords Go.Deep
theorem choice {α β : Type} {r : α → β → Prop} (h : ∀ x, ∃ y, r x y) : ∃ f : α → β, ∀ x, r x (f x) := ⟨fun x => Classical.choose (h x), fun x => Classical.choose_spec (h x)⟩
theorem open_rows {H : Type} {enc : TypeId × Value → H} {P : Program} {w : World} {base : Nat} {held : Bool} {t e q : TypeId} {a : Option Addr} {len cap : Nat} {d : DataW H} {ps : List MemPlace}
    (ht : P.underlying t = some (.slice e)) (he : P.underlying e = some (.slice q)) (hq : P.underlying q = some (.int .i64)) (ce : P.cellsOf e = 1) (cq : P.cellsOf q = 1) (h : DataW.Trod enc P w base (fun _ => true) held t (.slice a len cap) d ps) (ty : Nat) :
    ∃ l : List (List Int), l.length = len ∧ len ≤ cap ∧ cap ≤ maxLen ∧ Kd.C (Kd.slice ty (Kd.int .i64)) w a len l ∧ ∀ v ∈ l, v.length ≤ maxLen ∧ ∀ x ∈ v, (Lit.int .i64 x).wf = true := by
  obtain ⟨fuel, hf⟩ := h
  rcases open_int_rows ht he hq ce cq hf with ⟨hcs, _⟩ | ⟨x, len', cap', A, L, C, Z, hcs, _, hl, hm, _, hx⟩
  · simp [Value.cells] at hcs
    obtain ⟨rfl, rfl, rfl⟩ := hcs
    exact ⟨[], rfl, Nat.le_refl _, Nat.zero_le _, Kd.C_nil _ _, by simp⟩
  · simp [Value.cells] at hcs
    obtain ⟨rfl, rfl, rfl⟩ := hcs
    have hlen : ∀ r, r < cap → ((Z r).take (L r)).length = L r := fun r hr => by
      have := hx r hr
      rw [List.length_take]; omega
    refine ⟨(List.range len).map (fun r => (Z r).take (L r)), by simp, hl, hm, ⟨by simp, by have := hm; unfold maxLen at this; omega, fun _ => ⟨x, rfl, fun j p hp => ?_⟩⟩, ?_⟩
    · have hj : j < len := by
        rcases Nat.lt_or_ge j len with h | h
        · exact h
        · rw [List.getElem?_eq_none (by simp; omega)] at hp; cases hp
      rw [List.getElem?_map, List.getElem?_range hj] at hp
      cases hp
      obtain ⟨hc, hLC, hCm, hZ, hwf, hnone, hsome⟩ := hx j (by omega)
      have hL := hlen j (by omega)
      refine ⟨[.slice (A j) (L j) (C j)], rfl, ⟨A j, C j, by rw [hL], by rw [hL]; exact hLC, ?_⟩, fun i u hu => ?_⟩
      · refine ⟨rfl, by rw [hL]; unfold maxLen at hCm; omega, fun hpos => ?_⟩
        cases hA : A j with
        | none =>
          have hp2 : 0 < L j := by rw [← hL]; exact hpos
          have := hnone hA
          omega
        | some a' =>
          refine ⟨a', rfl, fun c p hp => ⟨[.int .i64 p], rfl, ?_, fun i u hu => ?_⟩⟩
          · exact rfl
          · have hc2 : c < L j := by
              have h6 : c < (List.take (L j) (Z j)).length := (List.getElem?_eq_some_iff.1 hp).1
              omega
            match i, hu with
            | 0, hu =>
              cases hu
              have h3 := (hsome a' hA).2 c (by omega)
              have h4 : (Z j).getD c 0 = p := by
                rw [List.getElem?_take, if_pos hc2] at hp
                rw [List.getD_eq_getElem?_getD, hp]; rfl
              rw [h4] at h3
              show w.cell? (a'.add (c * 1 + 0)) = _
              rw [Nat.mul_one]
              exact h3
            | i + 1, hu => simp at hu
      · match i, hu with
        | 0, hu => cases hu; simpa [Kd.slice] using hc
        | i + 1, hu => simp at hu
    · intro v hv
      obtain ⟨r, hr, rfl⟩ := List.mem_map.1 hv
      have hr := List.mem_range.1 hr
      obtain ⟨_, hLC, hCm, hZ, hwf, _⟩ := hx r (by omega)
      exact ⟨by rw [hlen r (by omega)]; omega, fun y hy => hwf y (List.mem_of_mem_take hy)⟩
theorem rows_of {H : Type} {enc : TypeId × Value → H} {P : Program} {w : World} {base fuel : Nat} {held : Bool} {t e q : TypeId} {v : Value} {x : DataW H × List MemPlace}
    (ht : P.underlying t = some (.slice e)) (he : P.underlying e = some (.slice q)) (hq : P.underlying q = some (.int .i64)) (ce : P.cellsOf e = 1) (cq : P.cellsOf q = 1) (h : DataW.trod enc P w base (fun _ => true) held fuel t [v] = some x) (ty : Nat) :
    ∃ (A : Option Addr) (c : Nat) (l : List (List Int)), v = .slice A l.length c ∧ l.length ≤ c ∧ c ≤ maxLen ∧ Kd.C (Kd.slice ty (Kd.int .i64)) w A l.length l ∧ ∀ v ∈ l, v.length ≤ maxLen ∧ ∀ x ∈ v, (Lit.int .i64 x).wf = true := by
  have hv : ∃ A n c, v = .slice A n c := by
    rcases open_slice1 ht ce h with ⟨hcs, _⟩ | ⟨a, len, cap, _, _, _, _, _, hcs, _⟩
    · exact ⟨_, _, _, by simpa using hcs⟩
    · exact ⟨_, _, _, by simpa using hcs⟩
  obtain ⟨A, n, c, rfl⟩ := hv
  obtain ⟨l, hl, h1, h2, h3, h4⟩ := open_rows (d := x.1) (ps := x.2) ht he hq ce cq ⟨fuel, by simpa [Value.cells] using h⟩ ty
  subst hl
  exact ⟨A, c, l, rfl, h1, h2, h3, h4⟩
theorem ints_of {H : Type} {enc : TypeId × Value → H} {P : Program} {w : World} {base fuel : Nat} {held : Bool} {t e : TypeId} {v : Value} {x : DataW H × List MemPlace}
    (ht : P.underlying t = some (.slice e)) (he : P.underlying e = some (.int .i64)) (ce : P.cellsOf e = 1) (h : DataW.trod enc P w base (fun _ => true) held fuel t [v] = some x) :
    ∃ (A : Option Addr) (c : Nat) (l : List Int), v = .slice A l.length c ∧ l.length ≤ c ∧ c ≤ maxLen ∧ Kd.C (Kd.int .i64) w A l.length l ∧ ∀ x ∈ l, (Lit.int .i64 x).wf = true := by
  rcases Go.ChangeShapes.open_ints ht he ce h with ⟨hcs, _⟩ | ⟨a, len, cap, zs, hcs, _, hl, hm, hz, _, hcell, hwz⟩
  · obtain rfl : v = .slice none 0 0 := by simpa using hcs
    exact ⟨none, 0, [], rfl, Nat.le_refl _, Nat.zero_le _, Kd.C_nil _ _, by simp⟩
  · obtain rfl : v = .slice (some a) len cap := by simpa using hcs
    simp only [if_true] at hz
    have hL : (zs.take len).length = len := by rw [List.length_take]; omega
    refine ⟨some a, cap, zs.take len, by rw [hL], by rw [hL]; exact hl, hm, ?_, fun x hx => hwz x (List.mem_of_mem_take hx)⟩
    refine ⟨rfl, by rw [hL]; unfold maxLen at hm; omega, fun _ => ⟨a, rfl, fun c p hp => ⟨[.int .i64 p], rfl, rfl, fun i u hu => ?_⟩⟩⟩
    have hc2 : c < len := by
      have h6 : c < (zs.take len).length := (List.getElem?_eq_some_iff.1 hp).1
      omega
    match i, hu with
    | 0, hu =>
      cases hu
      have h3 := hcell c (by omega)
      have h4 : zs.getD c 0 = p := by
        rw [List.getElem?_take, if_pos hc2] at hp
        rw [List.getD_eq_getElem?_getD, hp]; rfl
      rw [h4] at h3
      show w.cell? (a.add (c * 1 + 0)) = _
      rw [Nat.mul_one]
      exact h3
    | i + 1, hu => simp at hu
theorem rows3_of {H : Type} {enc : TypeId × Value → H} {P : Program} {w : World} {base fuel : Nat} {held : Bool} {t e q r : TypeId} {v : Value} {x : DataW H × List MemPlace}
    (ht : P.underlying t = some (.slice e)) (he : P.underlying e = some (.slice q)) (hq : P.underlying q = some (.slice r)) (hr : P.underlying r = some (.int .i64)) (ce : P.cellsOf e = 1) (cq : P.cellsOf q = 1) (cr : P.cellsOf r = 1)
    (h : DataW.trod enc P w base (fun _ => true) held fuel t [v] = some x) (ty ty2 : Nat) :
    ∃ (A : Option Addr) (c : Nat) (l : List (List (List Int))), v = .slice A l.length c ∧ l.length ≤ c ∧ c ≤ maxLen ∧ Kd.C (Kd.slice ty2 (Kd.slice ty (Kd.int .i64))) w A l.length l ∧ ∀ ws ∈ l, ws.length ≤ maxLen ∧ ∀ v ∈ ws, v.length ≤ maxLen ∧ ∀ x ∈ v, (Lit.int .i64 x).wf = true := by
  rcases open_slice1 ht ce h with ⟨hcs, _⟩ | ⟨a, len, cap, m, n, V, D, Pl, hcs, _, hl, hm, hmm, _, hx⟩
  · obtain rfl : v = .slice none 0 0 := by simpa using hcs
    exact ⟨none, 0, [], rfl, Nat.le_refl _, Nat.zero_le _, Kd.C_nil _ _, by simp⟩
  · obtain rfl : v = .slice (some a) len cap := by simpa using hcs
    simp only [if_true] at hmm
    have each : ∀ i, ∃ y : Option Addr × Nat × List (List Int), i < len → V i = .slice y.1 y.2.2.length y.2.1 ∧ y.2.2.length ≤ y.2.1 ∧ y.2.1 ≤ maxLen ∧ Kd.C (Kd.slice ty (Kd.int .i64)) w y.1 y.2.2.length y.2.2 ∧ ∀ v ∈ y.2.2, v.length ≤ maxLen ∧ ∀ x ∈ v, (Lit.int .i64 x).wf = true := fun i => by
      by_cases hi : i < len
      · obtain ⟨A, c, l, h1⟩ := rows_of he hq hr cq cr (hx i (by omega)).2 ty
        exact ⟨(A, c, l), fun _ => h1⟩
      · exact ⟨(none, 0, []), fun h => absurd h hi⟩
    obtain ⟨f, hf⟩ := choice each
    refine ⟨some a, cap, (List.range len).map (fun i => (f i).2.2), by simp, by simpa using hl, hm, ?_, ?_⟩
    · refine ⟨by simp, by simp; unfold maxLen at hm; omega, fun _ => ⟨a, rfl, fun j p hp => ?_⟩⟩
      have hj : j < len := by
        rcases Nat.lt_or_ge j len with h | h
        · exact h
        · rw [List.getElem?_eq_none (by simp; omega)] at hp; cases hp
      rw [List.getElem?_map, List.getElem?_range hj] at hp
      cases hp
      obtain ⟨e1, e2, e3, e4, _⟩ := hf j hj
      have hc := (hx j (by omega)).1
      rw [e1] at hc
      refine ⟨[.slice (f j).1 (f j).2.2.length (f j).2.1], rfl, ⟨(f j).1, (f j).2.1, rfl, e2, e4⟩, fun i u hu => ?_⟩
      match i, hu with
      | 0, hu => cases hu; simpa [Kd.slice] using hc
      | i + 1, hu => simp at hu
    · intro ws hws
      obtain ⟨i, hi, rfl⟩ := List.mem_map.1 hws
      obtain ⟨_, e2, e3, _, e5⟩ := hf i (List.mem_range.1 hi)
      exact ⟨Nat.le_trans e2 e3, e5⟩
theorem open_book {H : Type} {enc : TypeId × Value → H} {P : Program} {w : World} {base b0 : Nat} {rc : Reach} {held : Bool} {t e1 e2 e3 e4 : TypeId} {f0 f1 f2 : Field} {v : Value} {d : DataW H} {ps : List MemPlace}
    (hs : P.underlying t = some (.struct #[f0, f1, f2])) (hone : oneCellFields P #[f0, f1, f2] = true) (hC : P.cellsOf t = 3) (u0 : P.underlying f0.type = some (.int .i64)) (u1 : P.underlying f1.type = some (.slice e1)) (v1 : P.underlying e1 = some (.int .i64)) (c1 : P.cellsOf e1 = 1)
    (u2 : P.underlying f2.type = some (.slice e2)) (v2 : P.underlying e2 = some (.slice e3)) (v3 : P.underlying e3 = some (.slice e4)) (v4 : P.underlying e4 = some (.int .i64)) (c2 : P.cellsOf e2 = 1) (c3 : P.cellsOf e3 = 1) (c4 : P.cellsOf e4 = 1)
    (hv : Value.okWide P w rc b0 t v) (h : DataW.Trod enc P w base (fun _ => true) held t v d ps) (ty ty2 : Nat) :
    ∃ (n : Int) (A1 : Option Addr) (k1 : Nat) (l1 : List Int) (A2 : Option Addr) (k2 : Nat) (l2 : List (List (List Int))), v = .agg #[.int .i64 n, .slice A1 l1.length k1, .slice A2 l2.length k2] ∧ (Lit.int .i64 n).wf = true ∧
      (l1.length ≤ k1 ∧ k1 ≤ maxLen ∧ Kd.C (Kd.int .i64) w A1 l1.length l1 ∧ ∀ x ∈ l1, (Lit.int .i64 x).wf = true) ∧
      (l2.length ≤ k2 ∧ k2 ≤ maxLen ∧ Kd.C (Kd.slice ty2 (Kd.slice ty (Kd.int .i64))) w A2 l2.length l2 ∧ ∀ ws ∈ l2, ws.length ≤ maxLen ∧ ∀ v ∈ ws, v.length ≤ maxLen ∧ ∀ x ∈ v, (Lit.int .i64 x).wf = true) := by
  obtain ⟨w0, w1, w2, y0, y1, y2, n, rfl, _, _, t0, t1, t2⟩ := Go.Joins.open_agg3 hs hone hC hv h
  obtain ⟨m, hm, _, hw⟩ := DataW.trod_int u0 t0
  obtain rfl : w0 = .int .i64 m := by simpa using hm
  obtain ⟨A1, k1, l1, rfl, h1⟩ := ints_of u1 v1 c1 t1
  obtain ⟨A2, k2, l2, rfl, h2⟩ := rows3_of u2 v2 v3 v4 c2 c3 c4 t2 ty ty2
  exact ⟨m, A1, k1, l1, A2, k2, l2, rfl, hw, h1, h2⟩
end Go.Proofs.Ytgpdfalopdhjlaa.Open
end
