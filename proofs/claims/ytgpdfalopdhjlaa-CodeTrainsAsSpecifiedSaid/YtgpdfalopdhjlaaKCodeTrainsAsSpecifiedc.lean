/- A part of the proof of CodeTrainsAsSpecified: what the row's text reaches (packed by a program of this claim out of its texts). -/
import Derived.Test.YtgpdfalopdhjlaaKCodeTrainsAsSpecifiedb
section
namespace Go.Proofs.Ytgpdfalopdhjlaa.Q
open Go.RowKit Go.Proofs.YtgpdfalopdhjlaaW.PrintWords Go.Proofs.YtgpdfalopdhjlaaW.PrintLast Go.Proofs.YtgpdfalopdhjlaaW.PrintMore
attribute [local go_sem] max2_int min2_int max_two min_two max_three min_three max_four min_four   -- for this text's walks alone
set_option linter.unusedVariables false
set_option linter.unusedSimpArgs false
def r8_SameRows.l0 : Nat → List (List Int) → List (List Int) → Int → Option (Bool)
 | 0, _, _, _ => none
 | k + 1, x0, x1, x5 => if x5 < (x0.length : Int) then (if 0 ≤ x5 then (if x5 < (x1.length : Int) then ((r4_Same.f k (rd_L1 x0 x5) (rd_L1 x1 x5)).bind fun t149 => (if t149 = true then (r8_SameRows.l0 k x0 x1 (wrap64 (x5 + 1))) else (some false))) else (none)) else (none)) else (some true)
def r8_SameRows.f (k : Nat) (l0 : List (List Int)) (l1 : List (List Int)) : Option (Bool) := if (l0.length : Int) = (l1.length : Int) then (r8_SameRows.l0 k l0 l1 0) else (some false)
theorem r8_SameRows.mono_l : ∀ k, (∀ y0 y1 y2, LeO (r8_SameRows.l0 k y0 y1 y2) (r8_SameRows.l0 (k + 1) y0 y1 y2))
 | 0 => fun _ _ _ r h => by simp [r8_SameRows.l0] at h
 | k + 1 => by
  have ih0 := r8_SameRows.mono_l k
  ·intro y0 y1 y2
   unfold r8_SameRows.l0
   repeat' first
   | (with_reducible exact ih0 _ _ _)
   | (with_reducible exact r4_Same.mono _ _ _)
   | (with_reducible exact LeO.refl _)
   | (with_reducible exact LeO.none _)
   | (with_reducible refine LeO.ite ?_ ?_)
   | (with_reducible refine LeO.bind ?_ (fun _ => ?_))
   | exact ih0 _ _ _
   | exact r4_Same.mono _ _ _
   | exact LeO.none _
   | refine LeO.ite ?_ ?_
   | refine LeO.bind ?_ (fun _ => ?_)
theorem r8_SameRows.mono : ∀ a0 a1 k, LeO (r8_SameRows.f k a0 a1) (r8_SameRows.f (k + 1) a0 a1) := by
 intro a0 a1 k
 have ih0 := r8_SameRows.mono_l k
 unfold r8_SameRows.f
 repeat' first
   | (with_reducible exact ih0 _ _ _)
   | (with_reducible exact r4_Same.mono _ _ _)
   | (with_reducible exact LeO.refl _)
   | (with_reducible exact LeO.none _)
   | (with_reducible refine LeO.ite ?_ ?_)
   | (with_reducible refine LeO.bind ?_ (fun _ => ?_))
   | exact ih0 _ _ _
   | exact r4_Same.mono _ _ _
   | exact LeO.none _
   | refine LeO.ite ?_ ?_
   | refine LeO.bind ?_ (fun _ => ?_)
set_option maxHeartbeats 8000000 in
set_option maxRecDepth 100000 in
theorem r8_SameRows.calls (k : Nat) (A0 : Option Addr) (c0 : Nat) (l0 : List (List Int)) (A1 : Option Addr) (c1 : Nat) (l1 : List (List Int)) (r : Bool) (w : World) (hr0 : Kd.C (Kd.slice 3 (Kd.int .i64)) w A0 l0.length l0) (hc0 : l0.length ≤ c0) (hr1 : Kd.C (Kd.slice 3 (Kd.int .i64)) w A1 l1.length l1) (hc1 : l1.length ≤ c1) (h : r8_SameRows.f k l0 l1 = some r) :
  Calls Try.prog 25 #[.slice A0 l0.length c0, .slice A1 l1.length c1] w fun e w' => e = .returned (.bool r) ∧ Drawn0 w w' := by
 have HR0 := Aside0.mk hr0
 have HC0 := Aside0.mk hc0
 clear hr0 hc0
 have HR1 := Aside0.mk hr1
 have HC1 := Aside0.mk hc1
 clear hr1 hc1
 have H : (if (l0.length : Int) = (l1.length : Int) then (r8_SameRows.l0 k l0 l1 0) else (some false)) = some r := h
 clear h
 by_cases c3 : (l0.length : Int) = (l1.length : Int)
 ·rw [if_pos c3] at H
  have c3b0 : ((l0.length : Int) == (l1.length : Int)) = true := beq_iff_eq.mpr c3
  have c3b1 : ((l0.length : Int) != (l1.length : Int)) = false := bne_eq_false_iff_eq.mpr c3
  have c3b2 : (l0.length == l1.length) = true := by first | simpa using c3 | (simp at c3 ⊢; omega)
  clear c3
  have H' := Aside0.mk H
  clear H
  go_enter Try.func25, Try.ntmps25
  go_wp2
  repeat (go_quiet (fail); try go_wp2)
  go_loopg [5] k (fun kq v5 w' => ∃ (x5_1 : Int), v5 = .int .i64 x5_1 ∧ Aside0 (r8_SameRows.l0 kq l0 l1 x5_1 = some r) ∧ Aside0 (kq ≤ k) ∧ Drawn0 w w')
  case atStart => exact ⟨(0), (by first | rfl | (simp; done) | (simp [*]; done)), H', ⟨Nat.le_refl _⟩, by repeat (first | exact Drawn0.refl _ | apply Drawn0.step)⟩
  case round =>
   clear H'
   try clear c1
   try clear c2
   try clear p2
   try clear c3
   try clear c3b0
   try clear c3b1
   try clear c3b2
   obtain ⟨x5_1, rfl, HA, HK1, ⟨m1, rfl⟩⟩ := hrel
   cases gk with
   | zero => exact absurd HA.out (by simp [r8_SameRows.l0])
   | succ k1 =>
    have H := HA.out
    clear HA
    simp only [r8_SameRows.l0] at H
    by_cases c4 : x5_1 < (l0.length : Int)
    ·rw [if_pos c4] at H
     have c4b0 : decide (x5_1 < (l0.length : Int)) = true := decide_eq_true c4
     clear c4
     by_cases c5 : 0 ≤ x5_1
     ·rw [if_pos c5] at H
      have c5b0 : decide (0 ≤ x5_1) = true := decide_eq_true c5
      clear c5
      by_cases c6 : x5_1 < (l1.length : Int)
      ·rw [if_pos c6] at H
       have c6b0 : decide (x5_1 < (l1.length : Int)) = true := decide_eq_true c6
       clear c6
       replace H := Option.bind_eq_some_iff.mp H
       obtain ⟨t149, A70, H⟩ := H
       replace H : (if t149 = true then (r8_SameRows.l0 k1 l0 l1 (wrap64 (x5_1 + 1))) else (some false)) = some r := H
       have A7 := Aside0.mk A70
       clear A70
       by_cases c8 : t149 = true
       ·subst c8
        have H1 : (r8_SameRows.l0 k1 l0 l1 (wrap64 (x5_1 + 1))) = some r := by rw [if_pos rfl] at H; exact H
        clear H
        have H := H1
        clear H1
        have H' := Aside0.mk H
        clear H
        have p147 : 0 ≤ (x5_1 : Int) := of_decide_eq_true (by first | (with_reducible assumption) | assumption)
        have q147 : x5_1 < (l0.length : Int) := of_decide_eq_true (by first | (with_reducible assumption) | assumption)
        obtain ⟨ad147, A147_0, c147_0, e147, hx147_0, hl147_0, hi147_0⟩ := at_L1 HR0.out x5_1 p147 q147
        cases e147
        have HR147_0 := Aside0.mk hi147_0
        have HC147_0 := Aside0.mk hl147_0
        clear hi147_0 hl147_0
        replace p147 := eq_true p147
        replace q147 := eq_true q147
        have p148 : 0 ≤ (x5_1 : Int) := of_decide_eq_true (by first | (with_reducible assumption) | assumption)
        have q148 : x5_1 < (l1.length : Int) := of_decide_eq_true (by first | (with_reducible assumption) | assumption)
        obtain ⟨ad148, A148_0, c148_0, e148, hx148_0, hl148_0, hi148_0⟩ := at_L1 HR1.out x5_1 p148 q148
        cases e148
        have HR148_0 := Aside0.mk hi148_0
        have HC148_0 := Aside0.mk hl148_0
        clear hi148_0 hl148_0
        replace p148 := eq_true p148
        replace q148 := eq_true q148
        go_wp2_with (first | (go_at_call 17; (with_reducible refine (r4_Same.calls k1 _ _ (rd_L1 l0 x5_1) _ _ (rd_L1 l1 x5_1) true _ ?side1 ?side2 ?side3 ?side4 A7.out).mono ?_); (case side1 => repeat (first | exact HR147_0.out | (with_reducible refine Kd.C_alloc ?_ _) | (with_reducible refine Kd.C_drewN ?_ _) | (with_reducible refine Kd.C_drew ?_))); (case side2 => exact HC147_0.out); (case side3 => repeat (first | exact HR148_0.out | (with_reducible refine Kd.C_alloc ?_ _) | (with_reducible refine Kd.C_drewN ?_ _) | (with_reducible refine Kd.C_drew ?_))); (case side4 => exact HC148_0.out); rintro e w' ⟨rfl, ⟨nd, rfl⟩⟩; (try first | exact ⟨rfl, _, World.drewN_drewN _ _ _⟩ | exact ⟨rfl, _, Eq.trans (World.drewN_drewN _ _ _) (congrArg (World.drewN _) (Nat.add_assoc _ _ _))⟩)))
        repeat (go_quiet (first | (go_at_call 17; (with_reducible refine (r4_Same.calls k1 _ _ (rd_L1 l0 x5_1) _ _ (rd_L1 l1 x5_1) true _ ?side1 ?side2 ?side3 ?side4 A7.out).mono ?_); (case side1 => repeat (first | exact HR147_0.out | (with_reducible refine Kd.C_alloc ?_ _) | (with_reducible refine Kd.C_drewN ?_ _) | (with_reducible refine Kd.C_drew ?_))); (case side2 => exact HC147_0.out); (case side3 => repeat (first | exact HR148_0.out | (with_reducible refine Kd.C_alloc ?_ _) | (with_reducible refine Kd.C_drewN ?_ _) | (with_reducible refine Kd.C_drew ?_))); (case side4 => exact HC148_0.out); rintro e w' ⟨rfl, ⟨nd, rfl⟩⟩; (try first | exact ⟨rfl, _, World.drewN_drewN _ _ _⟩ | exact ⟨rfl, _, Eq.trans (World.drewN_drewN _ _ _) (congrArg (World.drewN _) (Nat.add_assoc _ _ _))⟩))); try go_wp2_with (first | (go_at_call 17; (with_reducible refine (r4_Same.calls k1 _ _ (rd_L1 l0 x5_1) _ _ (rd_L1 l1 x5_1) true _ ?side1 ?side2 ?side3 ?side4 A7.out).mono ?_); (case side1 => repeat (first | exact HR147_0.out | (with_reducible refine Kd.C_alloc ?_ _) | (with_reducible refine Kd.C_drewN ?_ _) | (with_reducible refine Kd.C_drew ?_))); (case side2 => exact HC147_0.out); (case side3 => repeat (first | exact HR148_0.out | (with_reducible refine Kd.C_alloc ?_ _) | (with_reducible refine Kd.C_drewN ?_ _) | (with_reducible refine Kd.C_drew ?_))); (case side4 => exact HC148_0.out); rintro e w' ⟨rfl, ⟨nd, rfl⟩⟩; (try first | exact ⟨rfl, _, World.drewN_drewN _ _ _⟩ | exact ⟨rfl, _, Eq.trans (World.drewN_drewN _ _ _) (congrArg (World.drewN _) (Nat.add_assoc _ _ _))⟩))))
        go_roundg k1
        case measure => have := HK1.out; omega
        case rel => exact ⟨(wrap64 (x5_1 + 1)), (by first | rfl | (simp; done) | (simp [*]; done)), H', ⟨by have := HK1.out; omega⟩, by repeat (first | exact Drawn0.refl _ | apply Drawn0.step)⟩
       ·replace c8 := Bool.eq_false_iff.mpr c8
        subst c8
        have H1 : (some false) = some r := by rw [if_neg (show ¬ (false = true) by decide)] at H; exact H
        clear H
        have H := H1
        clear H1
        obtain rfl := Option.some.inj H
        have p147 : 0 ≤ (x5_1 : Int) := of_decide_eq_true (by first | (with_reducible assumption) | assumption)
        have q147 : x5_1 < (l0.length : Int) := of_decide_eq_true (by first | (with_reducible assumption) | assumption)
        obtain ⟨ad147, A147_0, c147_0, e147, hx147_0, hl147_0, hi147_0⟩ := at_L1 HR0.out x5_1 p147 q147
        cases e147
        have HR147_0 := Aside0.mk hi147_0
        have HC147_0 := Aside0.mk hl147_0
        clear hi147_0 hl147_0
        replace p147 := eq_true p147
        replace q147 := eq_true q147
        have p148 : 0 ≤ (x5_1 : Int) := of_decide_eq_true (by first | (with_reducible assumption) | assumption)
        have q148 : x5_1 < (l1.length : Int) := of_decide_eq_true (by first | (with_reducible assumption) | assumption)
        obtain ⟨ad148, A148_0, c148_0, e148, hx148_0, hl148_0, hi148_0⟩ := at_L1 HR1.out x5_1 p148 q148
        cases e148
        have HR148_0 := Aside0.mk hi148_0
        have HC148_0 := Aside0.mk hl148_0
        clear hi148_0 hl148_0
        replace p148 := eq_true p148
        replace q148 := eq_true q148
        go_wp2_with (first | (go_at_call 17; (with_reducible refine (r4_Same.calls k1 _ _ (rd_L1 l0 x5_1) _ _ (rd_L1 l1 x5_1) false _ ?side1 ?side2 ?side3 ?side4 A7.out).mono ?_); (case side1 => repeat (first | exact HR147_0.out | (with_reducible refine Kd.C_alloc ?_ _) | (with_reducible refine Kd.C_drewN ?_ _) | (with_reducible refine Kd.C_drew ?_))); (case side2 => exact HC147_0.out); (case side3 => repeat (first | exact HR148_0.out | (with_reducible refine Kd.C_alloc ?_ _) | (with_reducible refine Kd.C_drewN ?_ _) | (with_reducible refine Kd.C_drew ?_))); (case side4 => exact HC148_0.out); rintro e w' ⟨rfl, ⟨nd, rfl⟩⟩; (try first | exact ⟨rfl, _, World.drewN_drewN _ _ _⟩ | exact ⟨rfl, _, Eq.trans (World.drewN_drewN _ _ _) (congrArg (World.drewN _) (Nat.add_assoc _ _ _))⟩)))
        repeat (go_quiet (first | (go_at_call 17; (with_reducible refine (r4_Same.calls k1 _ _ (rd_L1 l0 x5_1) _ _ (rd_L1 l1 x5_1) false _ ?side1 ?side2 ?side3 ?side4 A7.out).mono ?_); (case side1 => repeat (first | exact HR147_0.out | (with_reducible refine Kd.C_alloc ?_ _) | (with_reducible refine Kd.C_drewN ?_ _) | (with_reducible refine Kd.C_drew ?_))); (case side2 => exact HC147_0.out); (case side3 => repeat (first | exact HR148_0.out | (with_reducible refine Kd.C_alloc ?_ _) | (with_reducible refine Kd.C_drewN ?_ _) | (with_reducible refine Kd.C_drew ?_))); (case side4 => exact HC148_0.out); rintro e w' ⟨rfl, ⟨nd, rfl⟩⟩; (try first | exact ⟨rfl, _, World.drewN_drewN _ _ _⟩ | exact ⟨rfl, _, Eq.trans (World.drewN_drewN _ _ _) (congrArg (World.drewN _) (Nat.add_assoc _ _ _))⟩))); try go_wp2_with (first | (go_at_call 17; (with_reducible refine (r4_Same.calls k1 _ _ (rd_L1 l0 x5_1) _ _ (rd_L1 l1 x5_1) false _ ?side1 ?side2 ?side3 ?side4 A7.out).mono ?_); (case side1 => repeat (first | exact HR147_0.out | (with_reducible refine Kd.C_alloc ?_ _) | (with_reducible refine Kd.C_drewN ?_ _) | (with_reducible refine Kd.C_drew ?_))); (case side2 => exact HC147_0.out); (case side3 => repeat (first | exact HR148_0.out | (with_reducible refine Kd.C_alloc ?_ _) | (with_reducible refine Kd.C_drewN ?_ _) | (with_reducible refine Kd.C_drew ?_))); (case side4 => exact HC148_0.out); rintro e w' ⟨rfl, ⟨nd, rfl⟩⟩; (try first | exact ⟨rfl, _, World.drewN_drewN _ _ _⟩ | exact ⟨rfl, _, Eq.trans (World.drewN_drewN _ _ _) (congrArg (World.drewN _) (Nat.add_assoc _ _ _))⟩))))
        go_ret
        exact ⟨by first | rfl | (simp; done) | (simp [*]; done), by repeat (first | exact Drawn0.refl _ | apply Drawn0.step)⟩
      ·rw [if_neg c6] at H
       exact absurd H (by simp)
     ·rw [if_neg c5] at H
      exact absurd H (by simp)
    ·rw [if_neg c4] at H
     have c4b0 : decide (x5_1 < (l0.length : Int)) = false := decide_eq_false c4
     clear c4
     obtain rfl := Option.some.inj H
     go_wp2
     repeat (go_quiet (fail); try go_wp2)
     go_ret
     exact ⟨by first | rfl | (simp; done) | (simp [*]; done), by repeat (first | exact Drawn0.refl _ | apply Drawn0.step)⟩
 ·rw [if_neg c3] at H
  have c3b0 : ((l0.length : Int) == (l1.length : Int)) = false := beq_eq_false_iff_ne.mpr c3
  have c3b1 : ((l0.length : Int) != (l1.length : Int)) = true := bne_iff_ne.mpr c3
  have c3b2 : (l0.length == l1.length) = false := by first | simpa using c3 | (simp at c3 ⊢; omega)
  obtain rfl := Option.some.inj H
  go_enter Try.func25, Try.ntmps25
  go_wp2
  repeat (go_quiet (fail); try go_wp2)
  go_ret
  exact ⟨by first | rfl | (simp; done) | (simp [*]; done), by repeat (first | exact Drawn0.refl _ | apply Drawn0.step)⟩
section
attribute [local go_sem] Oper.semAt_some
/-- the keys of the words of part i and the part of a query -/
def tableRow (dims : Int) (cuts : List Int) (words : List (List (List Int))) (m : Int) (v : List Int) (i : Nat) : List Int := (wordsAt words i).map (fun x => Plain.key m x (partOf v (partAt cuts dims i)))
def tableOf (dims : Int) (cuts : List Int) (words : List (List (List Int))) (m : Int) (v : List Int) (l : List (Fin cuts.length)) : List (List Int) := l.map (fun i => tableRow dims cuts words m v i.val)
theorem own_boxS {α β : Type} (d : Kd α) (e T M g : Nat) (f : β → List α) : OwnFrom M (fun s W => ∃ vo, W.heap[g]? = some (.cells #[vo] T (0, 0)) ∧ d.S e W M (fun k => k ≠ g) vo (f s)) := by
 rintro s X Y row ⟨vo, h1, h2⟩ hg hr
 have hne : ∀ k cells t, X.heap[k]? = some (.cells cells t (0, 0)) → some k ≠ row := fun k cells t h e => by
  obtain ⟨_, o, ho, hc⟩ := hr k e.symm
  rw [h] at ho
  cases ho
  cases hc
 exact ⟨vo, (hg.block g (blk_lt h1) (hne _ _ _ h1)).trans h1, Kd.S_mono (Kd.S_grown (Kd.S_bound h2) hg (fun k hk => by
  obtain ⟨_, _, _, q, _, cells, hc⟩ := hk
  exact hne k _ _ hc)) (fun _ hk => hk.1)⟩
def code_Table.f (a0_0 : Int) (l0_1 : List Int) (l0_2 : List (List (List Int))) (a1 : Int) (l2 : List Int) : Option (List (List Int)) := if readOk a0_0 l0_1 l0_2 a1 l2 then some (tableOf a0_0 l0_1 l0_2 a1 l2 (List.finRange l0_1.length)) else none
def code_Table.T8 : Bool × List (List Nat × List Nat) := (true, [([], []), ([], []), ([], []), ([], []), ([], []), ([3, 4], [3, 4]), ([1, 2, 5, 5], [1, 2, 5]), ([6], [6]), ([0, 7, 6], [0, 7]), ([8, 8, 0, 1, 2, 3, 4, 5, 6, 7, 8], [0, 8])])
def code_Table.B8 : List Nat := [0, 0, 0, 0, 0, 24, 62, 126, 255, 511]
theorem code_Table.tab8 : rtab .any (opsOf Try.f26 8) = code_Table.T8 := by kernel_rfl
theorem code_Table.bits8 : waitsOk code_Table.T8.2 code_Table.B8 = true := by kernel_rfl
set_option maxHeartbeats 8000000 in
set_option maxRecDepth 100000 in
theorem code_Table.calls (a0_0 : Int) (A0_1 : Option Addr) (c0_1 : Nat) (l0_1 : List Int) (A0_2 : Option Addr) (c0_2 : Nat) (l0_2 : List (List (List Int))) (a1 : Int) (A2 : Option Addr) (c2 : Nat) (l2 : List Int) (r : List (List Int)) (w : World) (hr0_1 : Kd.C (Kd.int .i64) w A0_1 l0_1.length l0_1) (hc0_1 : l0_1.length ≤ c0_1) (hr0_2 : Kd.C (Kd.slice 22 (Kd.slice 3 (Kd.int .i64))) w A0_2 l0_2.length l0_2) (hc0_2 : l0_2.length ≤ c0_2) (hr2 : Kd.C (Kd.int .i64) w A2 l2.length l2) (hc2 : l2.length ≤ c2) (h : code_Table.f a0_0 l0_1 l0_2 a1 l2 = some r) :
  Calls Try.prog 26 #[.agg #[.int .i64 a0_0, .slice A0_1 l0_1.length c0_1, .slice A0_2 l0_2.length c0_2], .int .i64 a1, .slice A2 l2.length c2] w fun e w' => ∃ v0_ : Value, e = .returned (v0_) ∧ Kd.S (Kd.slice 3 (Kd.int .i64)) 22 w' w.heap.size (fun _ => True) v0_ r ∧ Below w.heap.size w w' := by
 have hok : readOk a0_0 l0_1 l0_2 a1 l2 := by
  unfold code_Table.f at h
  split at h
  ·assumption
  ·cases h
 obtain rfl : tableOf a0_0 l0_1 l0_2 a1 l2 (List.finRange l0_1.length) = r := by
  unfold code_Table.f at h
  rw [if_pos hok] at h
  exact Option.some.inj h
 clear h
 refine (callsIn_wide (n := 6)).1 ?_
 refine callsIn_of_wp_marks Try.func26 rfl trivial ?_ rfl
 simp only [Try.ntmps26, List.size_toArray, List.length_cons, List.length_nil, Nat.reduceAdd, Nat.reduceSub, Array.replicate_succ, Array.replicate_zero, List.push_toArray, List.append_toArray, List.nil_append, List.cons_append]
 gi_wp2_with (refine ⟨trivial, ?_⟩; gi_at_call 39; refine (callsIn_wide.2 (code_parts.called _ _ _ _ _)).mono ?_; rintro e w' ⟨rfl, rfl⟩)
 have ha := blk_allocs [.cells #[.int .i64 a0_0, .slice A0_1 l0_1.length c0_1, .slice A0_2 l0_2.length c0_2] 25, .cells #[.int .i64 a1] 3, .cells #[.slice A2 l2.length c2] 22, .cells #[.slice none 0 0] 39, .cells #[.slice A0_1 l0_1.length c0_1] 22, .cells #[.int .i64 a0_0] 3] w
 simp only [List.foldl_cons, List.foldl_nil] at ha
 have b0 := (ha 0 (by simp)).1
 have b1 := (ha 1 (by simp)).1
 have b2 := (ha 2 (by simp)).1
 have b3 := (ha 3 (by simp)).1
 have b4 := (ha 4 (by simp)).1
 have b5 := (ha 5 (by simp)).1
 obtain ⟨_, hsz, hbw⟩ := ha 0 (by simp)
 clear ha
 simp only [List.length_cons, List.length_nil, Nat.reduceAdd, List.getElem_cons_zero, List.getElem_cons_succ, Nat.add_zero] at b0 b1 b2 b3 b4 b5 hsz
 obtain ⟨W0, hW0⟩ : ∃ W0, ((((((w.alloc (.cells #[.int .i64 a0_0, .slice A0_1 l0_1.length c0_1, .slice A0_2 l0_2.length c0_2] 25)).alloc (.cells #[.int .i64 a1] 3)).alloc (.cells #[.slice A2 l2.length c2] 22)).alloc (.cells #[.slice none 0 0] 39)).alloc (.cells #[.slice A0_1 l0_1.length c0_1] 22)).alloc (.cells #[.int .i64 a0_0] 3)) = W0 := ⟨_, rfl⟩
 rw [hW0] at b0 b1 b2 b3 b4 b5 hsz hbw ⊢
 clear hW0
 simp only [Nat.add_assoc, Nat.reduceAdd]
 have hcl : l0_1.length ≤ 8 := hok.2.1.1.2.1.2
 obtain ⟨bb, hbb⟩ : ∃ bb, bb = w.heap.size := ⟨_, rfl⟩
 obtain ⟨bm, hbm⟩ : ∃ bm, bm = w.heap.size + 1 := ⟨_, rfl⟩
 obtain ⟨bv, hbv⟩ : ∃ bv, bv = w.heap.size + 2 := ⟨_, rfl⟩
 obtain ⟨g, hg⟩ : ∃ g, g = w.heap.size + 3 := ⟨_, rfl⟩
 obtain ⟨bc, hbc⟩ : ∃ bc, bc = w.heap.size + 4 := ⟨_, rfl⟩
 obtain ⟨bd, hbd⟩ : ∃ bd, bd = w.heap.size + 5 := ⟨_, rfl⟩
 rw [← hbm] at b1 ⊢
 rw [← hbv] at b2 ⊢
 rw [← hg] at b3 ⊢
 rw [← hbc] at b4 ⊢
 rw [← hbd] at b5 ⊢
 rw [← hbb] at b0 ⊢
 refine code_parts.loop 6 (by decide) g bc bd A0_1 c0_1 l0_1 a0_0 rfl rfl (by omega) (by omega) (by omega) ((blk_cell b4 0).trans rfl) ((blk_cell b5 0).trans rfl)
  (Kd.F_mono (Kd.F_below (Kd.C_F (Kd.heap_int _) hr0_1) hbw) (fun k hk => ⟨by omega, by omega⟩))
  (fun pre W => ∃ vo, W.heap[g]? = some (.cells #[vo] 39 (0, 0)) ∧ (Kd.slice 3 (Kd.int .i64)).S 22 W W0.heap.size (fun k => k ≠ g) vo (tableOf a0_0 l0_1 l0_2 a1 l2 pre)) (fun _ _ => False)
  (own_boxS _ _ _ _ _ _) (fun _ _ _ _ hs _ _ => hs) ⟨_, b3, Kd.S_nil _ _ _ _ _⟩
  (fun x Bx => { tmps := #[Value.agg #[Value.int IntKind.i64 a0_0, Value.slice A0_1 l0_1.length c0_1, Value.slice A0_2 l0_2.length c0_2],
     Value.int IntKind.i64 a1, Value.slice A2 l2.length c2, Value.pointer (some { block := bb, off := 0 }), Value.pointer (some { block := bm, off := 0 }),
     Value.pointer (some { block := bv, off := 0 }), Value.slice none 0 0, Value.pointer (some { block := g, off := 0 }), Value.pointer (some { block := Bx, off := 0 }), undef, undef, undef,
     Value.pointer (some { block := bb, off := 1 }), Value.slice A0_1 l0_1.length c0_1, Value.pointer (some { block := bb, off := 0 }), Value.int IntKind.i64 a0_0,
     Value.func (Fn.func 63) #[] #[Value.pointer (some { block := bc, off := 0 }), Value.pointer (some { block := bd, off := 0 })],
     partV x, undef, undef, undef, undef, undef, undef, undef, undef, undef, undef, undef, undef, undef, undef, undef, undef, undef, undef, undef, undef, undef, undef, undef, undef, undef, undef], defers := [] }) ?assign ?body ?done ?stop
 case assign =>
  rintro l ⟨x0, x1, x2⟩ W K hK
  clear hbb hbm hbv hg hbc hbd
  have hz67 := Try.zeroValue67
  gi_wp2
  rfl
 case stop => exact fun _ _ _ _ _ h => h.elim
 case done =>
  rintro D W hD ⟨vo, hgv, hR⟩ hK h0 hk
  have hB0 := below_of hbw hK h0 (by omega) (by omega)
  have hW0 : w.heap.size ≤ W0.heap.size := by omega
  have hs0 := hB0.size
  have hs1 := hK.size
  clear hbb hbm hbv hg hbc hbd
  have hgc : W.cell? ⟨g, 0, none⟩ = some vo := (blk_cell hgv 0).trans rfl
  gi_wp2
  refine ⟨by simp, .inl ⟨_, _, rfl, run_takeDeferred hk, ?_⟩⟩
  exact ⟨_, results_tmp rfl _ _ _, vo, rfl, Kd.S_mono (Kd.S_lower (Kd.S_grown (Kd.S_bound hR) (grownBy_putObj' W D (.deferred none)) (fun k hq e => by
   obtain ⟨_, _, _, q, _, cells, hc⟩ := hq
   cases e
   rw [hk] at hc
   cases hc)) hW0) (fun _ _ => trivial), hB0.grown (grownBy_putObj' W D (.deferred none)) (by omega) (fun k e => by cases e; omega)⟩
 case body =>
  rintro l pre i hi Bx W hlt hBx hX ⟨vo, hgv, hR⟩ hK h0
  have hB0 := below_of hbw hK h0 (by omega) (by omega)
  have HBW := Aside0.mk hB0
  have hWs : W0.heap.size ≤ W.heap.size := hK.size
  obtain ⟨x1, x2, hpt⟩ : ∃ x1 x2, partAt l0_1 a0_0 i = ((i : Int), x1, x2) := ⟨_, _, rfl⟩
  have hpo := code_part_of.is hok.2.1.1 hi hok.2.2.2
  have hkey : ∀ j, j < (wordsAt l0_2 i).length → ∃ k, vector_Key.f k a1 (rd_L1 (wordsAt l0_2 i) (j : Int)) (partOf l2 (partAt l0_1 a0_0 i)) = some (Plain.key a1 (rd_L1 (wordsAt l0_2 i) (j : Int)) (partOf l2 (partAt l0_1 a0_0 i))) := fun j hj => by
   have hm : rd_L1 (wordsAt l0_2 i) (j : Int) ∈ wordsAt l0_2 i := by unfold rd_L1; rw [Int.toNat_natCast, List.getD_eq_getElem?_getD, List.getElem?_eq_getElem hj]; exact List.getElem_mem hj
   obtain ⟨k, hk⟩ := vector_Key.ev hok.1 (book_alike hok.2.1 hi hok.2.2.2 hok.2.2.1 _ hm)
   exact ⟨k, hk k (Nat.le_refl _)⟩
  have hrow : ∀ j, j < (wordsAt l0_2 i).length → (tableRow a0_0 l0_1 l0_2 a1 l2 i).take (j + 1) = (tableRow a0_0 l0_1 l0_2 a1 l2 i).take j ++ [Plain.key a1 (rd_L1 (wordsAt l0_2 i) (j : Int)) (partOf l2 (partAt l0_1 a0_0 i))] := fun j hj => by
   rw [List.take_succ_eq_append_getElem (by unfold tableRow; rw [List.length_map]; exact hj)]
   unfold tableRow
   rw [List.getElem_map]
   unfold rd_L1
   rw [Int.toNat_natCast, List.getD_eq_getElem?_getD, List.getElem?_eq_getElem hj]
   rfl
  have hrl : (tableRow a0_0 l0_1 l0_2 a1 l2 i).length = (wordsAt l0_2 i).length := by unfold tableRow; rw [List.length_map]
  have hwn := (hok.2.1.2.2 i hi).1.2
  rw [hpt] at hX hpo hkey hrow ⊢
  dsimp only at hX hpo
  have hwl : l0_2.length = l0_1.length := hok.2.1.2.1
  obtain ⟨ad, A3, c3, e3, hx3, hl3, hr3⟩ := at_L2 hr0_2 (i : Int) (by omega) (by omega)
  cases e3
  rw [Int.toNat_natCast] at hx3
  change w.cell? (ad.add i) = some (.slice A3 (wordsAt l0_2 i).length c3) at hx3
  change (wordsAt l0_2 i).length ≤ c3 at hl3
  change (Kd.slice 3 (Kd.int .i64)).C w A3 (wordsAt l0_2 i).length (wordsAt l0_2 i) at hr3
  have hcw := pw_cell_below hB0 hx3
  have hcm : W.cell? ⟨bm, 0, none⟩ = some (.int .i64 a1) := (blk_cell ((hK.block bm (by omega) (by omega)).trans b1) 0).trans rfl
  have hcb : W.cell? ⟨bb, 2, none⟩ = some (.slice (some ad) l0_2.length c0_2) := (blk_cell ((hK.block bb (by omega) (by omega)).trans b0) 2).trans rfl
  have hcv : W.cell? ⟨bv, 0, none⟩ = some (.slice A2 l2.length c2) := (blk_cell ((hK.block bv (by omega) (by omega)).trans b2) 0).trans rfl
  have hp0 : W.cell? ⟨Bx, 0, none⟩ = some (.int .i64 (i : Int)) := (blk_cell hX 0).trans rfl
  have hp1 : W.cell? ⟨Bx, 1, none⟩ = some (.int .i64 x1) := (blk_cell hX 1).trans rfl
  have hp2 : W.cell? ⟨Bx, 2, none⟩ = some (.int .i64 x2) := (blk_cell hX 2).trans rfl
  have q0 : (0 : Int) ≤ (i : Int) := by omega
  have q1 : (i : Int) < (l0_2.length : Int) := by omega
  have hWM : W0.heap.size ≤ W.heap.size := hK.size
  have hgM : g < W.heap.size := by omega
  have hW0 : w.heap.size ≤ W0.heap.size := by omega
  clear hbb hbm hbv hg hbc hbd hsz hwl
  have HKEY := Aside0.mk hkey
  have HROW := Aside0.mk hrow
  have HRL := Aside0.mk hrl
  clear hkey hrow hrl hX hK h0 b0 b1 b2 b3 b4 b5
  obtain ⟨wn, hwn2⟩ : ∃ wn, wn = (wordsAt l0_2 i).length := ⟨_, rfl⟩
  have HWN := Aside0.mk hwn2
  rw [← hwn2] at hwn hcw hl3 hr3
  clear hwn2
  gi_wp2
  gi_loopw [9, 25] (fun v9 v25 wr => ∃ j : Nat, j ≤ wn ∧ v25 = .int .i64 j ∧ Aside0 (Kd.R (Kd.int .i64) 3 wr W.heap.size (fun _ => True) v9 ((tableRow a0_0 l0_1 l0_2 a1 l2 i).take j)) ∧ Aside0 (Below W.heap.size W wr)) (fun _ v _ => wn - (intOf v).toNat)
  case atStart => exact ⟨0, Nat.zero_le _, rfl, ⟨Kd.R_nil _ _ _ _ _⟩, ⟨Below.refl _ _⟩⟩
  case round =>
   obtain ⟨j, hj, rfl, HRJ, HBJ⟩ := hrel
   by_cases hlt2 : j < wn
   ·have q2 : (0 : Int) ≤ (j : Int) := by omega
    have q3 : (j : Int) < (wn : Int) := by omega
    obtain ⟨ad5, A6, c6, e5, hx6, hl6, hr6⟩ := at_L1 hr3 (j : Int) q2 q3
    cases e5
    rw [Int.toNat_natCast] at hx6
    have hcx := pw_cell_below HBJ.out (pw_cell_below HBW.out hx6)
    obtain ⟨kk, hkk⟩ := HKEY.out j (by have := HWN.out; omega)
    have hrow2 := HROW.out j (by have := HWN.out; omega)
    have hln : ((tableRow a0_0 l0_1 l0_2 a1 l2 i).take j).length ≤ 256 := by rw [List.length_take]; omega
    generalize Plain.key a1 (rd_L1 (wordsAt l0_2 i) (j : Int)) (partOf l2 ((i : Int), x1, x2)) = y at hkk hrow2
    gi_wp2
    refine Plain.start_in (n := 10) (S := fun w' => w'.cell? ⟨bm, 0, none⟩ = some (.int .i64 a1) ∧ w'.cell? ⟨Bx, 0, none⟩ = some (.int .i64 (i : Int)) ∧ w'.cell? ⟨Bx, 1, none⟩ = some (.int .i64 x1) ∧ w'.cell? ⟨Bx, 2, none⟩ = some (.int .i64 x2) ∧ w'.cell? ⟨bv, 0, none⟩ = some (.slice A2 l2.length c2)) (ds := []) #[false, false, false, false, false, false, false, false, false, false] (by kernel_rfl) rfl rfl (by rfl) (fun _ _ h => h) ⟨(pw_cell_below HBJ.out hcm), (pw_cell_below HBJ.out hp0), (pw_cell_below HBJ.out hp1), (pw_cell_below HBJ.out hp2), (pw_cell_below HBJ.out hcv)⟩ (fun hHeld => ?_)
    refine with_tabW code_Table.tab8 code_Table.bits8 (fun HT_ HW_ => ?_)
    refine pure_ (i := 0) (N := some 29) (v := ?_) (a' := ?_) #[true, false, false, false, false, false, false, false, false, false] rfl rfl (any_of HT_.out (by kernel_rfl)) (fun _ _ _ h => h) (Or.inl ⟨by rfl, ?_⟩) ?_ ?_
    rotate_left
    ·intro w'
     go_simp
     with_reducible rfl
    rotate_left
    ·simp only [Act.put, List.setIfInBounds_toArray, List.set_cons_zero, List.set_cons_succ, i64_w, i32_w]
     rfl
    refine pure_ (i := 2) (N := some 31) (v := ?_) (a' := ?_) #[true, false, true, false, false, false, false, false, false, false] rfl rfl (any_of HT_.out (by kernel_rfl)) (fun _ _ _ h => h) (Or.inl ⟨by rfl, ?_⟩) ?_ ?_
    rotate_left
    ·intro w'
     go_simp
     with_reducible rfl
    rotate_left
    ·simp only [Act.put, List.setIfInBounds_toArray, List.set_cons_zero, List.set_cons_succ, i64_w, i32_w]
     rfl
    refine take_ (i := 1) (N := some 30) (v := ?_) (a' := ?_) #[true, true, true, false, false, false, false, false, false, false] rfl rfl (take_ofW HT_.out HW_.out (by kernel_rfl)) (fun _ _ _ h => h) (Or.inl ⟨by rfl, ?_⟩) hHeld ?_ ?_
    rotate_left
    ·rintro w' ⟨s0, s1, s2, s3, s4⟩
     go_simp
     with_reducible rfl
    rotate_left
    ·simp only [Act.put, List.setIfInBounds_toArray, List.set_cons_zero, List.set_cons_succ, i64_w, i32_w]
     rfl
    refine take_ (i := 3) (N := some 32) (v := ?_) (a' := ?_) #[true, true, true, true, false, false, false, false, false, false] rfl rfl (take_ofW HT_.out HW_.out (by kernel_rfl)) (fun _ _ _ h => h) (Or.inl ⟨by rfl, ?_⟩) hHeld ?_ ?_
    rotate_left
    ·rintro w' ⟨s0, s1, s2, s3, s4⟩
     go_simp
     with_reducible rfl
    rotate_left
    ·simp only [Act.put, List.setIfInBounds_toArray, List.set_cons_zero, List.set_cons_succ, i64_w, i32_w]
     rfl
    refine take_ (i := 4) (N := some 33) (v := ?_) (a' := ?_) #[true, true, true, true, true, false, false, false, false, false] rfl rfl (take_ofW HT_.out HW_.out (by kernel_rfl)) (fun _ _ _ h => h) (Or.inl ⟨by rfl, ?_⟩) hHeld ?_ ?_
    rotate_left
    ·rintro w' ⟨s0, s1, s2, s3, s4⟩
     go_simp
     with_reducible rfl
    rotate_left
    ·simp only [Act.put, List.setIfInBounds_toArray, List.set_cons_zero, List.set_cons_succ, i64_w, i32_w]
     rfl
    refine one_ (i := 5) (N := some 34) #[true, true, true, true, true, true, false, false, false, false] rfl rfl (one_of HT_.out (by kernel_rfl)) (by decide) (fun K hK => ?_)
    refine goes_ Try.func48 (by kernel_rfl) rfl #[.agg #[.int .i64 (i : Int), .int .i64 x1, .int .i64 x2], .slice A2 l2.length c2] (by rfl) rfl rfl (by simp only [List.map_toArray, List.map_cons, List.map_nil]; rfl) ?_
    with_reducible refine (code_part_of.calls _ _ _ (fun k => True) _ _ _ _ _ (Kd.V_mk hc2 (Kd.F_mono (Kd.C_F (Kd.heap_int _) (Kd.C_below (Kd.C_below hr2 HBW.out) (below_drew1 HBJ.out))) (fun _ _ => trivial))) hpo).mono ?_
    rintro e w3 ⟨v3, rfl, hv, hb⟩
    refine ⟨_, rfl, ?_⟩
    obtain ⟨A4, c4, rfl⟩ := Kd.V_slice hv
    obtain ⟨_, hl4, hr4⟩ := Kd.V_reads' hv
    have hB3 := below_step (below_drew1 HBJ.out) hb
    have HX3 := Kd.R_below (Kd.R_drew HRJ.out) hb
    refine hK.out _ _ ⟨(pw_cell_below hb hHeld.1), (pw_cell_below hb hHeld.2.1), (pw_cell_below hb hHeld.2.2.1), (pw_cell_below hb hHeld.2.2.2.1), (pw_cell_below hb hHeld.2.2.2.2)⟩ (fun hHeld => ?_)
    clear hK K
    refine norm_ (a' := ?_) ?_ ?_
    rotate_left
    ·show Act.put _ (some 34) _ = _
     simp only [Act.put, List.setIfInBounds_toArray, List.set_cons_zero, List.set_cons_succ, i64_w, i32_w]
     rfl
    refine one_ (i := 6) (N := some 35) #[true, true, true, true, true, true, true, false, false, false] rfl rfl (one_of HT_.out (by kernel_rfl)) (by decide) (fun K hK => ?_)
    refine goes_ Try.func55 (by kernel_rfl) rfl #[.int .i64 a1, .slice A6 (rd_L1 (wordsAt l0_2 i) (j : Int)).length c6, .slice A4 (partOf l2 ((i : Int), x1, x2)).length c4] (by rfl) rfl rfl (by simp only [List.map_toArray, List.map_cons, List.map_nil]; rfl) ?_
    with_reducible refine (vector_Key.calls _ _ _ _ _ _ _ _ _ _ (Kd.C_below (Kd.C_below hr6 HBW.out) hB3) hl6 hr4 hl4 hkk).mono ?_
    rintro e w5 ⟨rfl, hb2⟩
    refine ⟨_, rfl, ?_⟩
    have hB5 := below_step hB3 hb2
    have HX5 := Kd.R_below HX3 hb2
    clear HX3 hB3 hv hl4 hr4
    refine hK.out _ _ ⟨(pw_cell_below hb2 hHeld.1), (pw_cell_below hb2 hHeld.2.1), (pw_cell_below hb2 hHeld.2.2.1), (pw_cell_below hb2 hHeld.2.2.2.1), (pw_cell_below hb2 hHeld.2.2.2.2)⟩ (fun hHeld => ?_)
    clear hK K
    refine norm_ (a' := ?_) ?_ ?_
    rotate_left
    ·show Act.put _ (some 35) _ = _
     simp only [Act.put, List.setIfInBounds_toArray, List.set_cons_zero, List.set_cons_succ, i64_w, i32_w]
     rfl
    refine one_ (i := 7) (N := some 36) #[true, true, true, true, true, true, true, true, false, false] rfl rfl (one_of HT_.out (by kernel_rfl)) (by decide) (fun K hK => ?_)
    refine value_ (w1 := ?_) (v := ?_) (by rfl) rfl ?_ ?_
    rotate_left 2
    ·go_simp
     constructor
     ·rfl
     ·rfl
    refine hK.out _ _ ⟨(pw_cell_below (below_alloc (Below.refl _ _) _) hHeld.1), (pw_cell_below (below_alloc (Below.refl _ _) _) hHeld.2.1), (pw_cell_below (below_alloc (Below.refl _ _) _) hHeld.2.2.1), (pw_cell_below (below_alloc (Below.refl _ _) _) hHeld.2.2.2.1), (pw_cell_below (below_alloc (Below.refl _ _) _) hHeld.2.2.2.2)⟩ (fun hHeld => ?_)
    clear hK K
    refine norm_ (a' := ?_) ?_ ?_
    rotate_left
    ·show Act.put _ (some 36) _ = _
     simp only [Act.put, List.setIfInBounds_toArray, List.set_cons_zero, List.set_cons_succ, i64_w, i32_w]
     rfl
    refine one_ (i := 8) (N := some 37) #[true, true, true, true, true, true, true, true, true, false] rfl rfl (one_of HT_.out (by kernel_rfl)) (by decide) (fun K hK => ?_)
    refine Kd.R_append_step (Kd.int .i64) (w0 := W) W.heap.size (by rfl) (.tmp 29) (.tmp 36) 22 3 (.int .i64 0) 8 rfl Try.underlying22 info3 rfl (by decide) (by omega) u9 ((tableRow a0_0 l0_1 l0_2 a1 l2 i).take j) y [.int .i64 y] (fun _ => True) (fun _ => False) rfl rfl rfl (fun _ hk => hk.elim) (fun _ _ => trivial) HX5 hB5 (below_size hB5) (by omega) ?_
    intro v1 w8 ho hb8 hg8 hat
    refine hK.out _ _ ⟨(pw_cell_below hb8 hcm), (pw_cell_below hb8 hp0), (pw_cell_below hb8 hp1), (pw_cell_below hb8 hp2), (pw_cell_below hb8 hcv)⟩ (fun hHeld => ?_)
    clear hK K
    refine norm_ (a' := ?_) ?_ ?_
    rotate_left
    ·show Act.put _ (some 37) _ = _
     simp only [Act.put, List.setIfInBounds_toArray, List.set_cons_zero, List.set_cons_succ, i64_w, i32_w]
     rfl
    refine pure_ (i := 9) (N := some 9) (v := ?_) (a' := ?_) #[true, true, true, true, true, true, true, true, true, true] rfl rfl (any_of HT_.out (by kernel_rfl)) (fun _ _ _ h => h) (Or.inl ⟨by rfl, ?_⟩) ?_ ?_
    rotate_left
    ·intro w'
     go_simp
     with_reducible rfl
    rotate_left
    ·simp only [Act.put, List.setIfInBounds_toArray, List.set_cons_zero, List.set_cons_succ, i64_w, i32_w]
     rfl
    refine done_ (done_of HT_.out (by kernel_rfl)) ?_
    gi_wp2
    go_roundw
    case rel => exact ⟨j + 1, by omega, by go_num, ⟨by rw [hrow2]; exact ho⟩, ⟨hb8⟩⟩
    case measure => simp [intOf]; omega
   ·have hg5 := (HBJ.out.block g hgM).trans hgv
    have hgc : wr.cell? ⟨g, 0, none⟩ = some vo := (blk_cell hg5 0).trans rfl
    have HR5 := Aside0.mk (Kd.S_below hR HBJ.out)
    have hM5 : W0.heap.size ≤ wr.heap.size := Nat.le_trans hWM HBJ.out.size
    have hg5l := blk_lt hg5
    have hln : (tableOf a0_0 l0_1 l0_2 a1 l2 pre).length ≤ 8 := by rw [tableOf, List.length_map]; omega
    have HG5 := Aside0.mk hg5
    clear hg5 hgv
    obtain rfl : j = wn := by omega
    have hRow := HRJ.out
    rw [List.take_of_length_le (by rw [HRL.out, ← HWN.out]; exact Nat.le_refl _)] at hRow
    obtain ⟨A9, c9, rfl⟩ := Kd.R_slice hRow
    have HROW2 := Aside0.mk hRow
    clear hRow
    gi_wp2_with (gi_at_builtin; refine Plain.list_in (fun _ _ h => h) _ (by rfl) _ _ ?_)
    refine Kd.S_append (Kd.slice 3 (Kd.int .i64)) (w0 := wr) W0.heap.size rfl (.tmp 39) (.tmp 41) 39 22 (.slice none 0 0) 24 rfl Try.underlying39 info22 rfl (by decide) (by omega) vo (tableOf a0_0 l0_1 l0_2 a1 l2 pre) (tableRow a0_0 l0_1 l0_2 a1 l2 i) [.slice A9 (tableRow a0_0 l0_1 l0_2 a1 l2 i).length c9] (fun k => k ≠ g) (fun k => W.heap.size ≤ k) rfl rfl ⟨_, rfl, ?aR⟩ ?aF (fun k hk => by omega) ?aO (Below.refl _ _) hM5 (by omega) ?_
    case aR => exact Kd.R_mono (Kd.R_lower (Kd.R_bound HROW2.out) hWM) (fun k hk => hk.2.1)
    case aF => exact fun k hk => ⟨by omega, fun e => by have := Kd.S_lt hR k e.symm; omega⟩
    case aO => exact Kd.S_mono (Kd.S_old hR HBJ.out) (fun k hk => ⟨hk.1, by omega⟩)
    intro v1 w6 ho hb hg6 hat
    obtain ⟨A7, c7, rfl⟩ := Kd.S_slice ho
    have hb6 := (hg6.block g (blk_lt HG5.out) (fun e => Kd.S_away HR5.out (fun k hk => hk) e)).trans HG5.out
    have hgc6 : w6.cell? ⟨g, 0, none⟩ = some vo := (blk_cell hb6 0).trans rfl
    have hgf6 := blk_frozen hb6 0
    have HB6 := Aside0.mk hb6
    have HG6 := Aside0.mk hg6
    have HO6 := Aside0.mk ho
    clear hb6 hg6 ho hb hat
    go_wp2
    have hen2 : tableOf a0_0 l0_1 l0_2 a1 l2 (pre ++ [⟨i, hi⟩]) = tableOf a0_0 l0_1 l0_2 a1 l2 pre ++ [tableRow a0_0 l0_1 l0_2 a1 l2 i] := by rw [tableOf, List.map_append, List.map_singleton]; rfl
    exact ⟨(Kr.below hWM HBJ.out).trans ((Kr.grown HG6.out (fun k e => by
      obtain ⟨cells, hc⟩ := Kd.S_typed HR5.out k e
      exact ⟨Kd.S_base HR5.out k e, cells, _, hc⟩) hM5).trans (Kr.set ⟨g, 0, none⟩ (.inl rfl) _)), _, blk_set HB6.out 0 _, by
      rw [hen2]
      have h7 := HO6.out
      simp only [List.length_append, List.length_cons, List.length_nil, Nat.zero_add] at h7
      exact Kd.S_far (p := ⟨g, 0, none⟩) h7 (fun _ hk => hk) _⟩
end
def sumAt (table : List (List Int)) (code : List Int) (i : Nat) : Int := rd (rd_L1 table (i : Int)) (rd code (i : Int))
def sumUpTo (m : Int) (table : List (List Int)) (code : List Int) : Nat → Int
 | 0 => 0
 | n + 1 => Plain.join m (sumUpTo m table code n) (sumAt table code n)
def sumOk (m : Int) (table : List (List Int)) (code : List Int) : Prop := (1 ≤ m ∧ m ≤ 3) ∧ (code.length ≤ table.length ∧ code.length ≤ 64) ∧ ∀ i, i < code.length → (0 ≤ rd code (i : Int) ∧ rd code (i : Int) < (rd_L1 table (i : Int)).length) ∧ (0 ≤ sumAt table code i ∧ sumAt table code i ≤ 268435456)
instance (m : Int) (table : List (List Int)) (code : List Int) : Decidable (sumOk m table code) := by unfold sumOk; infer_instance
theorem sum_bound {m : Int} {table : List (List Int)} {code : List Int} (h : sumOk m table code) : ∀ n, n ≤ code.length → 0 ≤ sumUpTo m table code n ∧ sumUpTo m table code n ≤ 268435456 * (n : Int)
 | 0, _ => ⟨Int.le_refl _, Int.le_refl _⟩
 | n + 1, hn => by
  have h1 := sum_bound h n (by omega)
  have h2 := (h.2.2 n (by omega)).2
  have h3 := Plain.join_nonneg m h1.1 h2.1
  have h4 := Plain.join_le_add m h1.1 h2.1
  refine ⟨h3, ?_⟩
  show Plain.join m _ _ ≤ _
  omega
def code_Sum.f (a0 : Int) (l1 : List (List Int)) (l2 : List Int) : Option Int := if sumOk a0 l1 l2 then some (sumUpTo a0 l1 l2 l2.length) else none
set_option maxHeartbeats 8000000 in
set_option maxRecDepth 100000 in
theorem code_Sum.calls (a0 : Int) (A1 : Option Addr) (c1 : Nat) (l1 : List (List Int)) (A2 : Option Addr) (c2 : Nat) (l2 : List Int) (r : Int) (w : World) (hr1 : Kd.C (Kd.slice 3 (Kd.int .i64)) w A1 l1.length l1) (hc1 : l1.length ≤ c1) (hr2 : Kd.C (Kd.int .i64) w A2 l2.length l2) (hc2 : l2.length ≤ c2) (h : code_Sum.f a0 l1 l2 = some r) :
  Calls Try.prog 27 #[.int .i64 a0, .slice A1 l1.length c1, .slice A2 l2.length c2] w fun e w' => e = .returned (.int .i64 r) ∧ Below w.heap.size w w' := by
 have hok : sumOk a0 l1 l2 := by
  unfold code_Sum.f at h
  split at h
  ·assumption
  ·cases h
 obtain rfl : sumUpTo a0 l1 l2 l2.length = r := by
  unfold code_Sum.f at h
  rw [if_pos hok] at h
  exact Option.some.inj h
 clear h
 have HOK := Aside0.mk hok
 have HR1 := Aside0.mk hr1
 have HR2 := Aside0.mk hr2
 have hl20 : l2.length ≤ 64 := hok.2.1.2
 have HL := Aside0.mk hok.2.1.1
 have hlook := code_joins.look hok.1 (blk_new w (.map joinEs 3))
 clear hok hr1 hr2 hc1 hc2
 go_enter Try.func27, Try.ntmps27
 go_wp2_with fail
 refine (code_joins.calls _).mono ?_
 rintro e w1 ⟨rfl, rfl⟩
 go_wp2
 clear hlook
 go_loopw [8, 16] (fun v i wr => ∃ k : Nat, k ≤ l2.length ∧ i = .int .i64 k ∧ v = .int .i64 (sumUpTo a0 l1 l2 k) ∧ Aside0 (Below w.heap.size w wr)) (fun _ i _ => l2.length - (intOf i).toNat)
 case atStart => exact ⟨0, Nat.zero_le _, rfl, rfl, ⟨below_alloc (Below.refl _ _) _⟩⟩
 case round =>
  obtain ⟨k, hk, rfl, rfl, HB⟩ := hrel
  by_cases hlt : k < l2.length
  ·have q1 : (k : Int) < (l2.length : Int) := by omega
   have q0 : (0 : Int) ≤ (k : Int) := by omega
   have HL2 := HL.out
   have q2 : (k : Int) < (l1.length : Int) := by omega
   clear HL2
   obtain ⟨⟨q3, q4⟩, hs0, hs1⟩ := HOK.out.2.2 k hlt
   obtain ⟨ad, e1, hx⟩ := Kd.at_int (Kd.C_below HR2.out HB.out) (k : Int) q0 q1
   obtain ⟨ad2, A3, c3, e2, hx2, hl3, hr3⟩ := at_L1 (Kd.C_below HR1.out HB.out) (k : Int) q0 q2
   obtain ⟨ad3, e3, hx3⟩ := Kd.at_int hr3 (rd l2 (k : Int)) q3 q4
   cases e1
   cases e2
   cases e3
   have hsb := sum_bound HOK.out k hk
   have HC := Aside0.mk (fun W => code_join.calls HOK.out.1 (sumUpTo a0 l1 l2 k) (sumAt l1 l2 k) W ⟨hsb.1, by omega⟩ ⟨hs0, by omega⟩)
   rw [Int.toNat_natCast] at hx hx2
   have hx4 : wr.cell? (ad3.add (rd l2 (k : Int)).toNat) = some (.int .i64 (sumAt l1 l2 k)) := hx3
   obtain ⟨n, hn⟩ : ∃ n : Nat, rd l2 (k : Int) = n := ⟨(rd l2 (k : Int)).toNat, by omega⟩
   have hj : Aside0 (Plain.join a0 (sumUpTo a0 l1 l2 k) (sumAt l1 l2 k) = sumUpTo a0 l1 l2 (k + 1)) := ⟨rfl⟩
   generalize sumAt l1 l2 k = s at *
   generalize sumUpTo a0 l1 l2 k = t at *
   rw [hn] at hx hx4 q4
   rw [Int.toNat_natCast] at hx4
   generalize (rd_L1 l1 (k : Int)).length = l3 at *
   have q5 : (0 : Int) ≤ (n : Int) := by omega
   clear hx3 hn q3 hs0 hs1 hsb hr3
   rcases joinFn_or a0 with hf | hf
   all_goals
    rw [hf] at HC ⊢
    clear hf
    go_wp2_with fail
    refine (HC.out _).mono ?_
    rintro e w3 ⟨rfl, hd⟩
    go_wp2
    go_roundw
    case rel => exact ⟨k + 1, by omega, by go_num, by rw [hj.out], ⟨below_step HB.out hd.below⟩⟩
    case measure => simp [intOf]; omega
  ·go_wp2
   go_ret
   obtain rfl : k = l2.length := by omega
   exact ⟨rfl, HB.out⟩
def vector_Alike.f (l0 : List Int) (l1 : List Int) : Option (Bool) := if (l0.length : Int) = (l1.length : Int) then ((vector_Valid.f l0).bind fun t150 => (if t150 = true then ((vector_Valid.f l1).bind fun t151 => (some t151)) else (some false))) else (some false)
set_option maxHeartbeats 8000000 in
set_option maxRecDepth 100000 in
theorem vector_Alike.calls (A0 : Option Addr) (c0 : Nat) (l0 : List Int) (A1 : Option Addr) (c1 : Nat) (l1 : List Int) (r : Bool) (w : World) (hr0 : Kd.C (Kd.int .i64) w A0 l0.length l0) (hc0 : l0.length ≤ c0) (hr1 : Kd.C (Kd.int .i64) w A1 l1.length l1) (hc1 : l1.length ≤ c1) (h : vector_Alike.f l0 l1 = some r) :
  Calls Try.prog 74 #[.slice A0 l0.length c0, .slice A1 l1.length c1] w fun e w' => e = .returned (.bool r) ∧ Drawn0 w w' := by
 have HR0 := Aside0.mk hr0
 have HC0 := Aside0.mk hc0
 clear hr0 hc0
 have HR1 := Aside0.mk hr1
 have HC1 := Aside0.mk hc1
 clear hr1 hc1
 have H : (if (l0.length : Int) = (l1.length : Int) then ((vector_Valid.f l0).bind fun t150 => (if t150 = true then ((vector_Valid.f l1).bind fun t151 => (some t151)) else (some false))) else (some false)) = some r := h
 clear h
 by_cases c3 : (l0.length : Int) = (l1.length : Int)
 ·rw [if_pos c3] at H
  have c3b0 : ((l0.length : Int) == (l1.length : Int)) = true := beq_iff_eq.mpr c3
  have c3b1 : ((l0.length : Int) != (l1.length : Int)) = false := bne_eq_false_iff_eq.mpr c3
  have c3b2 : (l0.length == l1.length) = true := by first | simpa using c3 | (simp at c3 ⊢; omega)
  clear c3
  replace H := Option.bind_eq_some_iff.mp H
  obtain ⟨t150, A40, H⟩ := H
  replace H : (if t150 = true then ((vector_Valid.f l1).bind fun t151 => (some t151)) else (some false)) = some r := H
  have A4 := Aside0.mk A40
  clear A40
  by_cases c5 : t150 = true
  ·subst c5
   have H1 : ((vector_Valid.f l1).bind fun t151 => (some t151)) = some r := by rw [if_pos rfl] at H; exact H
   clear H
   have H := H1
   clear H1
   replace H := Option.bind_eq_some_iff.mp H
   obtain ⟨t151, A60, H⟩ := H
   replace H : (some t151) = some r := H
   have A6 := Aside0.mk A60
   clear A60
   obtain rfl := Option.some.inj H
   go_enter Try.func74, Try.ntmps74
   go_wp2_with (first | (go_at_call 41; (with_reducible refine (vector_Valid.calls _ _ l0 true _ ?side1 ?side2 A4.out).mono ?_); (case side1 => repeat (first | exact HR0.out | (with_reducible refine Kd.C_alloc ?_ _) | (with_reducible refine Kd.C_drewN ?_ _) | (with_reducible refine Kd.C_drew ?_))); (case side2 => exact HC0.out); rintro e w' ⟨rfl, ⟨nd, rfl⟩⟩) | (go_at_call 41; (with_reducible refine (vector_Valid.calls _ _ l1 t151 _ ?side1 ?side2 A6.out).mono ?_); (case side1 => repeat (first | exact HR1.out | (with_reducible refine Kd.C_alloc ?_ _) | (with_reducible refine Kd.C_drewN ?_ _) | (with_reducible refine Kd.C_drew ?_))); (case side2 => exact HC1.out); rintro e w' ⟨rfl, ⟨nd, rfl⟩⟩))
   go_ret
   exact ⟨by first | rfl | (simp; done) | (simp [*]; done), by repeat (first | exact Drawn0.refl _ | apply Drawn0.step)⟩
  ·replace c5 := Bool.eq_false_iff.mpr c5
   subst c5
   have H1 : (some false) = some r := by rw [if_neg (show ¬ (false = true) by decide)] at H; exact H
   clear H
   have H := H1
   clear H1
   obtain rfl := Option.some.inj H
   go_enter Try.func74, Try.ntmps74
   go_wp2_with (first | (go_at_call 41; (with_reducible refine (vector_Valid.calls _ _ l0 false _ ?side1 ?side2 A4.out).mono ?_); (case side1 => repeat (first | exact HR0.out | (with_reducible refine Kd.C_alloc ?_ _) | (with_reducible refine Kd.C_drewN ?_ _) | (with_reducible refine Kd.C_drew ?_))); (case side2 => exact HC0.out); rintro e w' ⟨rfl, ⟨nd, rfl⟩⟩))
   go_ret
   exact ⟨by first | rfl | (simp; done) | (simp [*]; done), by repeat (first | exact Drawn0.refl _ | apply Drawn0.step)⟩
 ·rw [if_neg c3] at H
  have c3b0 : ((l0.length : Int) == (l1.length : Int)) = false := beq_eq_false_iff_ne.mpr c3
  have c3b1 : ((l0.length : Int) != (l1.length : Int)) = true := bne_iff_ne.mpr c3
  have c3b2 : (l0.length == l1.length) = false := by first | simpa using c3 | (simp at c3 ⊢; omega)
  obtain rfl := Option.some.inj H
  go_enter Try.func74, Try.ntmps74
  go_wp2
  go_ret
  exact ⟨by first | rfl | (simp; done) | (simp [*]; done), by repeat (first | exact Drawn0.refl _ | apply Drawn0.step)⟩
def code_alike.l0 : Nat → List (List Int) → List (List Int) → Int → Int → Option (Bool)
 | 0, _, _, _, _ => none
 | k + 1, x0, x5, x6, x7 => if x7 < x6 then (if 0 ≤ x7 then (if x7 < (x5.length : Int) then (if 0 < (x0.length : Int) then ((vector_Alike.f (rd_L1 x0 0) (rd_L1 x5 x7)).bind fun t154 => (if t154 = true then (code_alike.l0 k x0 x5 x6 (wrap64 (x7 + 1))) else (some false))) else (none)) else (none)) else (none)) else (some (decide ((x0.length : Int) > 0)))
def code_alike.f (k : Nat) (l0 : List (List Int)) : Option (Bool) := code_alike.l0 k l0 l0 (l0.length : Int) 0
set_option maxHeartbeats 8000000 in
set_option maxRecDepth 100000 in
theorem code_alike.calls (k : Nat) (A0 : Option Addr) (c0 : Nat) (l0 : List (List Int)) (r : Bool) (w : World) (hr0 : Kd.C (Kd.slice 3 (Kd.int .i64)) w A0 l0.length l0) (hc0 : l0.length ≤ c0) (h : code_alike.f k l0 = some r) :
  Calls Try.prog 59 #[.slice A0 l0.length c0] w fun e w' => e = .returned (.bool r) ∧ Drawn0 w w' := by
 have HR0 := Aside0.mk hr0
 have HC0 := Aside0.mk hc0
 clear hr0 hc0
 have H : (code_alike.l0 k l0 l0 (l0.length : Int) 0) = some r := h
 clear h
 have H' := Aside0.mk H
 clear H
 go_enter Try.func59, Try.ntmps59
 go_wp2
 go_loopg [7] k (fun kq v7 w' => ∃ (x7_1 : Int), v7 = .int .i64 x7_1 ∧ Aside0 (code_alike.l0 kq l0 l0 (l0.length : Int) x7_1 = some r) ∧ Aside0 (kq ≤ k) ∧ Drawn0 w w')
 case atStart => exact ⟨(0), (by first | rfl | (simp; done) | (simp [*]; done)), H', ⟨Nat.le_refl _⟩, by repeat (first | exact Drawn0.refl _ | apply Drawn0.step)⟩
 case round =>
  clear H'
  obtain ⟨x7_1, rfl, HA, HK1, ⟨m1, rfl⟩⟩ := hrel
  cases gk with
  | zero => exact absurd HA.out (by simp [code_alike.l0])
  | succ k1 =>
   have H := HA.out
   clear HA
   simp only [code_alike.l0] at H
   by_cases c2 : x7_1 < (l0.length : Int)
   ·rw [if_pos c2] at H
    have c2b0 : decide (x7_1 < (l0.length : Int)) = true := decide_eq_true c2
    clear c2
    by_cases c3 : 0 ≤ x7_1
    ·rw [if_pos c3] at H
     have c3b0 : decide (0 ≤ x7_1) = true := decide_eq_true c3
     clear c3
     by_cases c4 : x7_1 < (l0.length : Int)
     ·rw [if_pos c4] at H
      have c4b0 : decide (x7_1 < (l0.length : Int)) = true := decide_eq_true c4
      clear c4
      by_cases c5 : 0 < (l0.length : Int)
      ·rw [if_pos c5] at H
       have c5b0 : decide (0 < (l0.length : Int)) = true := decide_eq_true c5
       have c5b1 : decide (0 < l0.length) = true := decide_eq_true (by omega)
       clear c5
       replace H := Option.bind_eq_some_iff.mp H
       obtain ⟨t154, A60, H⟩ := H
       replace H : (if t154 = true then (code_alike.l0 k1 l0 l0 (l0.length : Int) (wrap64 (x7_1 + 1))) else (some false)) = some r := H
       have A6 := Aside0.mk A60
       clear A60
       by_cases c7 : t154 = true
       ·subst c7
        have H1 : (code_alike.l0 k1 l0 l0 (l0.length : Int) (wrap64 (x7_1 + 1))) = some r := by rw [if_pos rfl] at H; exact H
        clear H
        have H := H1
        clear H1
        have H' := Aside0.mk H
        clear H
        have p152 : 0 ≤ (x7_1 : Int) := of_decide_eq_true (by first | (with_reducible assumption) | assumption)
        have q152 : x7_1 < (l0.length : Int) := of_decide_eq_true (by first | (with_reducible assumption) | assumption)
        obtain ⟨ad152, A152_0, c152_0, e152, hx152_0, hl152_0, hi152_0⟩ := at_L1 HR0.out x7_1 p152 q152
        cases e152
        have HR152_0 := Aside0.mk hi152_0
        have HC152_0 := Aside0.mk hl152_0
        clear hi152_0 hl152_0
        replace p152 := eq_true p152
        replace q152 := eq_true q152
        have p153 : 0 ≤ (0 : Int) := (by omega)
        have q153 : 0 < (l0.length : Int) := of_decide_eq_true (by first | (with_reducible assumption) | assumption)
        obtain ⟨ad153, A153_0, c153_0, e153, hx153_0, hl153_0, hi153_0⟩ := at_L1 HR0.out 0 p153 q153
        obtain rfl : ad152 = ad153 := (by injection e153)
        have qi153 : (0 < l0.length) = True := eq_true (by omega)
        (try rw [show ((0 : Int)).toNat = 0 from rfl] at hx153_0)
        (try rw [Addr.add_zero'] at hx153_0)
        have HR153_0 := Aside0.mk hi153_0
        have HC153_0 := Aside0.mk hl153_0
        clear hi153_0 hl153_0
        replace p153 := eq_true p153
        replace q153 := eq_true q153
        go_wp2_with (first | ((with_reducible refine gate_callee (f := 74) rfl ?_); refine goesL_ (some 15) rfl rfl Try.func74 (by kernel_rfl) rfl #[.slice A153_0 (rd_L1 l0 0).length c153_0, .slice A152_0 (rd_L1 l0 x7_1).length c152_0] rfl (by (try simp only [List.map_toArray, List.map_cons, List.map_nil]); first | done | rfl | (simp only [List.length_drop, List.length_take]; rfl)) ?_; (with_reducible refine (vector_Alike.calls _ _ (rd_L1 l0 0) _ _ (rd_L1 l0 x7_1) true _ ?side1 ?side2 ?side3 ?side4 A6.out).mono ?_); (case side1 => repeat (first | exact HR153_0.out | (with_reducible refine Kd.C_alloc ?_ _) | (with_reducible refine Kd.C_drewN ?_ _) | (with_reducible refine Kd.C_drew ?_))); (case side2 => exact HC153_0.out); (case side3 => repeat (first | exact HR152_0.out | (with_reducible refine Kd.C_alloc ?_ _) | (with_reducible refine Kd.C_drewN ?_ _) | (with_reducible refine Kd.C_drew ?_))); (case side4 => exact HC152_0.out); rintro e w' ⟨rfl, ⟨nd, rfl⟩⟩; refine ⟨_, rfl, ?_⟩))
        go_roundg k1
        case measure => have := HK1.out; omega
        case rel => exact ⟨(wrap64 (x7_1 + 1)), (by first | rfl | (simp; done) | (simp [*]; done)), H', ⟨by have := HK1.out; omega⟩, by repeat (first | exact Drawn0.refl _ | apply Drawn0.step)⟩
       ·replace c7 := Bool.eq_false_iff.mpr c7
        subst c7
        have H1 : (some false) = some r := by rw [if_neg (show ¬ (false = true) by decide)] at H; exact H
        clear H
        have H := H1
        clear H1
        obtain rfl := Option.some.inj H
        have p152 : 0 ≤ (x7_1 : Int) := of_decide_eq_true (by first | (with_reducible assumption) | assumption)
        have q152 : x7_1 < (l0.length : Int) := of_decide_eq_true (by first | (with_reducible assumption) | assumption)
        obtain ⟨ad152, A152_0, c152_0, e152, hx152_0, hl152_0, hi152_0⟩ := at_L1 HR0.out x7_1 p152 q152
        cases e152
        have HR152_0 := Aside0.mk hi152_0
        have HC152_0 := Aside0.mk hl152_0
        clear hi152_0 hl152_0
        replace p152 := eq_true p152
        replace q152 := eq_true q152
        have p153 : 0 ≤ (0 : Int) := (by omega)
        have q153 : 0 < (l0.length : Int) := of_decide_eq_true (by first | (with_reducible assumption) | assumption)
        obtain ⟨ad153, A153_0, c153_0, e153, hx153_0, hl153_0, hi153_0⟩ := at_L1 HR0.out 0 p153 q153
        obtain rfl : ad152 = ad153 := (by injection e153)
        have qi153 : (0 < l0.length) = True := eq_true (by omega)
        (try rw [show ((0 : Int)).toNat = 0 from rfl] at hx153_0)
        (try rw [Addr.add_zero'] at hx153_0)
        have HR153_0 := Aside0.mk hi153_0
        have HC153_0 := Aside0.mk hl153_0
        clear hi153_0 hl153_0
        replace p153 := eq_true p153
        replace q153 := eq_true q153
        go_wp2_with (first | ((with_reducible refine gate_callee (f := 74) rfl ?_); refine goesL_ (some 15) rfl rfl Try.func74 (by kernel_rfl) rfl #[.slice A153_0 (rd_L1 l0 0).length c153_0, .slice A152_0 (rd_L1 l0 x7_1).length c152_0] rfl (by (try simp only [List.map_toArray, List.map_cons, List.map_nil]); first | done | rfl | (simp only [List.length_drop, List.length_take]; rfl)) ?_; (with_reducible refine (vector_Alike.calls _ _ (rd_L1 l0 0) _ _ (rd_L1 l0 x7_1) false _ ?side1 ?side2 ?side3 ?side4 A6.out).mono ?_); (case side1 => repeat (first | exact HR153_0.out | (with_reducible refine Kd.C_alloc ?_ _) | (with_reducible refine Kd.C_drewN ?_ _) | (with_reducible refine Kd.C_drew ?_))); (case side2 => exact HC153_0.out); (case side3 => repeat (first | exact HR152_0.out | (with_reducible refine Kd.C_alloc ?_ _) | (with_reducible refine Kd.C_drewN ?_ _) | (with_reducible refine Kd.C_drew ?_))); (case side4 => exact HC152_0.out); rintro e w' ⟨rfl, ⟨nd, rfl⟩⟩; refine ⟨_, rfl, ?_⟩))
        go_ret
        exact ⟨by first | rfl | (simp; done) | (simp [*]; done), by repeat (first | exact Drawn0.refl _ | apply Drawn0.step)⟩
      ·rw [if_neg c5] at H
       exact absurd H (by simp)
     ·rw [if_neg c4] at H
      exact absurd H (by simp)
    ·rw [if_neg c3] at H
     exact absurd H (by simp)
   ·rw [if_neg c2] at H
    have c2b0 : decide (x7_1 < (l0.length : Int)) = false := decide_eq_false c2
    clear c2
    obtain rfl := Option.some.inj H
    go_wp2
    go_ret
    exact ⟨by first | rfl | (simp; done) | (simp [*]; done), by repeat (first | exact Drawn0.refl _ | apply Drawn0.step)⟩
end Go.Proofs.Ytgpdfalopdhjlaa.Q
end
section
namespace Go.Proofs.Ytgpdfalopdhjlaa.Q
open Go.RowKit Go.Proofs.YtgpdfalopdhjlaaW.PrintWords Go.Proofs.YtgpdfalopdhjlaaW.PrintLast Go.Proofs.YtgpdfalopdhjlaaW.PrintMore
attribute [local go_sem] max2_int min2_int max_two min_two max_three min_three max_four min_four   -- for this text's walks alone
set_option linter.unusedVariables false
set_option linter.unusedSimpArgs false
/-- the first of those that are farthest -/
def bestUpTo (far : List Int) : Nat → Nat
 | 0 => 0
 | k + 1 => if rd far (k : Int) > rd far (bestUpTo far k : Int) then k else bestUpTo far k
def bestOf (far : List Int) : Nat := bestUpTo far far.length
theorem bestUpTo_lt (far : List Int) : ∀ k, 0 < k → bestUpTo far k < k
 | 1, _ => by unfold bestUpTo; split <;> simp [bestUpTo]
 | k + 2, _ => by
  have := bestUpTo_lt far (k + 1) (by omega)
  rw [bestUpTo]
  split <;> omega
/-- how far the parts are from the words, one word more -/
def nearer (l : List (List Int)) (x : Int × Int × Int) (w : List Int) (far : List Int) : List Int := List.zipWith (fun f v => mn f (Plain.key 2 w (partOf v x))) far l
theorem nearer_length (l : List (List Int)) (x : Int × Int × Int) (w : List Int) (far : List Int) (h : far.length = l.length) : (nearer l x w far).length = l.length := by unfold nearer; rw [List.length_zipWith, h]; exact Nat.min_self _
theorem rd_at (l : List Int) (k : Nat) (h : k < l.length) : rd l (k : Int) = l[k] := by unfold rd; rw [Int.toNat_natCast, List.getD_eq_getElem?_getD, List.getElem?_eq_getElem h]; rfl
theorem rd_L1_at (l : List (List Int)) (k : Nat) (h : k < l.length) : rd_L1 l (k : Int) = l[k] := by unfold rd_L1; rw [Int.toNat_natCast, List.getD_eq_getElem?_getD, List.getElem?_eq_getElem h]; rfl
theorem nearer_at (l : List (List Int)) (x : Int × Int × Int) (w : List Int) (far : List Int) (k : Nat) (h : far.length = l.length) (hk : k < l.length) : (nearer l x w far)[k]? = some (mn (rd far (k : Int)) (Plain.key 2 w (partOf (rd_L1 l (k : Int)) x))) := by
 rw [rd_at far k (by omega), rd_L1_at l k hk, nearer, List.getElem?_zipWith, List.getElem?_eq_getElem hk, List.getElem?_eq_getElem (by omega)]
theorem nearer_range (l : List (List Int)) (x : Int × Int × Int) (w : List Int) (far : List Int) (h : ∀ f ∈ far, 0 ≤ f ∧ f ≤ 134217729) : ∀ f ∈ nearer l x w far, 0 ≤ f ∧ f ≤ 134217729 := by
 intro f hf
 obtain ⟨i, hi⟩ := List.getElem?_of_mem hf
 unfold nearer at hi
 rw [List.getElem?_zipWith] at hi
 cases h1 : far[i]? with
 | none => rw [h1] at hi; cases hi
 | some a =>
  cases h2 : l[i]? with
  | none => rw [h1, h2] at hi; cases hi
  | some v =>
   rw [h1, h2] at hi
   have ha := h a (List.mem_of_getElem? h1)
   have hk := Plain.key_nonneg 2 w (partOf v x)
   cases hi
   unfold mn
   split <;> omega
/-- a list whose first k elements are already the new ones -/
theorem splice_at (N far : List Int) (k : Nat) (hl : N.length = far.length) (hk : k < far.length) : rd (N.take k ++ far.drop k) (k : Int) = rd far (k : Int) := by
 have h1 : (N.take k).length = k := by rw [List.length_take]; omega
 unfold rd
 rw [Int.toNat_natCast, List.getD_eq_getElem?_getD, List.getD_eq_getElem?_getD, List.getElem?_append_right (by omega), h1, Nat.sub_self, List.getElem?_drop]
 simp
theorem splice_set (N far : List Int) (k : Nat) (y : Int) (hl : N.length = far.length) (hk : k < far.length) (hy : N[k]? = some y) : (N.take k ++ far.drop k).set k y = N.take (k + 1) ++ far.drop (k + 1) := by
 have h1 : (N.take k).length = k := by rw [List.length_take]; omega
 rw [List.set_append_right _ _ (by omega), h1, Nat.sub_self, List.drop_eq_getElem_cons hk, List.set_cons_zero, List.take_add_one, hy, List.append_assoc]
 rfl
/-- the words for a part -/
def trainRun (l : List (List Int)) (x : Int × Int × Int) : Nat → List (List Int) → List Int → List (List Int)
 | 0, out, _ => out
 | n + 1, out, far => if rd far (bestOf far : Int) = 0 then out else trainRun l x n (out ++ [partOf (rd_L1 l (bestOf far : Int)) x]) (nearer l x (partOf (rd_L1 l (bestOf far : Int)) x) far)
def trainOf (l : List (List Int)) (x : Int × Int × Int) (words : Nat) : List (List Int) := trainRun l x words [] (List.replicate l.length 134217729)
theorem fill_set (n k : Nat) (hk : k < n) (a b : Int) : (List.replicate k a ++ List.replicate (n - k) b).set k a = List.replicate (k + 1) a ++ List.replicate (n - (k + 1)) b := by
 obtain ⟨m, hm⟩ : ∃ m, n - k = m + 1 := ⟨n - k - 1, by omega⟩
 rw [List.set_append_right _ _ (by simp), hm, List.length_replicate, Nat.sub_self, List.replicate_succ, List.set_cons_zero, show n - (k + 1) = m by omega, List.replicate_succ', List.append_assoc]
 rfl
def trainFits (l : List (List Int)) (x0 x1 x2 a2 : Int) : Prop := (1 ≤ l.length ∧ l.length ≤ 4096) ∧ (0 ≤ x1 ∧ x1 < x2) ∧ (1 ≤ a2 ∧ a2 ≤ 256) ∧ ∀ v ∈ l, Plain.isVec v ∧ x2 ≤ v.length
instance (l : List (List Int)) (x0 x1 x2 a2 : Int) : Decidable (trainFits l x0 x1 x2 a2) := by unfold trainFits; infer_instance
theorem train_part {l : List (List Int)} {x0 x1 x2 a2 : Int} (h : trainFits l x0 x1 x2 a2) {v : List Int} (hv : v ∈ l) : code_part_of.f x0 x1 x2 v = some (partOf v (x0, x1, x2)) ∧ Plain.isVec (partOf v (x0, x1, x2)) ∧ ((partOf v (x0, x1, x2)).length : Int) = x2 - x1 := by
 obtain ⟨_, h1, _, h2⟩ := h
 obtain ⟨h3, h4⟩ := h2 v hv
 have hl : ((partOf v (x0, x1, x2)).length : Int) = x2 - x1 := by unfold partOf; rw [List.length_drop, List.length_take]; dsimp only; omega
 refine ⟨?_, ⟨fun x hx => h3.1 x (List.mem_of_mem_take (List.mem_of_mem_drop hx)), by omega, ?_⟩, hl⟩
 ·unfold code_part_of.f partOf
  rw [if_pos (by omega), if_pos (by omega), if_pos (by omega)]
 ·have := h3.2.2
  omega
theorem train_clone {v : List Int} (h : Plain.isVec v) : slices_Clone_int_int.f v = some v := if_pos (by have := h.2.2; omega)
theorem train_key {v u : List Int} (h : Plain.isVec v) (h2 : Plain.isVec u) (hl : v.length = u.length) : ∃ k, vector_Key.f k 2 v u = some (Plain.key 2 v u) := (vector_Key.ev ⟨by decide, by decide⟩ ⟨h, h2, hl⟩).rounds
def code_train.f (l0 : List (List Int)) (x0 x1 x2 a2 : Int) : Option (List (List Int)) := if trainFits l0 x0 x1 x2 a2 then some (trainOf l0 (x0, x1, x2) a2.toNat) else none
def code_train.T17 : Bool × List (List Nat × List Nat) := (true, [([], []), ([], []), ([], []), ([1, 2], [1, 2]), ([3], [3]), ([0, 4], [0, 4]), ([5, 5], [5]), ([6, 6, 0, 1, 2, 3, 4, 5, 6], [6])])
def code_train.B17 : List Nat := [0, 0, 0, 6, 14, 31, 63, 127]
theorem code_train.tab17 : rtab .any (opsOf Try.f61 17) = code_train.T17 := by kernel_rfl
theorem code_train.bits17 : waitsOk code_train.T17.2 code_train.B17 = true := by kernel_rfl
def code_train.T22 : Bool × List (List Nat × List Nat) := (true, [([], []), ([], []), ([], []), ([], []), ([2, 3], [2, 3]), ([4], [4]), ([], []), ([], []), ([], []), ([7, 8], [7, 8]), ([6, 9, 9], [6, 9]), ([5, 10], [5, 10]), ([0, 1, 0, 1, 2, 3, 4, 5, 6, 7, 8, 9, 10, 11], [0, 1]), ([12, 11, 10, 0, 1, 2, 3, 4, 5, 6, 7, 8, 9, 10, 11], [11, 12])])
def code_train.B22 : List Nat := [0, 0, 0, 0, 12, 28, 0, 0, 0, 384, 960, 2044, 4095, 8191]
theorem code_train.tab22 : rtab .any (opsOf Try.f61 22) = code_train.T22 := by kernel_rfl
theorem code_train.bits22 : waitsOk code_train.T22.2 code_train.B22 = true := by kernel_rfl
set_option maxHeartbeats 8000000 in
set_option maxRecDepth 100000 in
theorem code_train.calls (A0 : Option Addr) (c0 : Nat) (l0 : List (List Int)) (x0 x1 x2 : Int) (a2 : Int) (r : List (List Int)) (w : World) (hr0 : Kd.C (Kd.slice 3 (Kd.int .i64)) w A0 l0.length l0) (hc0 : l0.length ≤ c0) (h : code_train.f l0 x0 x1 x2 a2 = some r) :
  Calls Try.prog 61 #[.slice A0 l0.length c0, .agg #[.int .i64 x0, .int .i64 x1, .int .i64 x2], .int .i64 a2] w fun e w' => ∃ v0_ : Value, e = .returned (v0_) ∧ Kd.S (Kd.slice 3 (Kd.int .i64)) 22 w' w.heap.size (fun _ => True) v0_ r ∧ Below w.heap.size w w' := by
 have hfit : trainFits l0 x0 x1 x2 a2 := by
  unfold code_train.f at h
  split at h
  ·assumption
  ·cases h
 obtain rfl : trainOf l0 (x0, x1, x2) a2.toNat = r := by
  unfold code_train.f at h
  rw [if_pos hfit] at h
  exact Option.some.inj h
 clear h
 have HR := Aside0.mk hr0
 have HFIT := Aside0.mk hfit
 have hl1 := hfit.1.1
 have hl2 := hfit.1.2
 clear hr0 hfit
 have hbx := blk_new w (.cells #[.int .i64 x0, .int .i64 x1, .int .i64 x2] 67)
 have hbb := below_alloc (Below.refl w.heap.size w) (.cells #[.int .i64 x0, .int .i64 x1, .int .i64 x2] 67)
 go_enter Try.func61, Try.ntmps61
 go_wp2_with (first | ((with_reducible refine gate_dst (N := 18) rfl ?_); refine Kd.R_make (Kd.int .i64) (w0 := w) w.heap.size 3 rfl rfl 22 (.tmp 17) (.tmp 17) rfl (l0.length : Int) rfl rfl Try.underlying22 (.int .i64 0) 8 info3 rfl (by decide) (by decide) 0 (ok := fun _ => True) (okp := fun _ => False) rfl (fun _ h => h.elim) trivial (by omega) (by omega) hbb (below_size hbb) ?_; intro v1 w1 ho hb hg hat; obtain ⟨g8, cap8, rfl, hg8, hg8l, cells8, hc8⟩ := Kd.R_form ho (by simp; omega); simp only [Int.toNat_natCast, List.length_replicate] at ho ⊢; have HO := Aside0.mk ho; have HB := Aside0.mk hb; have HP := Aside0.mk ((hg.block _ (blk_lt hbx) (by simp)).trans hbx); clear ho hb hg hat hc8 cells8))
 go_loopw [21] (fun v21 wr => ∃ k : Nat, k ≤ l0.length ∧ v21 = .int .i64 k ∧ Aside0 ((Kd.int .i64).R 3 wr w.heap.size (fun _ => True) (.slice (some ⟨g8, 0, none⟩) l0.length cap8) (List.replicate k 134217729 ++ List.replicate (l0.length - k) 0)) ∧ Aside0 (wr.heap[w.heap.size]? = some (.cells #[.int .i64 x0, .int .i64 x1, .int .i64 x2] 67 (0, 0))) ∧ Aside0 (Below w.heap.size w wr)) (fun v _ => l0.length - (intOf v).toNat)
 case atStart => exact ⟨0, Nat.zero_le _, rfl, ⟨by simpa using HO.out⟩, HP, HB⟩
 case round =>
  obtain ⟨k, hk, rfl, HF, HP2, HB2⟩ := hrel
  by_cases hlt : k < l0.length
  ·have q0 : (0 : Int) ≤ (k : Int) := by omega
   have q1 : (k : Int) < (l0.length : Int) := by omega
   have hcell := Kd.R_celln 0 HF.out (k : Int) q0 q1
   rw [Int.toNat_natCast] at hcell
   obtain ⟨hcl, hfz⟩ := hcell
   have hne : w.heap.size ≠ g8 := fun e => Kd.R_ne HF.out HP2.out (by decide) (by rw [e]; simp [Value.ownBlock])
   go_wp2
   go_roundw
   case rel =>
    refine ⟨k + 1, by omega, by go_num, ⟨?_⟩, ⟨blk_far HP2.out hne _⟩, ⟨below_set (j := k) HB2.out hg8⟩⟩
    have h7 := Kd.R_putn HF.out (k : Int) (134217729 : Int)
    rw [Int.toNat_natCast, fill_set _ _ hlt] at h7
    exact h7
   case measure => simp [intOf]; omega
  ·obtain rfl : k = l0.length := by omega
   go_wp2
   have hF0 := HF.out
   rw [Nat.sub_self, List.replicate_zero, List.append_nil] at hF0
   have HF0 := Aside0.mk hF0
   have hne : w.heap.size ≠ g8 := fun e => Kd.R_ne HF.out HP2.out (by decide) (by rw [e]; simp [Value.ownBlock])
   clear hF0 HF HO HP HB hk hlt
   go_loopg [7] (a2.toNat + 1) (fun kq v7 w' => ∃ (rem : Nat) (out : List (List Int)) (far : List Int), Aside0 (kq = rem + 1) ∧ Aside0 (out.length + rem = a2.toNat) ∧ Aside0 (far.length = l0.length) ∧ Aside0 (∀ f ∈ far, 0 ≤ f ∧ f ≤ 134217729) ∧ Aside0 (trainRun l0 (x0, x1, x2) rem out far = trainOf l0 (x0, x1, x2) a2.toNat) ∧ Aside0 ((Kd.slice 3 (Kd.int .i64)).S 22 w' w.heap.size (fun k => k ≠ g8) v7 out) ∧ Aside0 ((Kd.int .i64).R 3 w' w.heap.size (fun _ => True) (.slice (some ⟨g8, 0, none⟩) l0.length cap8) far) ∧ Aside0 (w'.heap[w.heap.size]? = some (.cells #[.int .i64 x0, .int .i64 x1, .int .i64 x2] 67 (0, 0))) ∧ Aside0 (Below w.heap.size w w'))
   case atStart => exact ⟨a2.toNat, [], List.replicate l0.length 134217729, ⟨rfl⟩, ⟨by simp⟩, ⟨by simp⟩, ⟨fun f hf => by rw [(List.mem_replicate.1 hf).2]; decide⟩, ⟨rfl⟩, ⟨Kd.S_nil _ _ _ _ _⟩, HF0, HP2, HB2⟩
   case round =>
    obtain ⟨rem, out, far, HK, HLN, HFL, HFR, HRUN, HOUT, HFAR, HP3, HB3⟩ := hrel
    obtain ⟨A7, c7, rfl⟩ := Kd.S_slice HOUT.out
    have ha2 := HFIT.out.2.2.1.1
    cases rem with
    | zero =>
     have hcond : ¬ ((out.length : Int) < a2) := by have := HLN.out; omega
     clear ha2
     go_wp2
     go_ret
     exact ⟨_, rfl, by rw [← HRUN.out]; exact Kd.S_mono HOUT.out (fun _ _ => trivial), HB3.out⟩
    | succ n =>
     have hcond : (out.length : Int) < a2 := by have := HLN.out; omega
     clear ha2
     rename World => wq
     go_wp2
     go_loopw [10, 34] (fun v10 v34 wb => ∃ k : Nat, k ≤ l0.length ∧ v34 = .int .i64 k ∧ v10 = .int .i64 (bestUpTo far k : Nat) ∧ wb = wq) (fun _ v _ => l0.length - (intOf v).toNat)
     case atStart => exact ⟨0, Nat.zero_le _, rfl, rfl, rfl⟩
     case round =>
      obtain ⟨k, hk, rfl, rfl, hw⟩ := hrel
      subst hw
      have hbl : bestUpTo far k < l0.length := by
       rcases Nat.eq_zero_or_pos k with h | h
       ·rw [h]; exact hl1
       ·have := bestUpTo_lt far k h; omega
      have q4 : (0 : Int) ≤ (bestUpTo far k : Int) := by omega
      have q5 : (bestUpTo far k : Int) < (l0.length : Int) := by omega
      have hcb : wr.cell? ⟨g8, bestUpTo far k, none⟩ = some (.int .i64 (rd far (bestUpTo far k : Int))) := by
       have h := (Kd.R_celln (0 : Int) HFAR.out (bestUpTo far k : Int) q4 q5).1
       rwa [Int.toNat_natCast] at h
      by_cases hlt : k < l0.length
      ·have q2 : (0 : Int) ≤ (k : Int) := by omega
       have q3 : (k : Int) < (l0.length : Int) := by omega
       have hck : wr.cell? ⟨g8, k, none⟩ = some (.int .i64 (rd far (k : Int))) := by
        have h := (Kd.R_celln (0 : Int) HFAR.out (k : Int) q2 q3).1
        rwa [Int.toNat_natCast] at h
       have hbs : bestUpTo far (k + 1) = if rd far (k : Int) > rd far (bestUpTo far k : Int) then k else bestUpTo far k := rfl
       generalize bestUpTo far k = b at *
       by_cases hgt : rd far (k : Int) > rd far (b : Int)
       ·rw [if_pos hgt] at hbs
        go_wp2
        go_roundw
        case rel => exact ⟨k + 1, by omega, by go_num, by rw [hbs], by first | rfl | trivial⟩
        case measure => simp [intOf]; omega
       ·rw [if_neg hgt] at hbs
        go_wp2
        go_roundw
        case rel => exact ⟨k + 1, by omega, by go_num, by rw [hbs], by first | rfl | trivial⟩
        case measure => simp [intOf]; omega
      ·obtain rfl : k = l0.length := by omega
       clear hk hlt
       have hbo : bestUpTo far l0.length = bestOf far := by rw [bestOf, HFL.out]
       rw [hbo] at hcb hbl q4 q5 ⊢
       clear hbo
       obtain ⟨b, hbb⟩ : ∃ b, bestOf far = b := ⟨_, rfl⟩
       have HB0 := Aside0.mk hbb
       rw [hbb] at hcb hbl q4 q5 ⊢
       clear hbb
       by_cases hz : rd far (b : Int) = 0
       ·have hzb : (rd far (b : Int) == 0) = true := by simp [hz]
        have HEND := Aside0.mk (show trainRun l0 (x0, x1, x2) (n + 1) out far = out from by rw [← HB0.out] at hz; exact if_pos hz)
        clear hz
        go_wp2
        go_ret
        exact ⟨_, rfl, by rw [← HRUN.out, HEND.out]; exact Kd.S_mono HOUT.out (fun _ _ => trivial), HB3.out⟩
       ·have hzb : (rd far (b : Int) == 0) = false := by simp [hz]
        obtain ⟨ad, A3, c3, e3, hx3, hl3, hr3⟩ := at_L1 (Kd.C_below HR.out HB3.out) (b : Int) q4 q5
        cases e3
        have hmem : rd_L1 l0 (b : Int) ∈ l0 := by rw [rd_L1_at l0 b hbl]; exact List.getElem_mem hbl
        obtain ⟨hpo, hpv, hpl⟩ := train_part HFIT.out hmem
        have HRUN2 := Aside0.mk (show trainRun l0 (x0, x1, x2) (n + 1) out far = trainRun l0 (x0, x1, x2) n (out ++ [partOf (rd_L1 l0 (b : Int)) (x0, x1, x2)]) (nearer l0 (x0, x1, x2) (partOf (rd_L1 l0 (b : Int)) (x0, x1, x2)) far) from by rw [← HB0.out] at hz ⊢; exact if_neg hz)
        clear hz hmem
        rw [Int.toNat_natCast] at hx3
        generalize rd_L1 l0 (b : Int) = vb at *
        generalize hpbe : partOf vb (x0, x1, x2) = pb at *
        clear hpbe
        have hcl := train_clone hpv
        have HPV := Aside0.mk hpv
        have HPL := Aside0.mk hpl
        have hp0 : wr.cell? ⟨w.heap.size, 0, none⟩ = some (.int .i64 x0) := (blk_cell HP3.out 0).trans rfl
        have hp1 : wr.cell? ⟨w.heap.size, 1, none⟩ = some (.int .i64 x1) := (blk_cell HP3.out 1).trans rfl
        have hp2 : wr.cell? ⟨w.heap.size, 2, none⟩ = some (.int .i64 x2) := (blk_cell HP3.out 2).trans rfl
        clear hpv hpl
        go_wp2
        refine start_ (n := 8) (S := fun w' => w'.cell? ⟨w.heap.size, 0, none⟩ = some (.int .i64 x0) ∧ w'.cell? ⟨w.heap.size, 1, none⟩ = some (.int .i64 x1) ∧ w'.cell? ⟨w.heap.size, 2, none⟩ = some (.int .i64 x2) ∧ w'.cell? (ad.add b) = some (.slice A3 vb.length c3)) (ds := []) #[false, false, false, false, false, false, false, false] (by kernel_rfl) rfl rfl ⟨hp0, hp1, hp2, hx3⟩ (fun hHeld => ?_)
        refine with_tabW code_train.tab17 code_train.bits17 (fun HT_ HW_ => ?_)
        refine pure_ (i := 1) (N := some 53) (v := ?_) (a' := ?_) #[false, true, false, false, false, false, false, false] rfl rfl (any_of HT_.out (by kernel_rfl)) (fun _ _ _ h => h) (Or.inl ⟨by rfl, ?_⟩) ?_ ?_
        rotate_left
        ·intro w'
         go_simp
         with_reducible rfl
        rotate_left
        ·simp only [Act.put, List.setIfInBounds_toArray, List.set_cons_zero, List.set_cons_succ, i64_w, i32_w]
         rfl
        refine pure_ (i := 2) (N := some 54) (v := ?_) (a' := ?_) #[false, true, true, false, false, false, false, false] rfl rfl (any_of HT_.out (by kernel_rfl)) (fun _ _ _ h => h) (Or.inl ⟨by rfl, ?_⟩) ?_ ?_
        rotate_left
        ·intro w'
         go_simp
         with_reducible rfl
        rotate_left
        ·simp only [Act.put, List.setIfInBounds_toArray, List.set_cons_zero, List.set_cons_succ, i64_w, i32_w]
         rfl
        refine pure_ (i := 3) (N := some 55) (v := ?_) (a' := ?_) #[false, true, true, true, false, false, false, false] rfl rfl (any_of HT_.out (by kernel_rfl)) (fun _ _ _ h => h) (Or.inl ⟨by rfl, ?_⟩) ?_ ?_
        rotate_left
        ·intro w'
         go_simp
         with_reducible rfl
        rotate_left
        ·simp only [Act.put, List.setIfInBounds_toArray, List.set_cons_zero, List.set_cons_succ, i64_w, i32_w]
         rfl
        refine take_ (i := 0) (N := some 52) (v := ?_) (a' := ?_) #[true, true, true, true, false, false, false, false] rfl rfl (take_ofW HT_.out HW_.out (by kernel_rfl)) (fun _ _ _ h => h) (Or.inl ⟨by rfl, ?_⟩) hHeld ?_ ?_
        rotate_left
        ·rintro w' ⟨s0, s1, s2, s3⟩
         go_simp
         with_reducible rfl
        rotate_left
        ·simp only [Act.put, List.setIfInBounds_toArray, List.set_cons_zero, List.set_cons_succ, i64_w, i32_w]
         rfl
        refine take_ (i := 4) (N := some 56) (v := ?_) (a' := ?_) #[true, true, true, true, true, false, false, false] rfl rfl (take_ofW HT_.out HW_.out (by kernel_rfl)) (fun _ _ _ h => h) (Or.inl ⟨by rfl, ?_⟩) hHeld ?_ ?_
        rotate_left
        ·rintro w' ⟨s0, s1, s2, s3⟩
         go_simp
         with_reducible rfl
        rotate_left
        ·simp only [Act.put, List.setIfInBounds_toArray, List.set_cons_zero, List.set_cons_succ, i64_w, i32_w]
         rfl
        refine one_ (i := 5) (N := some 57) #[true, true, true, true, true, true, false, false] rfl rfl (one_of HT_.out (by kernel_rfl)) (by decide) (fun K hK => ?_)
        refine goes_ Try.func48 (by kernel_rfl) rfl #[.agg #[.int .i64 x0, .int .i64 x1, .int .i64 x2], .slice A3 vb.length c3] (by rfl) rfl rfl (by simp only [List.map_toArray, List.map_cons, List.map_nil]; rfl) ?_
        with_reducible refine (code_part_of.calls _ _ _ (fun k => True) _ _ _ _ _ (Kd.V_mk hl3 (Kd.F_mono (Kd.C_F (Kd.heap_int _) (Kd.C_below hr3 (below_drew1 (Below.refl wr.heap.size wr)))) (fun _ _ => trivial))) hpo).mono ?_
        rintro e w3 ⟨v3, rfl, hv, hb⟩
        refine ⟨_, rfl, ?_⟩
        obtain ⟨A4, c4, rfl⟩ := Kd.V_slice hv
        obtain ⟨_, hl4, hr4⟩ := Kd.V_reads' hv
        have hB3 := below_step (below_drew1 (Below.refl wr.heap.size wr)) hb
        refine hK.out _ _ ⟨(pw_cell_below hb hHeld.1), (pw_cell_below hb hHeld.2.1), (pw_cell_below hb hHeld.2.2.1), (pw_cell_below hb hHeld.2.2.2)⟩ (fun hHeld => ?_)
        clear hK K
        refine norm_ (a' := ?_) ?_ ?_
        rotate_left
        ·show Act.put _ (some 57) _ = _
         simp only [Act.put, List.setIfInBounds_toArray, List.set_cons_zero, List.set_cons_succ, i64_w, i32_w]
         rfl
        refine one_ (i := 6) (N := some 58) #[true, true, true, true, true, true, true, false] rfl rfl (one_of HT_.out (by kernel_rfl)) (by decide) (fun K hK => ?_)
        refine goes_ Try.func60 (by kernel_rfl) rfl #[.slice A4 pb.length c4] (by rfl) rfl rfl (by simp only [List.map_toArray, List.map_cons, List.map_nil]; rfl) ?_
        with_reducible refine (slices_Clone_int_int.calls _ _ _ _ _ hr4 hl4 hcl).mono ?_
        rintro e w5 ⟨v5, rfl, ho5, hb2⟩
        refine ⟨_, rfl, ?_⟩
        obtain ⟨A5, c5, rfl⟩ := Kd.R_slice ho5
        have hB5 := below_step hB3 hb2
        refine hK.out _ _ ⟨(pw_cell_below hb2 hHeld.1), (pw_cell_below hb2 hHeld.2.1), (pw_cell_below hb2 hHeld.2.2.1), (pw_cell_below hb2 hHeld.2.2.2)⟩ (fun hHeld => ?_)
        clear hK K
        refine norm_ (a' := ?_) ?_ ?_
        rotate_left
        ·show Act.put _ (some 58) _ = _
         simp only [Act.put, List.setIfInBounds_toArray, List.set_cons_zero, List.set_cons_succ, i64_w, i32_w]
         rfl
        refine pure_ (i := 7) (N := some 13) (v := ?_) (a' := ?_) #[true, true, true, true, true, true, true, true] rfl rfl (any_of HT_.out (by kernel_rfl)) (fun _ _ _ h => h) (Or.inl ⟨by rfl, ?_⟩) ?_ ?_
        rotate_left
        ·intro w'
         go_simp
         with_reducible rfl
        rotate_left
        ·simp only [Act.put, List.setIfInBounds_toArray, List.set_cons_zero, List.set_cons_succ, i64_w, i32_w]
         rfl
        refine done_ (done_of HT_.out (by kernel_rfl)) ?_
        obtain ⟨_, hpc, _⟩ := Kd.R_reads' ho5
        have hg8w : g8 < wr.heap.size := Kd.R_lt HFAR.out g8 (by simp [Value.ownBlock])
        have hww : w.heap.size ≤ wr.heap.size := HB3.out.size
        have hw3 := hB3.size
        have hw5 := hB5.size
        have hln : out.length ≤ 256 := by have := HLN.out; have := HFIT.out.2.2.1.2; omega
        have HG8 := Aside0.mk hg8w
        have HB5 := Aside0.mk (below_step HB3.out hB5)
        have HFAR5 := Aside0.mk (Kd.R_below HFAR.out hB5)
        have HOUT5 := Aside0.mk (Kd.S_mono (Kd.S_old HOUT.out hB5) (ok' := fun k => k ≠ g8 ∧ ¬ wr.heap.size ≤ k) (fun k hk => ⟨hk.1, by have := hk.2; omega⟩))
        have HOL := Aside0.mk (Kd.S_lt HOUT.out)
        have HP5 := Aside0.mk ((hB5.block _ (blk_lt HP3.out)).trans HP3.out)
        have HO5 := Aside0.mk (Kd.R_mono (Kd.R_lower (Kd.R_bound ho5) (base' := w.heap.size) (by omega)) (ok' := fun k => wr.heap.size ≤ k) (fun k hk => by have := hk.2.1; omega))
        have hN5 : w.heap.size ≤ w5.heap.size := by omega
        have hG5 : g8 < w5.heap.size := by omega
        have HPC := Aside0.mk hpc
        clear hHeld ho5 hB3 hB5 hb hb2 hv hl4 hr4 hpo hcl hp0 hp1 hp2 hx3 hl3 hr3 hcb hzb hww hw3 hw5 hg8w hpc HB3 HFAR HOUT HP3 HF0 hbx hbb hg8l hne HP2 HB2
        go_wp2_with (first | ((with_reducible refine gate_builtin (b := .append) (xs := #[.tmp 59, .tmp 61]) rfl ?_); at_builtin; refine Kd.S_append (Kd.slice 3 (Kd.int .i64)) (w0 := w) w.heap.size rfl (.tmp 59) (.tmp 61) 39 22 (.slice none 0 0) 24 rfl Try.underlying39 info22 rfl (by decide) (by omega) (.slice A7 out.length c7) out pb [.slice A5 pb.length c5] (fun k => k ≠ g8) (fun k => wr.heap.size ≤ k) rfl rfl ⟨_, rfl, HO5.out⟩ (fun k hk => ⟨by have := HG8.out; omega, fun e => by have := HOL.out k e.symm; omega⟩) (fun k hk => by omega) HOUT5.out HB5.out hN5 (by omega) ?_; intro v1 w6 ho hb hg6 hat; obtain ⟨A6, c6, rfl⟩ := Kd.S_slice ho; have HO6 := Aside0.mk ho; have HB6 := Aside0.mk hb; have HG6 := Aside0.mk hg6; clear ho hb hg6 hat))
        have HFAR6 := Aside0.mk (Kd.R_over' HFAR5.out (Kd.S_typed HOUT5.out) (by decide) HG6.out)
        have HP6 := Aside0.mk (blk_grown HP5.out HG6.out (Kd.S_ne HOUT5.out HP5.out (by decide)))
        have HF6 := Aside0.mk (Kd.F_mono (Kd.R_F (Kd.R_over' HO5.out (Kd.S_typed HOUT5.out) (by decide) HG6.out)) (ok' := fun k => k ≠ g8) (fun k hk => by have := HG8.out; omega))
        have HNL := Aside0.mk (nearer_length l0 (x0, x1, x2) pb far HFL.out)
        have HNA := Aside0.mk (fun k hk => nearer_at l0 (x0, x1, x2) pb far k HFL.out hk)
        have HNR := Aside0.mk (nearer_range l0 (x0, x1, x2) pb far HFR.out)
        generalize nearer l0 (x0, x1, x2) pb far = nf at *
        rename World => wq
        go_loopw [65] (fun v65 wr => ∃ k : Nat, k ≤ l0.length ∧ v65 = .int .i64 k ∧ Aside0 ((Kd.int .i64).R 3 wr w.heap.size (fun _ => True) (.slice (some ⟨g8, 0, none⟩) l0.length cap8) (nf.take k ++ far.drop k)) ∧ Aside0 (Kd.F (Kd.int .i64) wr (fun k => k ≠ g8) A5 pb.length pb) ∧ Aside0 ((Kd.slice 3 (Kd.int .i64)).S 22 wr w.heap.size (fun k => k ≠ g8) (.slice A6 (out ++ [pb]).length c6) (out ++ [pb])) ∧ Aside0 (wr.heap[w.heap.size]? = some (.cells #[.int .i64 x0, .int .i64 x1, .int .i64 x2] 67 (0, 0))) ∧ Aside0 (Below w.heap.size w wr)) (fun v _ => l0.length - (intOf v).toNat)
        case atStart => exact ⟨0, Nat.zero_le _, rfl, ⟨by simpa using HFAR6.out⟩, HF6, HO6, HP6, HB6⟩
        case round =>
         clear HFAR6 HF6 HO6 HP6 HB6 HG6 HO5 HP5 HOL HOUT5 HFAR5 HB5 hG5 hN5 hcond
         obtain ⟨k, hk, rfl, HFK, HPB, HOUT7, HP7, HB7⟩ := hrel
         by_cases hlt : k < l0.length
         ·have q0 : (0 : Int) ≤ (k : Int) := by omega
          have q1 : (k : Int) < (l0.length : Int) := by omega
          obtain ⟨ad', A3, c3, e3, hx3, hl3, hr3⟩ := at_L1 (Kd.C_below HR.out HB7.out) (k : Int) q0 q1
          cases e3
          rw [Int.toNat_natCast] at hx3
          have hmem : rd_L1 l0 (k : Int) ∈ l0 := by rw [rd_L1_at l0 k hlt]; exact List.getElem_mem hlt
          obtain ⟨hpo, hpv, hpl⟩ := train_part HFIT.out hmem
          obtain ⟨kk, hkk⟩ := train_key HPV.out hpv (by have := HPL.out; omega)
          have hna := HNA.out k hlt
          generalize rd_L1 l0 (k : Int) = vb2 at *
          generalize hpbe : partOf vb2 (x0, x1, x2) = pk at *
          generalize hfe : rd far (k : Int) = fk at *
          generalize hye : Plain.key 2 pb pk = y at *
          have HNA2 := Aside0.mk hna
          have HFKE := Aside0.mk (show rd (nf.take k ++ far.drop k) (k : Int) = fk from (splice_at nf far k (by rw [HNL.out, HFL.out]) (by rw [HFL.out]; exact hlt)).trans hfe)
          have hcfk := (Kd.R_celln (0 : Int) HFK.out (k : Int) q0 q1).1
          rw [Int.toNat_natCast, show rdOf 0 _ (k : Int) = fk from HFKE.out] at hcfk
          clear hpbe hfe hye hna hmem hpv hpl
          have hpc := HPC.out
          have hp0 : wr.cell? ⟨w.heap.size, 0, none⟩ = some (.int .i64 x0) := (blk_cell HP7.out 0).trans rfl
          have hp1 : wr.cell? ⟨w.heap.size, 1, none⟩ = some (.int .i64 x1) := (blk_cell HP7.out 1).trans rfl
          have hp2 : wr.cell? ⟨w.heap.size, 2, none⟩ = some (.int .i64 x2) := (blk_cell HP7.out 2).trans rfl
          go_wp2
          refine start_ (n := 14) (S := fun w' => w'.cell? ⟨w.heap.size, 0, none⟩ = some (.int .i64 x0) ∧ w'.cell? ⟨w.heap.size, 1, none⟩ = some (.int .i64 x1) ∧ w'.cell? ⟨w.heap.size, 2, none⟩ = some (.int .i64 x2) ∧ w'.cell? ⟨g8, k, none⟩ = some (.int .i64 fk)) (ds := [13]) #[false, false, false, false, false, false, false, false, false, false, false, false, false, false] (by kernel_rfl) rfl rfl ⟨hp0, hp1, hp2, hcfk⟩ (fun hHeld => ?_)
          refine with_tabW code_train.tab22 code_train.bits22 (fun HT_ HW_ => ?_)
          refine pure_ (i := 0) (N := some 70) (v := ?_) (a' := ?_) #[true, false, false, false, false, false, false, false, false, false, false, false, false, false] rfl rfl (any_of HT_.out (by kernel_rfl)) (fun _ _ _ h => h) (Or.inl ⟨by rfl, ?_⟩) ?_ ?_
          rotate_left
          ·intro w'
           go_simp
           with_reducible rfl
          rotate_left
          ·simp only [Act.put, List.setIfInBounds_toArray, List.set_cons_zero, List.set_cons_succ, i64_w, i32_w]
           rfl
          refine pure_ (i := 1) (N := some 71) (v := ?_) (a' := ?_) #[true, true, false, false, false, false, false, false, false, false, false, false, false, false] rfl rfl (any_of HT_.out (by kernel_rfl)) (fun _ _ _ h => h) (Or.inl ⟨by rfl, ?_⟩) ?_ ?_
          rotate_left
          ·intro w'
           go_simp
           with_reducible rfl
          rotate_left
          ·simp only [Act.put, List.setIfInBounds_toArray, List.set_cons_zero, List.set_cons_succ, i64_w, i32_w]
           rfl
          refine pure_ (i := 2) (N := some 72) (v := ?_) (a' := ?_) #[true, true, true, false, false, false, false, false, false, false, false, false, false, false] rfl rfl (any_of HT_.out (by kernel_rfl)) (fun _ _ _ h => h) (Or.inl ⟨by rfl, ?_⟩) ?_ ?_
          rotate_left
          ·intro w'
           go_simp
           with_reducible rfl
          rotate_left
          ·simp only [Act.put, List.setIfInBounds_toArray, List.set_cons_zero, List.set_cons_succ, i64_w, i32_w]
           rfl
          refine pure_ (i := 3) (N := some 73) (v := ?_) (a' := ?_) #[true, true, true, true, false, false, false, false, false, false, false, false, false, false] rfl rfl (any_of HT_.out (by kernel_rfl)) (fun _ _ _ h => h) (Or.inl ⟨by rfl, ?_⟩) ?_ ?_
          rotate_left
          ·intro w'
           go_simp
           with_reducible rfl
          rotate_left
          ·simp only [Act.put, List.setIfInBounds_toArray, List.set_cons_zero, List.set_cons_succ, i64_w, i32_w]
           rfl
          refine pure_ (i := 4) (N := some 74) (v := ?_) (a' := ?_) #[true, true, true, true, true, false, false, false, false, false, false, false, false, false] rfl rfl (any_of HT_.out (by kernel_rfl)) (fun _ _ _ h => h) (Or.inl ⟨by rfl, ?_⟩) ?_ ?_
          rotate_left
          ·intro w'
           go_simp
           with_reducible rfl
          rotate_left
          ·simp only [Act.put, List.setIfInBounds_toArray, List.set_cons_zero, List.set_cons_succ, i64_w, i32_w]
           rfl
          refine pure_ (i := 6) (N := some 76) (v := ?_) (a' := ?_) #[true, true, true, true, true, false, true, false, false, false, false, false, false, false] rfl rfl (any_of HT_.out (by kernel_rfl)) (fun _ _ _ h => h) (Or.inl ⟨by rfl, ?_⟩) ?_ ?_
          rotate_left
          ·intro w'
           go_simp
           with_reducible rfl
          rotate_left
          ·simp only [Act.put, List.setIfInBounds_toArray, List.set_cons_zero, List.set_cons_succ, i64_w, i32_w]
           rfl
          refine pure_ (i := 8) (N := some 78) (v := ?_) (a' := ?_) #[true, true, true, true, true, false, true, false, true, false, false, false, false, false] rfl rfl (any_of HT_.out (by kernel_rfl)) (fun _ _ _ h => h) (Or.inl ⟨by rfl, ?_⟩) ?_ ?_
          rotate_left
          ·intro w'
           go_simp
           with_reducible rfl
          rotate_left
          ·simp only [Act.put, List.setIfInBounds_toArray, List.set_cons_zero, List.set_cons_succ, i64_w, i32_w]
           rfl
          refine take_ (i := 5) (N := some 75) (v := ?_) (a' := ?_) #[true, true, true, true, true, true, true, false, true, false, false, false, false, false] rfl rfl (take_ofW HT_.out HW_.out (by kernel_rfl)) (fun _ _ _ h => h) (Or.inl ⟨by rfl, ?_⟩) hHeld ?_ ?_
          rotate_left
          ·rintro w' ⟨s0, s1, s2, s3⟩
           go_simp
           with_reducible rfl
          rotate_left
          ·simp only [Act.put, List.setIfInBounds_toArray, List.set_cons_zero, List.set_cons_succ, i64_w, i32_w]
           rfl
          refine take_ (i := 7) (N := some 77) (v := ?_) (a' := ?_) #[true, true, true, true, true, true, true, true, true, false, false, false, false, false] rfl rfl (take_ofW HT_.out HW_.out (by kernel_rfl)) (fun _ _ _ h => h) (Or.inl ⟨by rfl, ?_⟩) hHeld ?_ ?_
          rotate_left
          ·rintro w' ⟨s0, s1, s2, s3⟩
           go_simp
           with_reducible rfl
          rotate_left
          ·simp only [Act.put, List.setIfInBounds_toArray, List.set_cons_zero, List.set_cons_succ, i64_w, i32_w]
           rfl
          refine one_ (i := 9) (N := some 79) #[true, true, true, true, true, true, true, true, true, true, false, false, false, false] rfl rfl (one_of HT_.out (by kernel_rfl)) (by decide) (fun K hK => ?_)
          refine goes_ Try.func48 (by kernel_rfl) rfl #[.agg #[.int .i64 x0, .int .i64 x1, .int .i64 x2], .slice A3 vb2.length c3] (by rfl) rfl rfl (by simp only [List.map_toArray, List.map_cons, List.map_nil]; rfl) ?_
          with_reducible refine (code_part_of.calls _ _ _ (fun k => True) _ _ _ _ _ (Kd.V_mk hl3 (Kd.F_mono (Kd.C_F (Kd.heap_int _) (Kd.C_below hr3 (below_drew1 (Below.refl wr.heap.size wr)))) (fun _ _ => trivial))) hpo).mono ?_
          rintro e w3 ⟨v3, rfl, hv, hb⟩
          refine ⟨_, rfl, ?_⟩
          obtain ⟨A4, c4, rfl⟩ := Kd.V_slice hv
          obtain ⟨_, hl4, hr4⟩ := Kd.V_reads' hv
          have hB3 := below_step (below_drew1 (Below.refl wr.heap.size wr)) hb
          refine hK.out _ _ ⟨(pw_cell_below hb hHeld.1), (pw_cell_below hb hHeld.2.1), (pw_cell_below hb hHeld.2.2.1), (pw_cell_below hb hHeld.2.2.2)⟩ (fun hHeld => ?_)
          clear hK K
          refine norm_ (a' := ?_) ?_ ?_
          rotate_left
          ·show Act.put _ (some 79) _ = _
           simp only [Act.put, List.setIfInBounds_toArray, List.set_cons_zero, List.set_cons_succ, i64_w, i32_w]
           rfl
          refine one_ (i := 10) (N := some 80) #[true, true, true, true, true, true, true, true, true, true, true, false, false, false] rfl rfl (one_of HT_.out (by kernel_rfl)) (by decide) (fun K hK => ?_)
          refine goes_ Try.func55 (by kernel_rfl) rfl #[.int .i64 2, .slice A5 pb.length c5, .slice A4 pk.length c4] (by rfl) rfl rfl (by simp only [List.map_toArray, List.map_cons, List.map_nil]; rfl) ?_
          with_reducible refine (vector_Key.calls _ _ _ _ _ _ _ _ _ _ (Kd.C_below (Kd.F_now HPB.out) hB3) hpc hr4 hl4 hkk).mono ?_
          rintro e w5 ⟨rfl, hb2⟩
          refine ⟨_, rfl, ?_⟩
          have hB5 := below_step hB3 hb2
          have hcf5 := Kd.R_celln (0 : Int) (Kd.R_below HFK.out hB5) (k : Int) q0 q1
          rw [Int.toNat_natCast] at hcf5
          obtain ⟨hcc5, hff5⟩ := hcf5
          rw [show rdOf 0 _ (k : Int) = fk from HFKE.out] at hcc5
          refine hK.out _ _ ⟨(pw_cell_below hb2 hHeld.1), (pw_cell_below hb2 hHeld.2.1), (pw_cell_below hb2 hHeld.2.2.1), (pw_cell_below hb2 hHeld.2.2.2)⟩ (fun hHeld => ?_)
          clear hK K
          refine norm_ (a' := ?_) ?_ ?_
          rotate_left
          ·show Act.put _ (some 80) _ = _
           simp only [Act.put, List.setIfInBounds_toArray, List.set_cons_zero, List.set_cons_succ, i64_w, i32_w]
           rfl
          refine pure_ (i := 11) (N := some 81) (v := ?_) (a' := ?_) #[true, true, true, true, true, true, true, true, true, true, true, true, false, false] rfl rfl (any_of HT_.out (by kernel_rfl)) (fun _ _ _ h => h) (Or.inl ⟨by rfl, ?_⟩) ?_ ?_
          rotate_left
          ·intro w'
           go_simp
           with_reducible rfl
          rotate_left
          ·simp only [Act.put, List.setIfInBounds_toArray, List.set_cons_zero, List.set_cons_succ, i64_w, i32_w]
           rfl
          refine pure_ (i := 12) (N := some 82) (v := ?_) (a' := ?_) #[true, true, true, true, true, true, true, true, true, true, true, true, true, false] rfl rfl (any_of HT_.out (by kernel_rfl)) (fun _ _ _ h => h) (Or.inl ⟨by rfl, ?_⟩) ?_ ?_
          rotate_left
          ·intro w'
           go_simp
           with_reducible rfl
          rotate_left
          ·simp only [Act.put, List.setIfInBounds_toArray, List.set_cons_zero, List.set_cons_succ, i64_w, i32_w]
           rfl
          refine last_ (i := 13) (N := none) #[true, true, true, true, true, true, true, true, true, true, true, true, true, true] rfl rfl (one_of HT_.out (by kernel_rfl)) (by decide) (fun K hK => ?_)
          refine skip_ (w1 := ?_) (by rfl) rfl ?_ ?_
          rotate_left
          ·go_simp
           rfl
          refine hK.out _ _ ?_
          clear hK K
          refine done_ (done_of HT_.out (by kernel_rfl)) ?_
          have hne : w.heap.size ≠ g8 := fun e => Kd.R_ne HFK.out HP7.out (by decide) (by rw [e]; simp [Value.ownBlock])
          have HR9 := Aside0.mk (show (Kd.int .i64).R 3 (w5.setCell ⟨g8, k, none⟩ (.int .i64 (mn fk y))) w.heap.size (fun _ => True) (.slice (some ⟨g8, 0, none⟩) l0.length cap8) (nf.take (k + 1) ++ far.drop (k + 1)) from by
           have h7 := Kd.R_putn (Kd.R_below HFK.out hB5) (k : Int) (mn fk y)
           rw [Int.toNat_natCast, splice_set nf far k _ (by rw [HNL.out, HFL.out]) (by rw [HFL.out]; exact hlt) HNA2.out] at h7
           exact h7)
          have HF9 := Aside0.mk (Kd.F_far (p := ⟨g8, k, none⟩) (Kd.F_below HPB.out hB5) (fun _ hk => hk) (.int .i64 (mn fk y)))
          have HS9 := Aside0.mk (Kd.S_far (p := ⟨g8, k, none⟩) (Kd.S_below HOUT7.out hB5) (fun _ hk => hk) (.int .i64 (mn fk y)))
          have HP9 := Aside0.mk (blk_far ((hB5.block _ (blk_lt HP7.out)).trans HP7.out) (p := ⟨g8, k, none⟩) hne (.int .i64 (mn fk y)))
          have HB9 := Aside0.mk (below_set (j := k) (v := .int .i64 (mn fk y)) (below_step HB7.out hB5) hg8)
          clear hHeld hcc5 hff5 hB5 hb2 hB3 hr4 hl4 hv hb hkk hpo hx3 hr3 hl3 hcfk hp0 hp1 hp2 hpc HFK HPB HOUT7 HP7 HB7 hne
          go_wp2
          go_roundw
          case rel => exact ⟨k + 1, by omega, by go_num, HR9, HF9, HS9, HP9, HB9⟩
          case measure => simp [intOf]; omega
         ·obtain rfl : k = l0.length := by omega
          have HR9 := HFK.out
          rw [List.take_of_length_le (by rw [HNL.out]; exact Nat.le_refl _), List.drop_of_length_le (by rw [HFL.out]; exact Nat.le_refl _), List.append_nil] at HR9
          go_wp2
          go_roundg (n + 1)
          case measure => have := HK.out; omega
          case rel => exact ⟨n, out ++ [pb], nf, ⟨rfl⟩, ⟨by have := HLN.out; simp; omega⟩, HNL, HNR, ⟨by rw [← HRUN2.out]; exact HRUN.out⟩, ⟨by have h := HOUT7.out; rw [show (out ++ [pb]).length = out.length + 1 by simp] at h; exact h⟩, ⟨HR9⟩, HP7, HB7⟩
end Go.Proofs.Ytgpdfalopdhjlaa.Q
end
section
namespace Go.Proofs.Ytgpdfalopdhjlaa.Q
open Go.RowKit Go.Proofs.YtgpdfalopdhjlaaW.PrintWords Go.Proofs.YtgpdfalopdhjlaaW.PrintLast Go.Proofs.YtgpdfalopdhjlaaW.PrintMore
attribute [local go_sem] max2_int min2_int max_two min_two max_three min_three max_four min_four   -- for this text's walks alone
set_option linter.unusedVariables false
set_option linter.unusedSimpArgs false
section
attribute [local go_sem] Oper.semAt_some
/-- the vectors that are told of -/
def trainIn (l : List (List Int)) (cuts : List Int) : Prop := (1 ≤ l.length ∧ l.length ≤ 4096) ∧ cuts.length ≤ 1000000 ∧ ∀ v ∈ l, Plain.isVec v ∧ v.length = (rd_L1 l 0).length
instance (l : List (List Int)) (cuts : List Int) : Decidable (trainIn l cuts) := by unfold trainIn; infer_instance
def trainWords (l : List (List Int)) (cuts : List Int) (words : Int) (is : List (Fin cuts.length)) : List (List (List Int)) := is.map (fun i => trainOf l (partAt cuts ((rd_L1 l 0).length : Int) i.val) words.toNat)
def trainRes (l : List (List Int)) (cuts : List Int) (words : Int) : Int × List Int × List (List (List Int)) × Int :=
 if words < 1 then (0, [], [], 1) else if 256 < words then (0, [], [], 2) else if cutOk cuts ((rd_L1 l 0).length : Int) then (((rd_L1 l 0).length : Int), cuts, trainWords l cuts words (List.finRange cuts.length), 0) else (0, [], [], 80)
def code_Train.f (l0 : List (List Int)) (l1 : List Int) (a2 : Int) : Option (Int × List Int × List (List (List Int)) × Int) := if trainIn l0 l1 then some (trainRes l0 l1 a2) else none
theorem code_alike.ev {l : List (List Int)} (hl : 1 ≤ l.length ∧ l.length ≤ 1000000) (h : ∀ v ∈ l, Plain.isVec v ∧ v.length = (rd_L1 l 0).length) : Ev (fun k => code_alike.f k l) true := by
 have h0 := (h _ (List.getElem_mem (show 0 < l.length by omega))).1
 rw [← rd_L1_at l 0 (by omega)] at h0
 have key : ∀ d i, i + d = l.length → Ev (fun k => code_alike.l0 k l l (l.length : Int) (i : Int)) true := by
  intro d
  induction d with
  | zero =>
   intro i hi
   refine Plain.ev_succ ?_
   simp only [code_alike.l0]
   exact Plain.ev_neg (by omega) (Plain.ev_some (decide_eq_true (by omega)))
  | succ d ih =>
   intro i hi
   have hv := h _ (List.getElem_mem (show i < l.length by omega))
   rw [← rd_L1_at l i (by omega)] at hv
   refine Plain.ev_succ ?_
   simp only [code_alike.l0]
   refine Plain.ev_pos (by omega) (Plain.ev_pos (by omega) (Plain.ev_pos (by omega) (Plain.ev_pos (by omega) ?_)))
   refine Plain.ev_ob (a := true) ?_ (Plain.ev_pos rfl ?_)
   ·unfold vector_Alike.f
    have hf : ∀ v, Plain.isVec v → vector_Valid.f v = some true := fun v hv => by
     unfold vector_Valid.f
     rw [if_pos (by have := hv.2.2; omega), decide_eq_true hv]
    have e0 : rd_L1 l ((0 : Nat) : Int) = rd_L1 l 0 := rfl
    rw [e0] at h0
    rw [if_pos (by omega), hf _ h0, hf _ hv.1]
    rfl
   ·rw [Plain.w64 (by omega) (by omega)]
    exact ih (i + 1) (by omega)
 exact key l.length 0 (by omega)
theorem train_cells {W : World} {g : Nat} {a b c : Value} (a' b' c' : Value) (h : W.heap[g]? = some (.cells #[a, b, c] 25 (0, 0))) : (((W.setCell ⟨g, 0, none⟩ a').setCell ⟨g, 1, none⟩ b').setCell ⟨g, 2, none⟩ c').heap[g]? = some (.cells #[a', b', c'] 25 (0, 0)) := blk_set (blk_set (blk_set h 0 a') 1 b') 2 c'
theorem train_below {w W : World} {g : Nat} (a' b' c' : Value) (h : Below w.heap.size w W) (hg : w.heap.size ≤ g) : Below w.heap.size w (((W.setCell ⟨g, 0, none⟩ a').setCell ⟨g, 1, none⟩ b').setCell ⟨g, 2, none⟩ c') := below_set (below_set (below_set h hg) hg) hg
theorem train_ret {tmps : Array Value} {W : World} {g : Nat} {x y z : Value} (ht : tmps.getD 6 undef = .pointer (some ⟨g, 0, none⟩)) (hc : W.heap[g]? = some (.cells #[x, y, z] 25 (0, 0))) : (results Try.f31 tmps).run Try.prog W = .ok (.tuple #[.agg #[x, y, z], tmps.getD 7 undef]) W :=
 results_ct rfl tmps W g 25 _ _ _ ht hc Try.underlying25 rfl (by kernel_rfl)
theorem train_boxes (w : World) (x y : Value) : (((w.alloc (.cells #[x] 39)).alloc (.cells #[y] 3)).alloc (.cells #[.int .i64 0, .slice none 0 0, .slice none 0 0] 25)).heap[w.heap.size + 1 + 1]? = some (.cells #[.int .i64 0, .slice none 0 0, .slice none 0 0] 25 (0, 0)) := by
 have h := blk_new ((w.alloc (.cells #[x] 39)).alloc (.cells #[y] 3)) (.cells #[.int .i64 0, .slice none 0 0, .slice none 0 0] 25)
 rwa [World.size_alloc, World.size_alloc] at h
theorem train_boxes_below (w : World) (x y : Value) : Below w.heap.size w (((w.alloc (.cells #[x] 39)).alloc (.cells #[y] 3)).alloc (.cells #[.int .i64 0, .slice none 0 0, .slice none 0 0] 25)) := below_alloc (below_alloc (below_alloc (Below.refl _ _) _) _) _
set_option maxHeartbeats 8000000 in
set_option maxRecDepth 100000 in
theorem code_Train.small (A0 : Option Addr) (c0 : Nat) (l0 : List (List Int)) (A1 : Option Addr) (c1 : Nat) (l1 : List Int) (a2 : Int) (w : World) (hr0 : Kd.C (Kd.slice 3 (Kd.int .i64)) w A0 l0.length l0) (hc0 : l0.length ≤ c0) (hin : trainIn l0 l1) (hw : a2 < 1) :
  Calls Try.prog 31 #[.slice A0 l0.length c0, .slice A1 l1.length c1, .int .i64 a2] w fun e w' => e = .returned (.tuple #[.agg #[.int .i64 0, .slice none 0 0, .slice none 0 0], .int .i64 1]) ∧ Below w.heap.size w w' := by
 obtain ⟨k, hk⟩ := (code_alike.ev ⟨hin.1.1, by have := hin.1.2; omega⟩ hin.2.2).rounds
 have HC := Aside0.mk (fun W hW => code_alike.calls k A0 c0 l0 true W hW hc0 hk)
 have HR := Aside0.mk hr0
 clear hk hin hr0
 have hdec : decide (a2 < 1) = true := decide_eq_true hw
 clear hw
 go_enter Try.func31, Try.ntmps31
 go_wp2_with fail
 refine (HC.out _ (Kd.C_alloc (Kd.C_alloc (Kd.C_alloc HR.out _) _) _)).mono ?_
 rintro e w1 ⟨rfl, hd⟩
 obtain ⟨n, rfl⟩ := hd.out
 clear hd
 go_wp2
 exact bodyPost_ret (train_ret rfl (train_cells _ _ _ (blk_drewN (train_boxes w _ _) n))) rfl ⟨rfl, train_below _ _ _ (pw_below_drewN (train_boxes_below w _ _) n) (by omega)⟩
set_option maxHeartbeats 8000000 in
set_option maxRecDepth 100000 in
theorem code_Train.great (A0 : Option Addr) (c0 : Nat) (l0 : List (List Int)) (A1 : Option Addr) (c1 : Nat) (l1 : List Int) (a2 : Int) (w : World) (hr0 : Kd.C (Kd.slice 3 (Kd.int .i64)) w A0 l0.length l0) (hc0 : l0.length ≤ c0) (hin : trainIn l0 l1) (hw : 256 < a2) :
  Calls Try.prog 31 #[.slice A0 l0.length c0, .slice A1 l1.length c1, .int .i64 a2] w fun e w' => e = .returned (.tuple #[.agg #[.int .i64 0, .slice none 0 0, .slice none 0 0], .int .i64 2]) ∧ Below w.heap.size w w' := by
 obtain ⟨k, hk⟩ := (code_alike.ev ⟨hin.1.1, by have := hin.1.2; omega⟩ hin.2.2).rounds
 have HC := Aside0.mk (fun W hW => code_alike.calls k A0 c0 l0 true W hW hc0 hk)
 have HR := Aside0.mk hr0
 have hdec0 : decide (a2 < 1) = false := decide_eq_false (by omega)
 have hdec1 : decide (4096 < (l0.length : Int)) = false := decide_eq_false (by have := hin.1.2; omega)
 have hdec2 : decide (256 < a2) = true := decide_eq_true hw
 clear hk hin hr0
 clear hw
 go_enter Try.func31, Try.ntmps31
 go_wp2_with fail
 refine (HC.out _ (Kd.C_alloc (Kd.C_alloc (Kd.C_alloc HR.out _) _) _)).mono ?_
 rintro e w1 ⟨rfl, hd⟩
 obtain ⟨n, rfl⟩ := hd.out
 clear hd
 go_wp2
 exact bodyPost_ret (train_ret rfl (train_cells _ _ _ (blk_drewN (train_boxes w _ _) n))) rfl ⟨rfl, train_below _ _ _ (pw_below_drewN (train_boxes_below w _ _) n) (by omega)⟩
set_option maxHeartbeats 8000000 in
set_option maxRecDepth 100000 in
theorem code_Train.wrong (A0 : Option Addr) (c0 : Nat) (l0 : List (List Int)) (A1 : Option Addr) (c1 : Nat) (l1 : List Int) (a2 : Int) (w : World) (hr0 : Kd.C (Kd.slice 3 (Kd.int .i64)) w A0 l0.length l0) (hc0 : l0.length ≤ c0) (hr1 : Kd.C (Kd.int .i64) w A1 l1.length l1) (hc1 : l1.length ≤ c1) (hin : trainIn l0 l1) (hw : 1 ≤ a2 ∧ a2 ≤ 256) (hcut : ¬ cutOk l1 ((rd_L1 l0 0).length : Int)) :
  Calls Try.prog 31 #[.slice A0 l0.length c0, .slice A1 l1.length c1, .int .i64 a2] w fun e w' => e = .returned (.tuple #[.agg #[.int .i64 0, .slice none 0 0, .slice none 0 0], .int .i64 80]) ∧ Below w.heap.size w w' := by
 obtain ⟨k, hk⟩ := (code_alike.ev ⟨hin.1.1, by have := hin.1.2; omega⟩ hin.2.2).rounds
 have HC := Aside0.mk (fun W hW => code_alike.calls k A0 c0 l0 true W hW hc0 hk)
 obtain ⟨k2, hk2⟩ := (code_cut.ev l1 ((rd_L1 l0 0).length : Int) hin.2.1).rounds
 rw [decide_eq_false hcut] at hk2
 have HT := Aside0.mk (fun W hW => code_cut.calls k2 A1 c1 l1 ((rd_L1 l0 0).length : Int) false W hW hc1 hk2)
 have HR := Aside0.mk hr0
 have HR1 := Aside0.mk hr1
 have hdec0 : decide (a2 < 1) = false := decide_eq_false (by omega)
 have hdec1 : decide (4096 < (l0.length : Int)) = false := decide_eq_false (by have := hin.1.2; omega)
 have hdec2 : decide (256 < a2) = false := decide_eq_false (by omega)
 have hl0 : (0 : Int) < (l0.length : Int) := by have := hin.1.1; omega
 obtain ⟨ad, A3, c3, e3, hx3, hl3, hr3⟩ := at_L1 hr0 0 (by omega) hl0
 cases e3
 clear hk hk2 hin hr0 hr1 hw hcut hr3 hl3
 generalize rd_L1 l0 0 = v0 at *
 go_enter Try.func31, Try.ntmps31
 go_wp2_with fail
 refine (HC.out _ (Kd.C_alloc (Kd.C_alloc (Kd.C_alloc HR.out _) _) _)).mono ?_
 rintro e w1 ⟨rfl, hd⟩
 obtain ⟨n, rfl⟩ := hd.out
 clear hd
 have hx4 := pw_cell_below (pw_below_drewN (train_boxes_below w (.slice (some ad) l0.length c0) (.int .i64 a2)) n) hx3
 clear hx3
 rw [show ad.add (Int.toNat 0) = ad from by simp [go_sem]] at hx4
 go_wp2_with fail
 refine (HT.out _ (Kd.C_drewN (Kd.C_alloc (Kd.C_alloc (Kd.C_alloc HR1.out _) _) _) n)).mono ?_
 rintro e w1 ⟨rfl, hd⟩
 obtain ⟨n2, rfl⟩ := hd.out
 clear hd
 go_wp2
 exact bodyPost_ret (train_ret rfl (train_cells _ _ _ (blk_drewN (train_boxes w _ _) (n + n2)))) rfl ⟨rfl, train_below _ _ _ (pw_below_drewN (train_boxes_below w _ _) (n + n2)) (by omega)⟩
theorem train_keep {α : Type} {d : Kd α} {e b : Nat} {ok : Nat → Prop} {v : Value} {xs : List α} {W : World} {g : Nat} {x y z : Value} (x' y' z' : Value) (h : d.R e W b ok v xs) (hg : W.heap[g]? = some (.cells #[x, y, z] 25 (0, 0))) (ht : ∀ q, q ∈ e :: d.E → q ≠ 25) : d.R e (((W.setCell ⟨g, 0, none⟩ x').setCell ⟨g, 1, none⟩ y').setCell ⟨g, 2, none⟩ z') b ok v xs :=
 Kd.R_set (Kd.R_set (Kd.R_set h hg ht 0 x') (blk_set hg 0 x') ht 1 y') (blk_set (blk_set hg 0 x') 1 y') ht 2 z'
theorem grown_dead {α : Type} {d : Kd α} {e b D : Nat} {ok : Nat → Prop} {v : Value} {xs : List α} {W : World} (h : d.R e W b ok v xs) (hk : W.heap[D]? = some (.deferred (some []))) : d.R e (W.putObj D (.deferred none)) b ok v xs :=
 Kd.R_mono (Kd.R_grown (Kd.R_bound h) (grownBy_putObj' W D (.deferred none)) (fun k hq e => by
  obtain ⟨_, _, _, q, _, cells, hc⟩ := hq
  cases e
  rw [hk] at hc
  cases hc)) (fun _ hk => hk.1)
theorem own_box3 {α β : Type} (d : Kd α) (e T M g : Nat) (a b : Value) (f : β → List α) : OwnFrom M (fun s W => ∃ vo, W.heap[g]? = some (.cells #[a, b, vo] T (0, 0)) ∧ d.R e W M (fun k => k ≠ g) vo (f s)) := by
 rintro s X Y row ⟨vo, h1, h2⟩ hg hr
 have hne : ∀ k cells t, X.heap[k]? = some (.cells cells t (0, 0)) → some k ≠ row := fun k cells t h e => by
  obtain ⟨_, o, ho, hc⟩ := hr k e.symm
  rw [h] at ho
  cases ho
  cases hc
 exact ⟨vo, (hg.block g (blk_lt h1) (hne _ _ _ h1)).trans h1, Kd.R_mono (Kd.R_grown (Kd.R_bound h2) hg (fun k hk => by
  obtain ⟨_, _, _, q, _, cells, hc⟩ := hk
  exact hne k _ _ hc)) (fun _ hk => hk.1)⟩
theorem train_fits {l : List (List Int)} {cuts : List Int} {a2 : Int} (h : trainIn l cuts) (hw : 1 ≤ a2 ∧ a2 ≤ 256) (hcut : cutOk cuts ((rd_L1 l 0).length : Int)) {i : Nat} (hi : i < cuts.length) : trainFits l (partAt cuts ((rd_L1 l 0).length : Int) i).1 (partAt cuts ((rd_L1 l 0).length : Int) i).2.1 (partAt cuts ((rd_L1 l 0).length : Int) i).2.2 a2 := by
 have hp := part_range hcut hi
 exact ⟨h.1, ⟨hp.1, hp.2.1⟩, hw, fun v hv => ⟨(h.2.2 v hv).1, by have := (h.2.2 v hv).2; omega⟩⟩
theorem train_clone2 {cuts : List Int} {d : Int} (h : cutOk cuts d) : slices_Clone_int_int.f cuts = some cuts := if_pos (by have := h.2.1.2; omega)
def code_Train.T7 : Bool × List (List Nat × List Nat) := (true, [([], []), ([0], [0]), ([1], [1]), ([2], [2]), ([], []), ([4], [4]), ([3, 5], [3, 5]), ([], []), ([7, 6, 5, 0, 1, 2, 3, 4, 5, 6, 7], [6, 7])])
def code_Train.B7 : List Nat := [0, 1, 3, 7, 0, 16, 63, 0, 255]
theorem code_Train.tab7 : rtab .any (opsOf Try.f31 7) = code_Train.T7 := by kernel_rfl
theorem code_Train.bits7 : waitsOk code_Train.T7.2 code_Train.B7 = true := by kernel_rfl
def code_Train.T10 : Bool × List (List Nat × List Nat) := (true, [([], []), ([0], [0]), ([], []), ([], []), ([], []), ([2, 3, 4], [2, 3, 4]), ([5], [5]), ([1, 6, 5], [1, 6]), ([0, 1, 2, 3, 4, 5, 6, 7], []), ([8, 7, 7, 0, 1, 2, 3, 4, 5, 6, 7], [7, 8])])
def code_Train.B10 : List Nat := [0, 1, 0, 0, 0, 28, 60, 127, 255, 511]
theorem code_Train.tab10 : rtab .any (opsOf Try.f31 10) = code_Train.T10 := by kernel_rfl
theorem code_Train.bits10 : waitsOk code_Train.T10.2 code_Train.B10 = true := by kernel_rfl
set_option maxHeartbeats 8000000 in
set_option maxRecDepth 100000 in
theorem code_Train.good (A0 : Option Addr) (c0 : Nat) (l0 : List (List Int)) (A1 : Option Addr) (c1 : Nat) (l1 : List Int) (a2 : Int) (v0 : List Int) (w : World) (hr0 : Kd.C (Kd.slice 3 (Kd.int .i64)) w A0 l0.length l0) (hc0 : l0.length ≤ c0) (hr1 : Kd.C (Kd.int .i64) w A1 l1.length l1) (hc1 : l1.length ≤ c1) (hin : trainIn l0 l1) (hw : 1 ≤ a2 ∧ a2 ≤ 256) (hv0 : rd_L1 l0 0 = v0) (hcut : cutOk l1 (v0.length : Int)) :
  Calls Try.prog 31 #[.slice A0 l0.length c0, .slice A1 l1.length c1, .int .i64 a2] w fun e w' => ∃ v1_ v2_ : Value, e = .returned (.tuple #[.agg #[.int .i64 (v0.length : Int), v1_, v2_], .int .i64 0]) ∧ Kd.R (Kd.int .i64) 3 w' w.heap.size (fun _ => True) v1_ l1 ∧ Kd.R (Kd.slice 22 (Kd.slice 3 (Kd.int .i64))) 39 w' w.heap.size (fun k_ => some k_ ≠ (v1_ : Value).ownBlock) v2_ (trainWords l0 l1 a2 (List.finRange l1.length)) ∧ Below w.heap.size w w' := by
 obtain ⟨k, hk⟩ := (code_alike.ev ⟨hin.1.1, by have := hin.1.2; omega⟩ hin.2.2).rounds
 have HC := Aside0.mk (fun W hW => code_alike.calls k A0 c0 l0 true W hW hc0 hk)
 obtain ⟨k2, hk2⟩ := (code_cut.ev l1 (v0.length : Int) hin.2.1).rounds
 rw [decide_eq_true hcut] at hk2
 have HT := Aside0.mk (fun W hW => code_cut.calls k2 A1 c1 l1 (v0.length : Int) true W hW hc1 hk2)
 have HR := Aside0.mk hr0
 have HR1 := Aside0.mk hr1
 have HFIT := Aside0.mk (fun i hi => train_fits hin hw (by rw [hv0]; exact hcut) (i := i) hi)
 rw [hv0] at HFIT
 have hclone := train_clone2 hcut
 have HCUT := Aside0.mk hcut
 have hdec0 : decide (a2 < 1) = false := decide_eq_false (by omega)
 have hdec1 : decide (4096 < (l0.length : Int)) = false := decide_eq_false (by have := hin.1.2; omega)
 have hdec2 : decide (256 < a2) = false := decide_eq_false (by omega)
 have hl0 : (0 : Int) < (l0.length : Int) := by have := hin.1.1; omega
 obtain ⟨ad, A3, c3, e3, hx3, hl3, hr3⟩ := at_L1 hr0 0 (by omega) hl0
 cases e3
 rw [show ad.add (Int.toNat 0) = ad from by simp [go_sem]] at hx3
 rw [hv0] at hx3
 have HX := Aside0.mk hx3
 have HTW := Aside0.mk (fun is => show trainWords l0 l1 a2 is = is.map (fun i => trainOf l0 (partAt l1 ((rd_L1 l0 0).length : Int) i.val) a2.toNat) from rfl)
 rw [hv0] at HTW
 have hcl : l1.length ≤ 8 := hcut.2.1.2
 have hl0n : 0 < l0.length := hin.1.1
 clear hk hk2 hin hr0 hr1 hw hcut hr3 hl3 hx3 hv0
 refine (callsIn_wide (n := 6)).1 ?_
 refine callsIn_of_wp_marks Try.func31 rfl trivial ?_ rfl
 simp only [Try.ntmps31, List.size_toArray, List.length_cons, List.length_nil, Nat.reduceAdd, Nat.reduceSub, Array.replicate_succ, Array.replicate_zero, List.push_toArray, List.append_toArray, List.nil_append, List.cons_append]
 gi_wp2_with (refine ⟨trivial, ?_⟩; first | (gi_at_call 59; refine (callsIn_wide.2 (HC.out _ (Kd.C_alloc (Kd.C_alloc (Kd.C_alloc HR.out _) _) _))).mono ?_; rintro e w' ⟨rfl, hd⟩; obtain ⟨n, rfl⟩ := hd.out; clear hd; have hx4 := pw_cell_below (pw_below_drewN (train_boxes_below w (.slice (some ad) l0.length c0) (.int .i64 a2)) n) HX.out) | (gi_at_call 38; refine (callsIn_wide.2 (HT.out _ (Kd.C_drewN (Kd.C_alloc (Kd.C_alloc (Kd.C_alloc HR1.out _) _) _) n))).mono ?_; rintro e w' ⟨rfl, hd⟩; obtain ⟨n2, rfl⟩ := hd.out; clear hd hx4))
 rename_i K hKK
 have b0 := blk_drewN (blk_alloc (blk_alloc (blk_new w (.cells #[.slice (some ad) l0.length c0] 39)) (.cells #[.int .i64 a2] 3)) (.cells #[.int .i64 0, .slice none 0 0, .slice none 0 0] 25)) (n + n2)
 have b1 := blk_drewN (blk_alloc (blk_new (w.alloc (.cells #[.slice (some ad) l0.length c0] 39)) (.cells #[.int .i64 a2] 3)) (.cells #[.int .i64 0, .slice none 0 0, .slice none 0 0] 25)) (n + n2)
 have b2 := blk_drewN (train_boxes w (.slice (some ad) l0.length c0) (.int .i64 a2)) (n + n2)
 have hbw := pw_below_drewN (train_boxes_below w (.slice (some ad) l0.length c0) (.int .i64 a2)) (n + n2)
 have hsz : ((((w.alloc (.cells #[.slice (some ad) l0.length c0] 39)).alloc (.cells #[.int .i64 a2] 3)).alloc (.cells #[.int .i64 0, .slice none 0 0, .slice none 0 0] 25)).drewN (n + n2)).heap.size = w.heap.size + 3 := by show (((w.alloc _).alloc _).alloc _).heap.size = _; rw [World.size_alloc, World.size_alloc, World.size_alloc]
 rw [World.size_alloc] at b1
 obtain ⟨W3, hW3⟩ : ∃ W3, ((((w.alloc (.cells #[.slice (some ad) l0.length c0] 39)).alloc (.cells #[.int .i64 a2] 3)).alloc (.cells #[.int .i64 0, .slice none 0 0, .slice none 0 0] 25)).drewN (n + n2)) = W3 := ⟨_, rfl⟩
 rw [hW3] at b0 b1 b2 hbw hsz ⊢
 clear hW3
 simp only [Nat.add_assoc, Nat.reduceAdd] at b2 ⊢
 obtain ⟨bl, hbl⟩ : ∃ bl, bl = w.heap.size := ⟨_, rfl⟩
 obtain ⟨bw, hbw1⟩ : ∃ bw, bw = w.heap.size + 1 := ⟨_, rfl⟩
 obtain ⟨br, hbr⟩ : ∃ br, br = w.heap.size + 2 := ⟨_, rfl⟩
 rw [← hbw1] at b1 ⊢
 rw [← hbr] at b2 ⊢
 rw [← hbl] at b0 ⊢
 have hx4 := pw_cell_below hbw HX.out
 have hbc0 : W3.cell? ⟨bl, 0, none⟩ = some (.slice (some ad) l0.length c0) := (blk_cell b0 0).trans rfl
 have HBL := Aside0.mk hbl
 have HBW1 := Aside0.mk hbw1
 have HBR := Aside0.mk hbr
 have HSZ := Aside0.mk hsz
 clear hbl hbw1 hbr hsz
 refine norm_only (wpIn_wide.2 ?_)
 refine start_ (n := 9) (S := fun w' => w'.cell? ⟨bl, 0, none⟩ = some (.slice (some ad) l0.length c0) ∧ w'.cell? ad = some (.slice A3 v0.length c3)) (ds := [8]) #[false, false, false, false, false, false, false, false, false] (by kernel_rfl) rfl rfl ⟨hbc0, hx4⟩ (fun hHeld => ?_)
 refine with_tabW code_Train.tab7 code_Train.bits7 (fun HT_ HW_ => ?_)
 refine pure_ (i := 4) (N := some 41) (v := ?_) (a' := ?_) #[false, false, false, false, true, false, false, false, false] rfl rfl (any_of HT_.out (by kernel_rfl)) (fun _ _ _ h => h) (Or.inl ⟨by rfl, ?_⟩) ?_ ?_
 rotate_left
 ·intro w'
  go_simp
  with_reducible rfl
 rotate_left
 ·simp only [Act.put, List.setIfInBounds_toArray, List.set_cons_zero, List.set_cons_succ, i64_w, i32_w]
  rfl
 refine take_ (i := 0) (N := some 37) (v := ?_) (a' := ?_) #[true, false, false, false, true, false, false, false, false] rfl rfl (take_ofW HT_.out HW_.out (by kernel_rfl)) (fun _ _ _ h => h) (Or.inl ⟨by rfl, ?_⟩) hHeld ?_ ?_
 rotate_left
 ·rintro w' ⟨s0, s1⟩
  go_simp
  with_reducible rfl
 rotate_left
 ·simp only [Act.put, List.setIfInBounds_toArray, List.set_cons_zero, List.set_cons_succ, i64_w, i32_w]
  rfl
 refine pure_ (i := 1) (N := some 38) (v := ?_) (a' := ?_) #[true, true, false, false, true, false, false, false, false] rfl rfl (any_of HT_.out (by kernel_rfl)) (fun _ _ _ h => h) (Or.inl ⟨by rfl, ?_⟩) ?_ ?_
 rotate_left
 ·intro w'
  go_simp
  with_reducible rfl
 rotate_left
 ·simp only [Act.put, List.setIfInBounds_toArray, List.set_cons_zero, List.set_cons_succ, i64_w, i32_w]
  rfl
 refine take_ (i := 2) (N := some 39) (v := ?_) (a' := ?_) #[true, true, true, false, true, false, false, false, false] rfl rfl (take_ofW HT_.out HW_.out (by kernel_rfl)) (fun _ _ _ h => h) (Or.inl ⟨by rfl, ?_⟩) hHeld ?_ ?_
 rotate_left
 ·rintro w' ⟨s0, s1⟩
  go_simp
  with_reducible rfl
 rotate_left
 ·simp only [Act.put, List.setIfInBounds_toArray, List.set_cons_zero, List.set_cons_succ, i64_w, i32_w]
  rfl
 refine pure_ (i := 3) (N := some 40) (v := ?_) (a' := ?_) #[true, true, true, true, true, false, false, false, false] rfl rfl (any_of HT_.out (by kernel_rfl)) (fun _ _ _ h => h) (Or.inl ⟨by rfl, ?_⟩) ?_ ?_
 rotate_left
 ·intro w'
  go_simp
  with_reducible rfl
 rotate_left
 ·simp only [Act.put, List.setIfInBounds_toArray, List.set_cons_zero, List.set_cons_succ, i64_w, i32_w]
  rfl
 refine join_ (σ := Option Addr × Nat × Nat) 1 #[true, true, true, true, true, true, true, true, false] (fun s => [(42, .slice s.1 l1.length s.2.1), (43, .agg #[.int .i64 (v0.length : Int), .slice s.1 l1.length s.2.1, .slice none 0 0]), (8, .pointer (some ⟨s.2.2, 0, none⟩))]) (fun s w' => w'.heap[s.2.2]? = some (Obj.cells #[Value.int IntKind.i64 0, Value.slice none 0 0, Value.slice none 0 0] 25 (0, 0)) ∧ W3.heap.size ≤ s.2.2 ∧ Kd.R (Kd.int .i64) 3 w' W3.heap.size (fun _ => True) (.slice s.1 l1.length s.2.1) l1 ∧ Below W3.heap.size W3 w' ∧ w'.cell? ⟨bl, 0, none⟩ = some (.slice (some ad) l0.length c0) ∧ w'.cell? ad = some (.slice A3 v0.length c3)) ?_ ?_
 rotate_left
 ·intro hCont
  refine two_ (i := 5) (j := 7) (Ni := some 42) (Nj := some 8) #[true, true, true, true, true, true, false, false, false] #[true, true, true, true, true, false, false, true, false] rfl rfl rfl rfl (two_of HT_.out (by kernel_rfl)) (by decide) (by decide) (fun K hK => ?_) (fun K hK => ?_)
  ·skip
   refine goes_ Try.func60 (by kernel_rfl) rfl #[.slice A1 l1.length c1] (by rfl) rfl rfl (by simp only [List.map_toArray, List.map_cons, List.map_nil]; rfl) ?_
   with_reducible refine (slices_Clone_int_int.calls _ _ _ _ _ (Kd.C_below HR1.out (below_drew1 hbw)) hc1 hclone).mono ?_
   rintro e w5 ⟨v5, rfl, ho5, hb⟩
   refine ⟨_, rfl, ?_⟩
   obtain ⟨A5, c5, rfl⟩ := Kd.R_slice ho5
   have hBl := below_step (below_drew1 (Below.refl W3.heap.size W3)) hb
   replace ho5 := Kd.R_lower (base' := W3.heap.size) ho5 (Nat.le_refl _)
   refine hK.out _ _ ⟨(pw_cell_below hb hHeld.1), (pw_cell_below hb hHeld.2)⟩ (fun hHeld => ?_)
   clear hK K
   refine norm_ (a' := ?_) ?_ ?_
   rotate_left
   ·show Act.put _ (some 42) _ = _
    simp only [Act.put, List.setIfInBounds_toArray, List.set_cons_zero, List.set_cons_succ, i64_w, i32_w]
    rfl
   refine pure_ (i := 6) (N := some 43) (v := ?_) (a' := ?_) #[true, true, true, true, true, true, true, false, false] rfl rfl (any_of HT_.out (by kernel_rfl)) (fun _ _ _ h => h) (Or.inl ⟨by rfl, ?_⟩) ?_ ?_
   rotate_left
   ·intro w'
    go_simp
    with_reducible rfl
   rotate_left
   ·simp only [Act.put, List.setIfInBounds_toArray, List.set_cons_zero, List.set_cons_succ, i64_w, i32_w]
    rfl
   refine one_ (i := 7) (N := some 8) #[true, true, true, true, true, true, true, true, false] rfl rfl (one_of HT_.out (by kernel_rfl)) (by decide) (fun K hK => ?_)
   refine value_ (w1 := ?_) (v := ?_) (by rfl) rfl ?_ ?_
   rotate_left 2
   ·go_simp
    constructor
    ·rfl
    ·rfl
   have hcel := blk_new w5 (Obj.cells #[Value.int IntKind.i64 0, Value.slice none 0 0, Value.slice none 0 0] 25)
   have hjl : W3.heap.size ≤ w5.heap.size := hBl.size
   have hBl2 := below_alloc hBl (Obj.cells #[Value.int IntKind.i64 0, Value.slice none 0 0, Value.slice none 0 0] 25)
   replace ho5 := Kd.R_alloc ho5 (Obj.cells #[Value.int IntKind.i64 0, Value.slice none 0 0, Value.slice none 0 0] 25)
   clear hBl
   have hBl := hBl2
   clear hBl2
   have hh0 := pw_cell_below (below_alloc (Below.refl w5.heap.size w5) (Obj.cells #[Value.int IntKind.i64 0, Value.slice none 0 0, Value.slice none 0 0] 25)) hHeld.1
   have hh1 := pw_cell_below (below_alloc (Below.refl w5.heap.size w5) (Obj.cells #[Value.int IntKind.i64 0, Value.slice none 0 0, Value.slice none 0 0] 25)) hHeld.2
   generalize w5.alloc (Obj.cells #[Value.int IntKind.i64 0, Value.slice none 0 0, Value.slice none 0 0] 25) = w6 at *
   refine hK.out _ _ ⟨hh0, hh1⟩ (fun hHeld => ?_)
   clear hK K
   refine norm_ (a' := ?_) ?_ ?_
   rotate_left
   ·show Act.put _ (some 8) _ = _
    simp only [Act.put, List.setIfInBounds_toArray, List.set_cons_zero, List.set_cons_succ, i64_w, i32_w]
    rfl
   exact norm_ (by simp only [putAll, Act.put, List.setIfInBounds_toArray, List.set_cons_zero, List.set_cons_succ]) (hCont (A5, c5, w5.heap.size) _ ⟨hcel, hjl, ho5, hBl, hHeld⟩)
  ·skip
   refine value_ (w1 := ?_) (v := ?_) (by rfl) rfl ?_ ?_
   rotate_left 2
   ·go_simp
    constructor
    ·rfl
    ·rfl
   have hcel : (W3.alloc (Obj.cells #[Value.int IntKind.i64 0, Value.slice none 0 0, Value.slice none 0 0] 25)).drew.heap[W3.heap.size]? = some (Obj.cells #[Value.int IntKind.i64 0, Value.slice none 0 0, Value.slice none 0 0] 25) := blk_new W3 _
   have hBl := below_drew1 (below_alloc (Below.refl W3.heap.size W3) (Obj.cells #[Value.int IntKind.i64 0, Value.slice none 0 0, Value.slice none 0 0] 25))
   have hjl : W3.heap.size ≤ W3.heap.size := Nat.le_refl _
   have hh0 : (W3.alloc (Obj.cells #[Value.int IntKind.i64 0, Value.slice none 0 0, Value.slice none 0 0] 25)).drew.cell? ⟨bl, 0, none⟩ = some (.slice (some ad) l0.length c0) := pw_cell_below hBl hHeld.1
   have hh1 : (W3.alloc (Obj.cells #[Value.int IntKind.i64 0, Value.slice none 0 0, Value.slice none 0 0] 25)).drew.cell? ad = some (.slice A3 v0.length c3) := pw_cell_below hBl hHeld.2
   generalize (W3.alloc (Obj.cells #[Value.int IntKind.i64 0, Value.slice none 0 0, Value.slice none 0 0] 25)).drew = w6 at *
   refine hK.out _ _ ⟨hh0, hh1⟩ (fun hHeld => ?_)
   clear hK K
   refine norm_ (a' := ?_) ?_ ?_
   rotate_left
   ·show Act.put _ (some 8) _ = _
    simp only [Act.put, List.setIfInBounds_toArray, List.set_cons_zero, List.set_cons_succ, i64_w, i32_w]
    rfl
   refine one_ (i := 5) (N := some 42) #[true, true, true, true, true, true, false, true, false] rfl rfl (one_of HT_.out (by kernel_rfl)) (by decide) (fun K hK => ?_)
   refine goes_ Try.func60 (by kernel_rfl) rfl #[.slice A1 l1.length c1] (by rfl) rfl rfl (by simp only [List.map_toArray, List.map_cons, List.map_nil]; rfl) ?_
   with_reducible refine (slices_Clone_int_int.calls _ _ _ _ _ (Kd.C_below HR1.out (below_step hbw hBl)) hc1 hclone).mono ?_
   rintro e w5 ⟨v5, rfl, ho5, hb⟩
   refine ⟨_, rfl, ?_⟩
   obtain ⟨A5, c5, rfl⟩ := Kd.R_slice ho5
   have hBl2 := below_step hBl hb
   have hcel2 := (hb.block _ (blk_lt hcel)).trans hcel
   replace ho5 := Kd.R_lower (base' := W3.heap.size) ho5 hBl.size
   clear hBl hcel
   have hBl := hBl2
   have hcel := hcel2
   clear hBl2 hcel2
   refine hK.out _ _ ⟨(pw_cell_below hb hHeld.1), (pw_cell_below hb hHeld.2)⟩ (fun hHeld => ?_)
   clear hK K
   refine norm_ (a' := ?_) ?_ ?_
   rotate_left
   ·show Act.put _ (some 42) _ = _
    simp only [Act.put, List.setIfInBounds_toArray, List.set_cons_zero, List.set_cons_succ, i64_w, i32_w]
    rfl
   refine pure_ (i := 6) (N := some 43) (v := ?_) (a' := ?_) #[true, true, true, true, true, true, true, true, false] rfl rfl (any_of HT_.out (by kernel_rfl)) (fun _ _ _ h => h) (Or.inl ⟨by rfl, ?_⟩) ?_ ?_
   rotate_left
   ·intro w'
    go_simp
    with_reducible rfl
   rotate_left
   ·simp only [Act.put, List.setIfInBounds_toArray, List.set_cons_zero, List.set_cons_succ, i64_w, i32_w]
    rfl
   exact norm_ (by simp only [putAll, Act.put, List.setIfInBounds_toArray, List.set_cons_zero, List.set_cons_succ]) (hCont (A5, c5, W3.heap.size) _ ⟨hcel, hjl, ho5, hBl, hHeld⟩)
 rintro ⟨A5, c5, j⟩ w5 ⟨hcel, hjl, ho5, hBl, hHeld⟩
 dsimp only at hcel hjl ho5 ⊢
 have hcj0 : w5.cell? ⟨j, 0, none⟩ = some (.int .i64 0) := (blk_cell hcel 0).trans rfl
 have hcj1 : w5.cell? ⟨j, 1, none⟩ = some (.slice none 0 0) := (blk_cell hcel 1).trans rfl
 have hcj2 : w5.cell? ⟨j, 2, none⟩ = some (.slice none 0 0) := (blk_cell hcel 2).trans rfl
 have hfj0 := blk_frozen hcel 0
 have hfj1 := blk_frozen hcel 1
 have hfj2 := blk_frozen hcel 2
 refine norm_ (a' := ?_) ?_ ?_
 rotate_left
 ·simp only [putAll, Act.put, List.setIfInBounds_toArray, List.set_cons_zero, List.set_cons_succ]
  rfl
 refine last_ (i := 8) (N := none) #[true, true, true, true, true, true, true, true, true] rfl rfl (one_of HT_.out (by kernel_rfl)) (by decide) (fun K hK => ?_)
 refine skip_ (w1 := ?_) (by rfl) rfl ?_ ?_
 rotate_left
 ·go_simp
  rfl
 refine hK.out _ _ ?_
 clear hK K
 refine done_ (done_of HT_.out (by kernel_rfl)) ?_
 have hj5 := train_cells (.int .i64 (v0.length : Int)) (.slice A5 l1.length c5) (.slice none 0 0) hcel
 have hB5 := train_below (.int .i64 (v0.length : Int)) (.slice A5 l1.length c5) (.slice none 0 0) hBl hjl
 have HR5 := Aside0.mk (train_keep (.int .i64 (v0.length : Int)) (.slice A5 l1.length c5) (.slice none 0 0) ho5 hcel (by decide))
 clear hcel hBl ho5 hHeld hcj0 hcj1 hcj2 hfj0 hfj1 hfj2 hbc0 hx4
 generalize (((w5.setCell ⟨j, 0, none⟩ (.int .i64 (v0.length : Int))).setCell ⟨j, 1, none⟩ (.slice A5 l1.length c5)).setCell ⟨j, 2, none⟩ (.slice none 0 0)) = W5 at *
 have hW5 := hB5.size
 have hj5l := blk_lt hj5
 have hbl5 : bl < W3.heap.size := blk_lt b0
 have hbw5 : bw < W3.heap.size := blk_lt b1
 have hbr5 : br < W3.heap.size := blk_lt b2
 have b0' := (hB5.block bl hbl5).trans b0
 have b1' := (hB5.block bw hbw5).trans b1
 have b2' := (hB5.block br hbr5).trans b2
 have hq0 : W5.cell? ⟨j, 0, none⟩ = some (.int .i64 (v0.length : Int)) := (blk_cell hj5 0).trans rfl
 show K _ _
 gi_wp2_with (refine ⟨trivial, ?_⟩; gi_at_call 39; refine (callsIn_wide.2 (code_parts.called _ _ _ _ _)).mono ?_; rintro e w' ⟨rfl, rfl⟩)
 have ha := blk_allocs [.cells #[.slice A1 l1.length c1] 22, .cells #[.int .i64 (v0.length : Int)] 3] W5
 simp only [List.foldl_cons, List.foldl_nil] at ha
 have b4 := (ha 0 (by simp)).1
 have b5 := (ha 1 (by simp)).1
 obtain ⟨_, hsz, hbw0⟩ := ha 0 (by simp)
 clear ha hq0
 simp only [List.length_cons, List.length_nil, Nat.reduceAdd, List.getElem_cons_zero, List.getElem_cons_succ, Nat.add_zero] at b4 b5 hsz
 obtain ⟨W0, hW0⟩ : ∃ W0, (W5.alloc (.cells #[.slice A1 l1.length c1] 22)).alloc (.cells #[.int .i64 (v0.length : Int)] 3) = W0 := ⟨_, rfl⟩
 rw [hW0] at b4 b5 hsz hbw0 ⊢
 clear hW0
 have hbw2 : Below w.heap.size w W0 := hbw.trans ((hB5.mono (by have := HSZ.out; omega)).trans (hbw0.mono (by have := HSZ.out; omega)))
 have b0'' := (hbw0.block bl (by omega)).trans b0'
 have b1'' := (hbw0.block bw (by omega)).trans b1'
 have b2'' := (hbw0.block br (by omega)).trans b2'
 have hj'' := (hbw0.block j hj5l).trans hj5
 have HR0 := Aside0.mk (Kd.R_mono (Kd.R_types (Kd.R_lower (Kd.R_below HR5.out hbw0) (base' := w.heap.size) (by have := HSZ.out; omega)) hj'' (by decide)) (ok' := fun k => k ≠ j) (fun _ hk => hk.2))
 obtain ⟨bc, hbc⟩ : ∃ bc, bc = W5.heap.size := ⟨_, rfl⟩
 obtain ⟨bd, hbd⟩ : ∃ bd, bd = W5.heap.size + 1 := ⟨_, rfl⟩
 rw [← hbd] at b5 ⊢
 rw [← hbc] at b4 ⊢
 have hJ0 : ∃ vo, W0.heap[j]? = some (.cells #[.int .i64 (v0.length : Int), .slice A5 l1.length c5, vo] 25 (0, 0)) ∧ (Kd.slice 22 (Kd.slice 3 (Kd.int .i64))).R 39 W0 W0.heap.size (fun k => k ≠ j) vo (trainWords l0 l1 a2 []) := ⟨_, hj'', Kd.R_nil _ _ _ _ _⟩
 refine code_parts.loop 6 (by decide) j bc bd A1 c1 l1 (v0.length : Int) rfl rfl (by omega) (by omega) (by omega) ((blk_cell b4 0).trans rfl) ((blk_cell b5 0).trans rfl)
  (Kd.F_mono (Kd.F_below (Kd.C_F (Kd.heap_int _) HR1.out) hbw2) (fun k hk => ⟨by have := HSZ.out; omega, by have := HSZ.out; omega⟩))
  (fun pre W => ∃ vo, W.heap[j]? = some (.cells #[.int .i64 (v0.length : Int), .slice A5 l1.length c5, vo] 25 (0, 0)) ∧ (Kd.slice 22 (Kd.slice 3 (Kd.int .i64))).R 39 W W0.heap.size (fun k => k ≠ j) vo (trainWords l0 l1 a2 pre)) (fun _ _ => False)
  (own_box3 _ _ _ _ _ _ _ _) (fun _ _ _ _ hs _ _ => hs) hJ0
  (fun x Bx => { tmps := #[Value.slice (some ad) l0.length c0, Value.slice A1 l1.length c1, Value.int IntKind.i64 a2,
     Value.pointer (some { block := bl, off := 0 }), undef, Value.pointer (some { block := bw, off := 0 }),
     Value.pointer (some { block := br, off := 0 }), Value.int IntKind.i64 0,
     Value.pointer (some { block := j, off := 0 }), Value.pointer (some { block := Bx, off := 0 }), Value.bool false, Value.slice (some ad) l0.length c0,
     Value.bool true, Value.bool false, Value.bool false, Value.int IntKind.i64 a2, Value.bool false,
     Value.bool false, undef, Value.bool false, Value.slice (some ad) l0.length c0,
     Value.int IntKind.i64 l0.length, Value.bool false, Value.bool false, Value.int IntKind.i64 a2,
     Value.bool false, Value.bool false, undef, Value.bool false, Value.slice A1 l1.length c1,
     Value.slice (some ad) l0.length c0, Value.pointer (some ad), Value.slice A3 v0.length c3,
     Value.int IntKind.i64 v0.length, Value.bool true, Value.bool false, undef,
     Value.slice (some ad) l0.length c0, Value.pointer (some ad), Value.slice A3 v0.length c3,
     Value.int IntKind.i64 v0.length, Value.slice A1 l1.length c1, Value.slice A5 l1.length c5,
     Value.agg #[Value.int IntKind.i64 v0.length, Value.slice A5 l1.length c5, Value.slice none 0 0],
     Value.slice A1 l1.length c1, Value.pointer (some { block := j, off := 0 }), Value.int IntKind.i64 v0.length,
     Value.func (Fn.func 63) #[] #[Value.pointer (some { block := bc, off := 0 }), Value.pointer (some { block := bd, off := 0 })],
     partV x, undef, undef, undef, undef, undef, undef, undef, undef, undef, undef], defers := [] }) ?assign ?body ?done ?stop
 case assign =>
  rintro l ⟨x0, x1, x2⟩ W K hK
  clear hbc hbd hsz hJ0
  have hz67 := Try.zeroValue67
  gi_wp2
  rfl
 case stop => exact fun _ _ _ _ _ h => h.elim
 case done =>
  rintro D W hD ⟨vo, hgv, hR⟩ hK h0 hk
  obtain ⟨A7, c7, rfl⟩ := Kd.R_slice hR
  have hbr1 := HBR.out
  have hsz3 := HSZ.out
  have hB0 := below_of hbw2 hK h0 (by omega) (by omega)
  have hb2W := (hK.block br (by omega) (by omega)).trans b2''
  have HRW := Aside0.mk (Kd.R_step HR0.out (fun k hk hlt => hK.block k hlt hk))
  have HOL := Aside0.mk (Kd.R_lt HR0.out)
  have hbD : br ≠ D := by omega
  have hDw : w.heap.size ≤ D := by omega
  have hrw : w.heap.size ≤ br := by omega
  have hW0w : w.heap.size ≤ W0.heap.size := by omega
  clear hbc hbd hsz hJ0 hbr1 hsz3 hbw0 hbw2 hbw b0 b1 b2 b0' b1' b2' b0'' b1'' b2'' b4 b5 hj5 hj'' hB5 hHeld hK h0
  have hgc0 : W.cell? ⟨j, 0, none⟩ = some (.int .i64 (v0.length : Int)) := (blk_cell hgv 0).trans rfl
  have hgc1 : W.cell? ⟨j, 1, none⟩ = some (.slice A5 l1.length c5) := (blk_cell hgv 1).trans rfl
  have hgc2 : W.cell? ⟨j, 2, none⟩ = some (.slice A7 (trainWords l0 l1 a2 (List.finRange l1.length)).length c7) := (blk_cell hgv 2).trans rfl
  have hrc0 : W.cell? ⟨br, 0, none⟩ = some (.int .i64 0) := (blk_cell hb2W 0).trans rfl
  have hrc1 : W.cell? ⟨br, 1, none⟩ = some (.slice none 0 0) := (blk_cell hb2W 1).trans rfl
  have hrc2 : W.cell? ⟨br, 2, none⟩ = some (.slice none 0 0) := (blk_cell hb2W 2).trans rfl
  have hrf0 := blk_frozen hb2W 0
  have hrf1 := blk_frozen hb2W 1
  have hrf2 := blk_frozen hb2W 2
  have hu25 := Try.underlying25
  have hbD2 : D ≠ br := fun e => hbD e.symm
  gi_wp2
  have hk2 : (((W.setCell ⟨br, 0, none⟩ (.int .i64 (v0.length : Int))).setCell ⟨br, 1, none⟩ (.slice A5 l1.length c5)).setCell ⟨br, 2, none⟩ (.slice A7 (trainWords l0 l1 a2 (List.finRange l1.length)).length c7)).heap[D]? = some (.deferred (some [])) := (Below.heap_setCell _ _ _ _ hbD2).trans ((Below.heap_setCell _ _ _ _ hbD2).trans ((Below.heap_setCell _ _ _ _ hbD2).trans hk))
  refine ⟨by simp, .inl ⟨_, _, rfl, run_takeDeferred hk2, ?_⟩⟩
  refine ⟨_, train_ret (g := br) rfl ((World.putObj_heap_other hbD).trans (train_cells _ _ _ hb2W)), _, _, rfl, ?_, ?_, ?_⟩
  ·exact Kd.R_mono (grown_dead (train_keep _ _ _ HRW.out hb2W (by decide)) hk2) (fun _ _ => trivial)
  ·exact Kd.R_mono (Kd.R_lower (Kd.R_bound (grown_dead (train_keep _ _ _ hR hb2W (by decide)) hk2)) hW0w) (fun k hk e => by have := hk.2.1; have := HOL.out k e.symm; omega)
  ·exact (train_below _ _ _ hB0 hrw).grown (grownBy_putObj' _ D (.deferred none)) (by have := (train_below (.int .i64 (v0.length : Int)) (.slice A5 l1.length c5) (.slice A7 (trainWords l0 l1 a2 (List.finRange l1.length)).length c7) hB0 hrw).size; omega) (fun k e => by cases e; omega)
 case body =>
  rintro l pre i hi Bx W hlt hBx hX ⟨vo, hgv, hR⟩ hK h0
  have hbre := HBR.out
  have hble := HBL.out
  have hbwe := HBW1.out
  have hsz3 := HSZ.out
  have hB0 := below_of hbw2 hK h0 (by omega) (by omega)
  have HBW := Aside0.mk hB0
  have hWM : W0.heap.size ≤ W.heap.size := hK.size
  have hgM : j < W.heap.size := blk_lt hgv
  obtain ⟨x1, x2, hpt⟩ : ∃ x1 x2, partAt l1 (v0.length : Int) i = ((i : Int), x1, x2) := ⟨_, _, rfl⟩
  have hfit := HFIT.out i hi
  have htw2 : trainWords l0 l1 a2 (pre ++ [⟨i, hi⟩]) = trainWords l0 l1 a2 pre ++ [trainOf l0 (partAt l1 (v0.length : Int) i) a2.toNat] := by rw [HTW.out, HTW.out, List.map_append]; rfl
  rw [hpt] at hX hfit htw2 ⊢
  dsimp only at hX hfit
  have htr : code_train.f l0 (i : Int) x1 x2 a2 = some (trainOf l0 ((i : Int), x1, x2) a2.toNat) := if_pos hfit
  have hln : (trainWords l0 l1 a2 pre).length ≤ 8 := by rw [HTW.out, List.length_map]; omega
  obtain ⟨A7, c7, rfl⟩ := Kd.R_slice hR
  have hcb : W.cell? ⟨bl, 0, none⟩ = some (.slice (some ad) l0.length c0) := (blk_cell ((hK.block bl (by omega) (by omega)).trans b0'') 0).trans rfl
  have hcw : W.cell? ⟨bw, 0, none⟩ = some (.int .i64 a2) := (blk_cell ((hK.block bw (by omega) (by omega)).trans b1'') 0).trans rfl
  have hp0 : W.cell? ⟨Bx, 0, none⟩ = some (.int .i64 (i : Int)) := (blk_cell hX 0).trans rfl
  have hp1 : W.cell? ⟨Bx, 1, none⟩ = some (.int .i64 x1) := (blk_cell hX 1).trans rfl
  have hp2 : W.cell? ⟨Bx, 2, none⟩ = some (.int .i64 x2) := (blk_cell hX 2).trans rfl
  have hcg : W.cell? ⟨j, 2, none⟩ = some (.slice A7 (trainWords l0 l1 a2 pre).length c7) := (blk_cell hgv 2).trans rfl
  have HTW2 := Aside0.mk htw2
  clear htw2 hfit
  generalize trainOf l0 ((i : Int), x1, x2) a2.toNat = row at *
  generalize trainWords l0 l1 a2 pre = tl at *
  have HRT := Aside0.mk hR
  have HGV := Aside0.mk hgv
  have HOKP := Aside0.mk (show ∀ k, W.heap.size ≤ k → k ≠ j ∧ some k ≠ (Value.slice A7 tl.length c7).ownBlock from fun k hk => ⟨by omega, fun e => by have := Kd.R_lt hR k e.symm; omega⟩)
  clear hbc hbd hsz hJ0 hbre hble hbwe hsz3 hbw0 hbw2 hbw b0 b1 b2 b0' b1' b2' b0'' b1'' b2'' b4 b5 hj5 hj'' hB5 hHeld hK h0 hR hgv hX hB0 hpt
  refine wpIn_block ?_
  refine Plain.start_in (n := 10) (S := fun w' => w'.cell? ⟨j, 2, none⟩ = some (.slice A7 tl.length c7) ∧ w'.cell? ⟨bl, 0, none⟩ = some (.slice (some ad) l0.length c0) ∧ w'.cell? ⟨Bx, 0, none⟩ = some (.int .i64 (i : Int)) ∧ w'.cell? ⟨Bx, 1, none⟩ = some (.int .i64 x1) ∧ w'.cell? ⟨Bx, 2, none⟩ = some (.int .i64 x2) ∧ w'.cell? ⟨bw, 0, none⟩ = some (.int .i64 a2)) (ds := [7, 9]) #[false, false, false, false, false, false, false, false, false, false] (by kernel_rfl) rfl rfl (by rfl) (fun _ _ h => h) ⟨hcg, hcb, hp0, hp1, hp2, hcw⟩ (fun hHeld => ?_)
  refine with_tabW code_Train.tab10 code_Train.bits10 (fun HT_ HW_ => ?_)
  refine pure_ (i := 0) (N := some 49) (v := ?_) (a' := ?_) #[true, false, false, false, false, false, false, false, false, false] rfl rfl (any_of HT_.out (by kernel_rfl)) (fun _ _ _ h => h) (Or.inl ⟨by rfl, ?_⟩) ?_ ?_
  rotate_left
  ·intro w'
   go_simp
   with_reducible rfl
  rotate_left
  ·simp only [Act.put, List.setIfInBounds_toArray, List.set_cons_zero, List.set_cons_succ, i64_w, i32_w]
   rfl
  refine take_ (i := 1) (N := some 50) (v := ?_) (a' := ?_) #[true, true, false, false, false, false, false, false, false, false] rfl rfl (take_ofW HT_.out HW_.out (by kernel_rfl)) (fun _ _ _ h => h) (Or.inl ⟨by rfl, ?_⟩) hHeld ?_ ?_
  rotate_left
  ·rintro w' ⟨s0, s1, s2, s3, s4, s5⟩
   go_simp
   with_reducible rfl
  rotate_left
  ·simp only [Act.put, List.setIfInBounds_toArray, List.set_cons_zero, List.set_cons_succ, i64_w, i32_w]
   rfl
  refine take_ (i := 2) (N := some 51) (v := ?_) (a' := ?_) #[true, true, true, false, false, false, false, false, false, false] rfl rfl (take_ofW HT_.out HW_.out (by kernel_rfl)) (fun _ _ _ h => h) (Or.inl ⟨by rfl, ?_⟩) hHeld ?_ ?_
  rotate_left
  ·rintro w' ⟨s0, s1, s2, s3, s4, s5⟩
   go_simp
   with_reducible rfl
  rotate_left
  ·simp only [Act.put, List.setIfInBounds_toArray, List.set_cons_zero, List.set_cons_succ, i64_w, i32_w]
   rfl
  refine take_ (i := 3) (N := some 52) (v := ?_) (a' := ?_) #[true, true, true, true, false, false, false, false, false, false] rfl rfl (take_ofW HT_.out HW_.out (by kernel_rfl)) (fun _ _ _ h => h) (Or.inl ⟨by rfl, ?_⟩) hHeld ?_ ?_
  rotate_left
  ·rintro w' ⟨s0, s1, s2, s3, s4, s5⟩
   go_simp
   with_reducible rfl
  rotate_left
  ·simp only [Act.put, List.setIfInBounds_toArray, List.set_cons_zero, List.set_cons_succ, i64_w, i32_w]
   rfl
  refine take_ (i := 4) (N := some 53) (v := ?_) (a' := ?_) #[true, true, true, true, true, false, false, false, false, false] rfl rfl (take_ofW HT_.out HW_.out (by kernel_rfl)) (fun _ _ _ h => h) (Or.inl ⟨by rfl, ?_⟩) hHeld ?_ ?_
  rotate_left
  ·rintro w' ⟨s0, s1, s2, s3, s4, s5⟩
   go_simp
   with_reducible rfl
  rotate_left
  ·simp only [Act.put, List.setIfInBounds_toArray, List.set_cons_zero, List.set_cons_succ, i64_w, i32_w]
   rfl
  refine one_ (i := 5) (N := some 54) #[true, true, true, true, true, true, false, false, false, false] rfl rfl (one_of HT_.out (by kernel_rfl)) (by decide) (fun K hK => ?_)
  refine goes_ Try.func61 (by kernel_rfl) rfl #[.slice (some ad) l0.length c0, .agg #[.int .i64 (i : Int), .int .i64 x1, .int .i64 x2], .int .i64 a2] (by rfl) rfl rfl (by simp only [List.map_toArray, List.map_cons, List.map_nil]; rfl) ?_
  with_reducible refine (code_train.calls _ _ _ _ _ _ _ _ _ (Kd.C_below (Kd.C_below HR.out HBW.out) (below_drew1 (Below.refl W.heap.size W))) hc0 htr).mono ?_
  rintro e w3 ⟨v3, rfl, hs3, hb⟩
  refine ⟨_, rfl, ?_⟩
  obtain ⟨A4, c4, rfl⟩ := Kd.S_slice hs3
  have hB3 := below_step (below_drew1 (Below.refl W.heap.size W)) hb
  have hM3 : W0.heap.size ≤ w3.heap.size := Nat.le_trans hWM hB3.size
  have hj3 := (hB3.block j hgM).trans HGV.out
  have HT3 := Aside0.mk (Kd.R_below HRT.out hB3)
  have HP3 := Aside0.mk (Kd.M_row (Kd.R_mono (Kd.R_lower (Kd.R_bound (Kd.S_R hs3)) (base' := W0.heap.size) hWM) (ok' := fun k => W.heap.size ≤ k) (fun k hk => hk.2.1)))
  have hF3 : ∀ k, w3.heap.size ≤ k → k ≠ j := fun k hk => by have := hB3.size; omega
  have HF3 := Aside0.mk hF3
  clear hF3 hs3
  refine hK.out _ _ ⟨(pw_cell_below hb hHeld.1), (pw_cell_below hb hHeld.2.1), (pw_cell_below hb hHeld.2.2.1), (pw_cell_below hb hHeld.2.2.2.1), (pw_cell_below hb hHeld.2.2.2.2.1), (pw_cell_below hb hHeld.2.2.2.2.2)⟩ (fun hHeld => ?_)
  clear hK K
  refine norm_ (a' := ?_) ?_ ?_
  rotate_left
  ·show Act.put _ (some 54) _ = _
   simp only [Act.put, List.setIfInBounds_toArray, List.set_cons_zero, List.set_cons_succ, i64_w, i32_w]
   rfl
  refine one_ (i := 6) (N := some 55) #[true, true, true, true, true, true, true, false, false, false] rfl rfl (one_of HT_.out (by kernel_rfl)) (by decide) (fun K hK => ?_)
  refine value_ (w1 := ?_) (v := ?_) (by rfl) rfl ?_ ?_
  rotate_left 2
  ·go_simp
   constructor
   ·rfl
   ·rfl
  refine hK.out _ _ ⟨(pw_cell_below (below_alloc (Below.refl _ _) _) hHeld.1), (pw_cell_below (below_alloc (Below.refl _ _) _) hHeld.2.1), (pw_cell_below (below_alloc (Below.refl _ _) _) hHeld.2.2.1), (pw_cell_below (below_alloc (Below.refl _ _) _) hHeld.2.2.2.1), (pw_cell_below (below_alloc (Below.refl _ _) _) hHeld.2.2.2.2.1), (pw_cell_below (below_alloc (Below.refl _ _) _) hHeld.2.2.2.2.2)⟩ (fun hHeld => ?_)
  clear hK K
  refine norm_ (a' := ?_) ?_ ?_
  rotate_left
  ·show Act.put _ (some 55) _ = _
   simp only [Act.put, List.setIfInBounds_toArray, List.set_cons_zero, List.set_cons_succ, i64_w, i32_w]
   rfl
  refine last_ (i := 7) (N := some 56) #[true, true, true, true, true, true, true, true, false, false] rfl rfl (one_of HT_.out (by kernel_rfl)) (by decide) (fun K hK => ?_)
  refine Kd.R_append_step (Kd.slice 22 (Kd.slice 3 (Kd.int .i64))) (w0 := w3) W0.heap.size (by rfl) (.tmp 50) (.tmp 55) 23 39 (.slice none 0 0) 24 rfl Try.underlying23 info39 rfl (by decide) (by omega) (.slice A7 tl.length c7) tl row [.slice A4 row.length c4] (fun k => k ≠ j) (fun k => W.heap.size ≤ k) rfl rfl HP3.out HOKP.out HF3.out HT3.out (Below.refl _ _) hM3 (by omega) ?_
  intro v1 w8 ho hb8 hg8 hat
  obtain ⟨A8, c8, rfl⟩ := Kd.R_slice ho
  have hj8 := (hg8.block j (blk_lt hj3) (fun e => Kd.R_away HT3.out (fun k hk => hk) e)).trans hj3
  have hcc8 : w8.cell? ⟨j, 2, none⟩ = some (.slice A7 tl.length c7) := (blk_cell hj8 2).trans rfl
  have hff8 := blk_frozen hj8 2
  refine hK.out _ _ ?_
  clear hK K
  refine norm_ (a' := ?_) ?_ ?_
  rotate_left
  ·show Act.put _ (some 56) _ = _
   simp only [Act.put, List.setIfInBounds_toArray, List.set_cons_zero, List.set_cons_succ, i64_w, i32_w]
   rfl
  refine pure_ (i := 8) (N := some 57) (v := ?_) (a' := ?_) #[true, true, true, true, true, true, true, true, true, false] rfl rfl (any_of HT_.out (by kernel_rfl)) (fun _ _ _ h => h) (Or.inl ⟨by rfl, ?_⟩) ?_ ?_
  rotate_left
  ·intro w'
   go_simp
   with_reducible rfl
  rotate_left
  ·simp only [Act.put, List.setIfInBounds_toArray, List.set_cons_zero, List.set_cons_succ, i64_w, i32_w]
   rfl
  refine last_ (i := 9) (N := none) #[true, true, true, true, true, true, true, true, true, true] rfl rfl (one_of HT_.out (by kernel_rfl)) (by decide) (fun K hK => ?_)
  refine skip_ (w1 := ?_) (by rfl) rfl ?_ ?_
  rotate_left
  ·go_simp
   rfl
  refine hK.out _ _ ?_
  clear hK K
  refine done_ (done_of HT_.out (by kernel_rfl)) ?_
  refine ⟨(Kr.below hWM hB3).trans ((Kr.grown hg8 (fun k e => ⟨Kd.R_base HRT.out k e, by obtain ⟨cells, hc⟩ := Kd.R_typed HT3.out k e; exact ⟨cells, _, hc⟩⟩) hM3).trans (Kr.set ⟨j, 2, none⟩ (.inl rfl) _)), _, blk_set hj8 2 _, ?_⟩
  rw [HTW2.out]
  have h7 := ho
  rw [show (tl ++ [row]).length = tl.length + 1 by simp] at h7
  exact Kd.R_far (p := ⟨j, 2, none⟩) h7 (fun _ hk => hk) _
theorem code_Train.calls (A0 : Option Addr) (c0 : Nat) (l0 : List (List Int)) (A1 : Option Addr) (c1 : Nat) (l1 : List Int) (a2 : Int) (r1 : Int) (r2 : List Int) (r3 : List (List (List Int))) (r4 : Int) (w : World) (hr0 : Kd.C (Kd.slice 3 (Kd.int .i64)) w A0 l0.length l0) (hc0 : l0.length ≤ c0) (hr1 : Kd.C (Kd.int .i64) w A1 l1.length l1) (hc1 : l1.length ≤ c1) (h : code_Train.f l0 l1 a2 = some (r1, r2, r3, r4)) :
  Calls Try.prog 31 #[.slice A0 l0.length c0, .slice A1 l1.length c1, .int .i64 a2] w fun e w' => ∃ v1_ v2_ : Value, e = .returned (.tuple #[.agg #[.int .i64 r1, v1_, v2_], .int .i64 r4]) ∧ Kd.R (Kd.int .i64) 3 w' w.heap.size (fun _ => True) v1_ r2 ∧ Kd.R (Kd.slice 22 (Kd.slice 3 (Kd.int .i64))) 39 w' w.heap.size (fun k_ => some k_ ≠ (v1_ : Value).ownBlock) v2_ r3 ∧ Below w.heap.size w w' := by
 have hin : trainIn l0 l1 := by
  unfold code_Train.f at h
  split at h
  ·assumption
  ·cases h
 have hres : trainRes l0 l1 a2 = (r1, r2, r3, r4) := by
  unfold code_Train.f at h
  rw [if_pos hin] at h
  exact Option.some.inj h
 clear h
 unfold trainRes at hres
 by_cases h1 : a2 < 1
 ·rw [if_pos h1] at hres
  cases hres
  refine (code_Train.small A0 c0 l0 A1 c1 l1 a2 w hr0 hc0 hin h1).mono ?_
  rintro e w' ⟨he, hb⟩
  exact ⟨_, _, he, Kd.R_nil _ _ _ _ _, Kd.R_nil _ _ _ _ _, hb⟩
 ·rw [if_neg h1] at hres
  by_cases h2 : 256 < a2
  ·rw [if_pos h2] at hres
   cases hres
   refine (code_Train.great A0 c0 l0 A1 c1 l1 a2 w hr0 hc0 hin h2).mono ?_
   rintro e w' ⟨he, hb⟩
   exact ⟨_, _, he, Kd.R_nil _ _ _ _ _, Kd.R_nil _ _ _ _ _, hb⟩
  ·rw [if_neg h2] at hres
   by_cases h3 : cutOk l1 ((rd_L1 l0 0).length : Int)
   ·rw [if_pos h3] at hres
    cases hres
    exact code_Train.good A0 c0 l0 A1 c1 l1 a2 _ w hr0 hc0 hr1 hc1 hin ⟨by omega, by omega⟩ rfl h3
   ·rw [if_neg h3] at hres
    cases hres
    refine (code_Train.wrong A0 c0 l0 A1 c1 l1 a2 w hr0 hc0 hr1 hc1 hin ⟨by omega, by omega⟩ h3).mono ?_
    rintro e w' ⟨he, hb⟩
    exact ⟨_, _, he, Kd.R_nil _ _ _ _ _, Kd.R_nil _ _ _ _ _, hb⟩
end
end Go.Proofs.Ytgpdfalopdhjlaa.Q
end
section
namespace Go.Proofs.Ytgpdfalopdhjlaa.Q
open Go.RowKit Go.Proofs.YtgpdfalopdhjlaaW.PrintWords Go.Proofs.YtgpdfalopdhjlaaW.PrintLast Go.Proofs.YtgpdfalopdhjlaaW.PrintMore
attribute [local go_sem] max2_int min2_int max_two min_two max_three min_three max_four min_four   -- for this text's walks alone
set_option linter.unusedVariables false
set_option linter.unusedSimpArgs false
mutual
def r8_Same.j0 : Nat → Bool → Int → List Int → List (List (List Int)) → Int → List Int → List (List (List Int)) → Option (Bool)
 | 0, _, _, _, _, _, _, _ => none
 | k + 1, x28, x156000, x156001, x156002, x157000, x157001, x157002 => if x28 = true then (some false) else (r8_Same.l0 k 0 x156000 x156001 x156002 x157000 x157001 x157002)
def r8_Same.l0 : Nat → Int → Int → List Int → List (List (List Int)) → Int → List Int → List (List (List Int)) → Option (Bool)
 | 0, _, _, _, _, _, _, _ => none
 | k + 1, x5, x156000, x156001, x156002, x157000, x157001, x157002 => if x5 < (x156002.length : Int) then (if 0 ≤ x5 then (if x5 < (x157002.length : Int) then ((r8_SameRows.f k (rd_L2 x156002 x5) (rd_L2 x157002 x5)).bind fun t160 => (if t160 = true then (r8_Same.l0 k (wrap64 (x5 + 1)) x156000 x156001 x156002 x157000 x157001 x157002) else (some false))) else (none)) else (none)) else (some true)
end
def r8_Same.f (k : Nat) (a0_0 : Int) (l0_1 : List Int) (l0_2 : List (List (List Int))) (a1_0 : Int) (l1_1 : List Int) (l1_2 : List (List (List Int))) : Option (Bool) := if a0_0 = a1_0 then ((r4_Same.f k l0_1 l1_1).bind fun t157 => (if t157 = true then (r8_Same.j0 k ((l0_2.length : Int) != (l1_2.length : Int)) a0_0 l0_1 l0_2 a1_0 l1_1 l1_2) else (r8_Same.j0 k true a0_0 l0_1 l0_2 a1_0 l1_1 l1_2))) else (r8_Same.j0 k true a0_0 l0_1 l0_2 a1_0 l1_1 l1_2)
theorem r8_Same.mono_l : ∀ k, (∀ y0 y1 y2 y3 y4 y5 y6, LeO (r8_Same.j0 k y0 y1 y2 y3 y4 y5 y6) (r8_Same.j0 (k + 1) y0 y1 y2 y3 y4 y5 y6)) ∧ (∀ y0 y1 y2 y3 y4 y5 y6, LeO (r8_Same.l0 k y0 y1 y2 y3 y4 y5 y6) (r8_Same.l0 (k + 1) y0 y1 y2 y3 y4 y5 y6))
 | 0 => ⟨fun _ _ _ _ _ _ _ r h => by simp [r8_Same.j0] at h, fun _ _ _ _ _ _ _ r h => by simp [r8_Same.l0] at h⟩
 | k + 1 => by
  obtain ⟨ih0, ih1⟩ := r8_Same.mono_l k
  refine ⟨?_, ?_⟩
  ·intro y0 y1 y2 y3 y4 y5 y6
   unfold r8_Same.j0
   repeat' first
   | (with_reducible exact ih0 _ _ _ _ _ _ _)
   | (with_reducible exact ih1 _ _ _ _ _ _ _)
   | (with_reducible exact r4_Same.mono _ _ _)
   | (with_reducible exact r8_SameRows.mono _ _ _)
   | (with_reducible exact LeO.refl _)
   | (with_reducible exact LeO.none _)
   | (with_reducible refine LeO.ite ?_ ?_)
   | (with_reducible refine LeO.bind ?_ (fun _ => ?_))
   | exact ih0 _ _ _ _ _ _ _
   | exact ih1 _ _ _ _ _ _ _
   | exact r4_Same.mono _ _ _
   | exact r8_SameRows.mono _ _ _
   | exact LeO.none _
   | refine LeO.ite ?_ ?_
   | refine LeO.bind ?_ (fun _ => ?_)
  ·intro y0 y1 y2 y3 y4 y5 y6
   unfold r8_Same.l0
   repeat' first
   | (with_reducible exact ih0 _ _ _ _ _ _ _)
   | (with_reducible exact ih1 _ _ _ _ _ _ _)
   | (with_reducible exact r4_Same.mono _ _ _)
   | (with_reducible exact r8_SameRows.mono _ _ _)
   | (with_reducible exact LeO.refl _)
   | (with_reducible exact LeO.none _)
   | (with_reducible refine LeO.ite ?_ ?_)
   | (with_reducible refine LeO.bind ?_ (fun _ => ?_))
   | exact ih0 _ _ _ _ _ _ _
   | exact ih1 _ _ _ _ _ _ _
   | exact r4_Same.mono _ _ _
   | exact r8_SameRows.mono _ _ _
   | exact LeO.none _
   | refine LeO.ite ?_ ?_
   | refine LeO.bind ?_ (fun _ => ?_)
theorem r8_Same.mono : ∀ a0 a1 a2 a3 a4 a5 k, LeO (r8_Same.f k a0 a1 a2 a3 a4 a5) (r8_Same.f (k + 1) a0 a1 a2 a3 a4 a5) := by
 intro a0 a1 a2 a3 a4 a5 k
 obtain ⟨ih0, ih1⟩ := r8_Same.mono_l k
 unfold r8_Same.f
 repeat' first
   | (with_reducible exact ih0 _ _ _ _ _ _ _)
   | (with_reducible exact ih1 _ _ _ _ _ _ _)
   | (with_reducible exact r4_Same.mono _ _ _)
   | (with_reducible exact r8_SameRows.mono _ _ _)
   | (with_reducible exact LeO.refl _)
   | (with_reducible exact LeO.none _)
   | (with_reducible refine LeO.ite ?_ ?_)
   | (with_reducible refine LeO.bind ?_ (fun _ => ?_))
   | exact ih0 _ _ _ _ _ _ _
   | exact ih1 _ _ _ _ _ _ _
   | exact r4_Same.mono _ _ _
   | exact r8_SameRows.mono _ _ _
   | exact LeO.none _
   | refine LeO.ite ?_ ?_
   | refine LeO.bind ?_ (fun _ => ?_)
set_option maxHeartbeats 8000000 in
set_option maxRecDepth 100000 in
theorem r8_Same.calls (k : Nat) (a0_0 : Int) (A0_1 : Option Addr) (c0_1 : Nat) (l0_1 : List Int) (A0_2 : Option Addr) (c0_2 : Nat) (l0_2 : List (List (List Int))) (a1_0 : Int) (A1_1 : Option Addr) (c1_1 : Nat) (l1_1 : List Int) (A1_2 : Option Addr) (c1_2 : Nat) (l1_2 : List (List (List Int))) (r : Bool) (w : World) (hr0_1 : Kd.C (Kd.int .i64) w A0_1 l0_1.length l0_1) (hc0_1 : l0_1.length ≤ c0_1) (hr0_2 : Kd.C (Kd.slice 22 (Kd.slice 3 (Kd.int .i64))) w A0_2 l0_2.length l0_2) (hc0_2 : l0_2.length ≤ c0_2) (hr1_1 : Kd.C (Kd.int .i64) w A1_1 l1_1.length l1_1) (hc1_1 : l1_1.length ≤ c1_1) (hr1_2 : Kd.C (Kd.slice 22 (Kd.slice 3 (Kd.int .i64))) w A1_2 l1_2.length l1_2) (hc1_2 : l1_2.length ≤ c1_2) (h : r8_Same.f k a0_0 l0_1 l0_2 a1_0 l1_1 l1_2 = some r) :
  Calls Try.prog 33 #[.agg #[.int .i64 a0_0, .slice A0_1 l0_1.length c0_1, .slice A0_2 l0_2.length c0_2], .agg #[.int .i64 a1_0, .slice A1_1 l1_1.length c1_1, .slice A1_2 l1_2.length c1_2]] w fun e w' => e = .returned (.bool r) ∧ Below w.heap.size w w' := by
 have hu25 := Try.underlying25
 have HR0_1 := Aside0.mk hr0_1
 have HC0_1 := Aside0.mk hc0_1
 clear hr0_1 hc0_1
 have HR0_2 := Aside0.mk hr0_2
 have HC0_2 := Aside0.mk hc0_2
 clear hr0_2 hc0_2
 have HR1_1 := Aside0.mk hr1_1
 have HC1_1 := Aside0.mk hc1_1
 clear hr1_1 hc1_1
 have HR1_2 := Aside0.mk hr1_2
 have HC1_2 := Aside0.mk hc1_2
 clear hr1_2 hc1_2
 have HB := Aside0.mk (Below.refl w.heap.size w)
 have H : (if a0_0 = a1_0 then ((r4_Same.f k l0_1 l1_1).bind fun t157 => (if t157 = true then (r8_Same.j0 k ((l0_2.length : Int) != (l1_2.length : Int)) a0_0 l0_1 l0_2 a1_0 l1_1 l1_2) else (r8_Same.j0 k true a0_0 l0_1 l0_2 a1_0 l1_1 l1_2))) else (r8_Same.j0 k true a0_0 l0_1 l0_2 a1_0 l1_1 l1_2)) = some r := h
 clear h
 have HC3 := Aside0.mk H
 clear H
 go_enter Try.func33, Try.ntmps33
 go_upto_region 1 with (first | ((with_reducible refine gate_dst (N := 2) rfl ?_); (try (refine gate_guard (by rfl) ?_; dsimp only)); refine box_event ?hg (N := 2) ?hd (cs := #[.int .i64 a0_0, .slice A0_1 l0_1.length c0_1, .slice A0_2 l0_2.length c0_2]) (t := 25) ?hr ?_; (case hd => rfl); (case hg => rfl); (case hr => first | (go_simp; done) | (go_simp; rfl)); intro gb155 hg w4 hbox hb; have n0_ := Aside0.mk (below_step (by repeat (first | (with_reducible first | exact HB.out | apply below_alloc | apply pw_below_drewN | apply below_drew1) | exact HB.out)) hb); have n1_ := Aside0.mk (hbox); have n2_ := Aside0.mk ((by rw [hg]; exact (below_size (by repeat (first | (with_reducible first | exact HB.out | apply below_alloc | apply pw_below_drewN | apply below_drew1) | exact HB.out))) : w.heap.size ≤ gb155)); have n3_ := Aside0.mk ((by rw [hg]; exact (below_size (by repeat (first | (with_reducible first | exact HB.out | apply below_alloc | apply pw_below_drewN | apply below_drew1) | exact HB.out))) : w.heap.size ≤ gb155)); clear HB; have HB := n0_; have BK155 := n1_; have GW155 := n2_; have GE155 := n3_; clear n0_ n1_ n2_ n3_; clear hb hbox hg) | ((with_reducible refine gate_dst (N := 3) rfl ?_); (try (refine gate_guard (by rfl) ?_; dsimp only)); refine box_event ?hg (N := 3) ?hd (cs := #[.int .i64 a1_0, .slice A1_1 l1_1.length c1_1, .slice A1_2 l1_2.length c1_2]) (t := 25) ?hr ?_; (case hd => rfl); (case hg => rfl); (case hr => first | (go_simp; done) | (go_simp; rfl)); intro gb156 hg w5 hbox hb; have n0_ := Aside0.mk (blk_below (g := gb155) (o := .cells #[.int .i64 a0_0, .slice A0_1 l0_1.length c0_1, .slice A0_2 l0_2.length c0_2] 25 (0, 0)) (by (with_reducible repeat (first | refine blk_drewN ?_ _ | refine blk_drew ?_ | refine blk_alloc ?_ _)); exact BK155.out) hb); have n1_ := Aside0.mk (below_step (by repeat (first | (with_reducible first | exact HB.out | apply below_alloc | apply pw_below_drewN | apply below_drew1 | refine below_set ?_ GE155.out) | exact HB.out)) hb); have n2_ := Aside0.mk (hbox); have n3_ := Aside0.mk ((by rw [hg]; exact (below_size (by repeat (first | (with_reducible first | exact HB.out | apply below_alloc | apply pw_below_drewN | apply below_drew1 | refine below_set ?_ GE155.out) | exact HB.out))) : w.heap.size ≤ gb156)); have n4_ := Aside0.mk ((by rw [hg]; exact (below_size (by repeat (first | (with_reducible first | exact HB.out | apply below_alloc | apply pw_below_drewN | apply below_drew1 | refine below_set ?_ GE155.out) | exact HB.out))) : w.heap.size ≤ gb156)); have n5_ := Aside0.mk ((by rw [hg]; exact Nat.ne_of_lt (blk_lt (g := gb155) (o := .cells #[.int .i64 a0_0, .slice A0_1 l0_1.length c0_1, .slice A0_2 l0_2.length c0_2] 25 (0, 0)) (by (with_reducible repeat (first | refine blk_drewN ?_ _ | refine blk_drew ?_ | refine blk_alloc ?_ _)); exact BK155.out)) : gb155 ≠ gb156)); have n6_ := Aside0.mk ((by rw [hg]; exact Nat.ne_of_gt (blk_lt (g := gb155) (o := .cells #[.int .i64 a0_0, .slice A0_1 l0_1.length c0_1, .slice A0_2 l0_2.length c0_2] 25 (0, 0)) (by (with_reducible repeat (first | refine blk_drewN ?_ _ | refine blk_drew ?_ | refine blk_alloc ?_ _)); exact BK155.out)) : gb156 ≠ gb155)); clear BK155; clear HB; have BK155 := n0_; have HB := n1_; have BK156 := n2_; have GW156 := n3_; have GE156 := n4_; have NB155_156 := n5_; have NB156_155 := n6_; clear n0_ n1_ n2_ n3_ n4_ n5_ n6_; clear hb hbox hg))
 repeat (go_quiet (first | ((with_reducible refine gate_dst (N := 2) rfl ?_); (try (refine gate_guard (by rfl) ?_; dsimp only)); refine box_event ?hg (N := 2) ?hd (cs := #[.int .i64 a0_0, .slice A0_1 l0_1.length c0_1, .slice A0_2 l0_2.length c0_2]) (t := 25) ?hr ?_; (case hd => rfl); (case hg => rfl); (case hr => first | (go_simp; done) | (go_simp; rfl)); intro gb155 hg w4 hbox hb; have n0_ := Aside0.mk (below_step (by repeat (first | (with_reducible first | exact HB.out | apply below_alloc | apply pw_below_drewN | apply below_drew1) | exact HB.out)) hb); have n1_ := Aside0.mk (hbox); have n2_ := Aside0.mk ((by rw [hg]; exact (below_size (by repeat (first | (with_reducible first | exact HB.out | apply below_alloc | apply pw_below_drewN | apply below_drew1) | exact HB.out))) : w.heap.size ≤ gb155)); have n3_ := Aside0.mk ((by rw [hg]; exact (below_size (by repeat (first | (with_reducible first | exact HB.out | apply below_alloc | apply pw_below_drewN | apply below_drew1) | exact HB.out))) : w.heap.size ≤ gb155)); clear HB; have HB := n0_; have BK155 := n1_; have GW155 := n2_; have GE155 := n3_; clear n0_ n1_ n2_ n3_; clear hb hbox hg) | ((with_reducible refine gate_dst (N := 3) rfl ?_); (try (refine gate_guard (by rfl) ?_; dsimp only)); refine box_event ?hg (N := 3) ?hd (cs := #[.int .i64 a1_0, .slice A1_1 l1_1.length c1_1, .slice A1_2 l1_2.length c1_2]) (t := 25) ?hr ?_; (case hd => rfl); (case hg => rfl); (case hr => first | (go_simp; done) | (go_simp; rfl)); intro gb156 hg w5 hbox hb; have n0_ := Aside0.mk (blk_below (g := gb155) (o := .cells #[.int .i64 a0_0, .slice A0_1 l0_1.length c0_1, .slice A0_2 l0_2.length c0_2] 25 (0, 0)) (by (with_reducible repeat (first | refine blk_drewN ?_ _ | refine blk_drew ?_ | refine blk_alloc ?_ _)); exact BK155.out) hb); have n1_ := Aside0.mk (below_step (by repeat (first | (with_reducible first | exact HB.out | apply below_alloc | apply pw_below_drewN | apply below_drew1 | refine below_set ?_ GE155.out) | exact HB.out)) hb); have n2_ := Aside0.mk (hbox); have n3_ := Aside0.mk ((by rw [hg]; exact (below_size (by repeat (first | (with_reducible first | exact HB.out | apply below_alloc | apply pw_below_drewN | apply below_drew1 | refine below_set ?_ GE155.out) | exact HB.out))) : w.heap.size ≤ gb156)); have n4_ := Aside0.mk ((by rw [hg]; exact (below_size (by repeat (first | (with_reducible first | exact HB.out | apply below_alloc | apply pw_below_drewN | apply below_drew1 | refine below_set ?_ GE155.out) | exact HB.out))) : w.heap.size ≤ gb156)); have n5_ := Aside0.mk ((by rw [hg]; exact Nat.ne_of_lt (blk_lt (g := gb155) (o := .cells #[.int .i64 a0_0, .slice A0_1 l0_1.length c0_1, .slice A0_2 l0_2.length c0_2] 25 (0, 0)) (by (with_reducible repeat (first | refine blk_drewN ?_ _ | refine blk_drew ?_ | refine blk_alloc ?_ _)); exact BK155.out)) : gb155 ≠ gb156)); have n6_ := Aside0.mk ((by rw [hg]; exact Nat.ne_of_gt (blk_lt (g := gb155) (o := .cells #[.int .i64 a0_0, .slice A0_1 l0_1.length c0_1, .slice A0_2 l0_2.length c0_2] 25 (0, 0)) (by (with_reducible repeat (first | refine blk_drewN ?_ _ | refine blk_drew ?_ | refine blk_alloc ?_ _)); exact BK155.out)) : gb156 ≠ gb155)); clear BK155; clear HB; have BK155 := n0_; have HB := n1_; have BK156 := n2_; have GW156 := n3_; have GE156 := n4_; have NB155_156 := n5_; have NB156_155 := n6_; clear n0_ n1_ n2_ n3_ n4_ n5_ n6_; clear hb hbox hg)); go_upto_region 1 with (first | ((with_reducible refine gate_dst (N := 2) rfl ?_); (try (refine gate_guard (by rfl) ?_; dsimp only)); refine box_event ?hg (N := 2) ?hd (cs := #[.int .i64 a0_0, .slice A0_1 l0_1.length c0_1, .slice A0_2 l0_2.length c0_2]) (t := 25) ?hr ?_; (case hd => rfl); (case hg => rfl); (case hr => first | (go_simp; done) | (go_simp; rfl)); intro gb155 hg w4 hbox hb; have n0_ := Aside0.mk (below_step (by repeat (first | (with_reducible first | exact HB.out | apply below_alloc | apply pw_below_drewN | apply below_drew1) | exact HB.out)) hb); have n1_ := Aside0.mk (hbox); have n2_ := Aside0.mk ((by rw [hg]; exact (below_size (by repeat (first | (with_reducible first | exact HB.out | apply below_alloc | apply pw_below_drewN | apply below_drew1) | exact HB.out))) : w.heap.size ≤ gb155)); have n3_ := Aside0.mk ((by rw [hg]; exact (below_size (by repeat (first | (with_reducible first | exact HB.out | apply below_alloc | apply pw_below_drewN | apply below_drew1) | exact HB.out))) : w.heap.size ≤ gb155)); clear HB; have HB := n0_; have BK155 := n1_; have GW155 := n2_; have GE155 := n3_; clear n0_ n1_ n2_ n3_; clear hb hbox hg) | ((with_reducible refine gate_dst (N := 3) rfl ?_); (try (refine gate_guard (by rfl) ?_; dsimp only)); refine box_event ?hg (N := 3) ?hd (cs := #[.int .i64 a1_0, .slice A1_1 l1_1.length c1_1, .slice A1_2 l1_2.length c1_2]) (t := 25) ?hr ?_; (case hd => rfl); (case hg => rfl); (case hr => first | (go_simp; done) | (go_simp; rfl)); intro gb156 hg w5 hbox hb; have n0_ := Aside0.mk (blk_below (g := gb155) (o := .cells #[.int .i64 a0_0, .slice A0_1 l0_1.length c0_1, .slice A0_2 l0_2.length c0_2] 25 (0, 0)) (by (with_reducible repeat (first | refine blk_drewN ?_ _ | refine blk_drew ?_ | refine blk_alloc ?_ _)); exact BK155.out) hb); have n1_ := Aside0.mk (below_step (by repeat (first | (with_reducible first | exact HB.out | apply below_alloc | apply pw_below_drewN | apply below_drew1 | refine below_set ?_ GE155.out) | exact HB.out)) hb); have n2_ := Aside0.mk (hbox); have n3_ := Aside0.mk ((by rw [hg]; exact (below_size (by repeat (first | (with_reducible first | exact HB.out | apply below_alloc | apply pw_below_drewN | apply below_drew1 | refine below_set ?_ GE155.out) | exact HB.out))) : w.heap.size ≤ gb156)); have n4_ := Aside0.mk ((by rw [hg]; exact (below_size (by repeat (first | (with_reducible first | exact HB.out | apply below_alloc | apply pw_below_drewN | apply below_drew1 | refine below_set ?_ GE155.out) | exact HB.out))) : w.heap.size ≤ gb156)); have n5_ := Aside0.mk ((by rw [hg]; exact Nat.ne_of_lt (blk_lt (g := gb155) (o := .cells #[.int .i64 a0_0, .slice A0_1 l0_1.length c0_1, .slice A0_2 l0_2.length c0_2] 25 (0, 0)) (by (with_reducible repeat (first | refine blk_drewN ?_ _ | refine blk_drew ?_ | refine blk_alloc ?_ _)); exact BK155.out)) : gb155 ≠ gb156)); have n6_ := Aside0.mk ((by rw [hg]; exact Nat.ne_of_gt (blk_lt (g := gb155) (o := .cells #[.int .i64 a0_0, .slice A0_1 l0_1.length c0_1, .slice A0_2 l0_2.length c0_2] 25 (0, 0)) (by (with_reducible repeat (first | refine blk_drewN ?_ _ | refine blk_drew ?_ | refine blk_alloc ?_ _)); exact BK155.out)) : gb156 ≠ gb155)); clear BK155; clear HB; have BK155 := n0_; have HB := n1_; have BK156 := n2_; have GW156 := n3_; have GE156 := n4_; have NB155_156 := n5_; have NB156_155 := n6_; clear n0_ n1_ n2_ n3_ n4_ n5_ n6_; clear hb hbox hg)))
 (try simp only [Act.put, List.setIfInBounds_toArray, List.set_cons_zero, List.set_cons_succ])
 go_cut [28] (fun v28 wc => ∃ (kq : Nat) (x28_2 : Bool), v28 = .bool x28_2 ∧ Aside0 (r8_Same.j0 kq x28_2 a0_0 l0_1 l0_2 a1_0 l1_1 l1_2 = some r) ∧ Aside0 (kq ≤ k) ∧ Aside0 (wc.heap[gb155]? = some (.cells #[.int .i64 a0_0, (.slice A0_1 l0_1.length c0_1), (.slice A0_2 l0_2.length c0_2)] 25 (0, 0))) ∧ Aside0 (wc.heap[gb156]? = some (.cells #[.int .i64 a1_0, (.slice A1_1 l1_1.length c1_1), (.slice A1_2 l1_2.length c1_2)] 25 (0, 0))) ∧ Aside0 (Below w.heap.size w wc))
 case first =>
  have H := HC3.out
  clear HC3
  by_cases c6 : a0_0 = a1_0
  ·rw [if_pos c6] at H
   have c6b0 : (a0_0 == a1_0) = true := beq_iff_eq.mpr c6
   have c6b1 : (a0_0 != a1_0) = false := bne_eq_false_iff_eq.mpr c6
   clear c6
   (first | rw [c6b0] | (simp only [i64_w, i32_w]; rw [c6b0]) | skip)
   replace H := Option.bind_eq_some_iff.mp H
   obtain ⟨t157, A70, H⟩ := H
   replace H : (if t157 = true then (r8_Same.j0 k ((l0_2.length : Int) != (l1_2.length : Int)) a0_0 l0_1 l0_2 a1_0 l1_1 l1_2) else (r8_Same.j0 k true a0_0 l0_1 l0_2 a1_0 l1_1 l1_2)) = some r := H
   have A7 := Aside0.mk A70
   clear A70
   by_cases c8 : t157 = true
   ·subst c8
    have H1 : (r8_Same.j0 k ((l0_2.length : Int) != (l1_2.length : Int)) a0_0 l0_1 l0_2 a1_0 l1_1 l1_2) = some r := by rw [if_pos rfl] at H; exact H
    clear H
    have H := H1
    clear H1
    have H' := Aside0.mk H
    clear H
    have hnb9 := NB155_156.out
    have hnc9 := NB156_155.out
    have hcz10_0 : w5.cell? ⟨gb155, 0, none⟩ = some (.int .i64 a0_0) := (blk_cell BK155.out 0).trans rfl
    have hcz10_1 : w5.cell? ⟨gb155, 1, none⟩ = some (.slice A0_1 l0_1.length c0_1) := (blk_cell BK155.out 1).trans rfl
    have hcz10_2 : w5.cell? ⟨gb155, 2, none⟩ = some (.slice A0_2 l0_2.length c0_2) := (blk_cell BK155.out 2).trans rfl
    have hfz10_0 := blk_frozen BK155.out 0
    have hfz10_1 := blk_frozen BK155.out 1
    have hfz10_2 := blk_frozen BK155.out 2
    have hcz11_0 : w5.cell? ⟨gb156, 0, none⟩ = some (.int .i64 a1_0) := (blk_cell BK156.out 0).trans rfl
    have hcz11_1 : w5.cell? ⟨gb156, 1, none⟩ = some (.slice A1_1 l1_1.length c1_1) := (blk_cell BK156.out 1).trans rfl
    have hcz11_2 : w5.cell? ⟨gb156, 2, none⟩ = some (.slice A1_2 l1_2.length c1_2) := (blk_cell BK156.out 2).trans rfl
    have hfz11_0 := blk_frozen BK156.out 0
    have hfz11_1 := blk_frozen BK156.out 1
    have hfz11_2 := blk_frozen BK156.out 2
    go_wp2_with (first | (go_at_call 17; (with_reducible refine (r4_Same.calls k _ _ l0_1 _ _ l1_1 true _ ?side1 ?side2 ?side3 ?side4 A7.out).mono ?_); (case side1 => repeat (first | exact (Kd.C_below HR0_1.out HB.out) | (with_reducible refine Kd.C_alloc ?_ _) | (with_reducible refine Kd.C_drewN ?_ _) | (with_reducible refine Kd.C_drew ?_))); (case side2 => exact HC0_1.out); (case side3 => repeat (first | exact (Kd.C_below HR1_1.out HB.out) | (with_reducible refine Kd.C_alloc ?_ _) | (with_reducible refine Kd.C_drewN ?_ _) | (with_reducible refine Kd.C_drew ?_))); (case side4 => exact HC1_1.out); rintro e w' ⟨rfl, ⟨nd, rfl⟩⟩; (try first | exact ⟨rfl, _, World.drewN_drewN _ _ _⟩ | exact ⟨rfl, _, Eq.trans (World.drewN_drewN _ _ _) (congrArg (World.drewN _) (Nat.add_assoc _ _ _))⟩)))
    repeat (go_quiet (first | (go_at_call 17; (with_reducible refine (r4_Same.calls k _ _ l0_1 _ _ l1_1 true _ ?side1 ?side2 ?side3 ?side4 A7.out).mono ?_); (case side1 => repeat (first | exact (Kd.C_below HR0_1.out HB.out) | (with_reducible refine Kd.C_alloc ?_ _) | (with_reducible refine Kd.C_drewN ?_ _) | (with_reducible refine Kd.C_drew ?_))); (case side2 => exact HC0_1.out); (case side3 => repeat (first | exact (Kd.C_below HR1_1.out HB.out) | (with_reducible refine Kd.C_alloc ?_ _) | (with_reducible refine Kd.C_drewN ?_ _) | (with_reducible refine Kd.C_drew ?_))); (case side4 => exact HC1_1.out); rintro e w' ⟨rfl, ⟨nd, rfl⟩⟩; (try first | exact ⟨rfl, _, World.drewN_drewN _ _ _⟩ | exact ⟨rfl, _, Eq.trans (World.drewN_drewN _ _ _) (congrArg (World.drewN _) (Nat.add_assoc _ _ _))⟩))); try go_wp2_with (first | (go_at_call 17; (with_reducible refine (r4_Same.calls k _ _ l0_1 _ _ l1_1 true _ ?side1 ?side2 ?side3 ?side4 A7.out).mono ?_); (case side1 => repeat (first | exact (Kd.C_below HR0_1.out HB.out) | (with_reducible refine Kd.C_alloc ?_ _) | (with_reducible refine Kd.C_drewN ?_ _) | (with_reducible refine Kd.C_drew ?_))); (case side2 => exact HC0_1.out); (case side3 => repeat (first | exact (Kd.C_below HR1_1.out HB.out) | (with_reducible refine Kd.C_alloc ?_ _) | (with_reducible refine Kd.C_drewN ?_ _) | (with_reducible refine Kd.C_drew ?_))); (case side4 => exact HC1_1.out); rintro e w' ⟨rfl, ⟨nd, rfl⟩⟩; (try first | exact ⟨rfl, _, World.drewN_drewN _ _ _⟩ | exact ⟨rfl, _, Eq.trans (World.drewN_drewN _ _ _) (congrArg (World.drewN _) (Nat.add_assoc _ _ _))⟩))))
    go_meet
    case rel => exact ⟨_, (((l0_2.length : Int) != (l1_2.length : Int))), (by first | rfl | (simp; done) | (simp [*]; done)), H', ⟨by first | omega | exact Nat.le_refl _⟩, ⟨by (with_reducible repeat (first | refine blk_drewN ?_ _ | refine blk_drew ?_ | refine blk_alloc ?_ _)); exact BK155.out⟩, ⟨by (with_reducible repeat (first | refine blk_drewN ?_ _ | refine blk_drew ?_ | refine blk_alloc ?_ _)); exact BK156.out⟩, ⟨by repeat (first | (with_reducible first | exact HB.out | apply below_alloc | apply pw_below_drewN | apply below_drew1 | refine below_set ?_ GE155.out | refine below_set ?_ GE156.out) | exact HB.out)⟩⟩
   ·replace c8 := Bool.eq_false_iff.mpr c8
    subst c8
    have H1 : (r8_Same.j0 k true a0_0 l0_1 l0_2 a1_0 l1_1 l1_2) = some r := by rw [if_neg (show ¬ (false = true) by decide)] at H; exact H
    clear H
    have H := H1
    clear H1
    have H' := Aside0.mk H
    clear H
    have hnb12 := NB155_156.out
    have hnc12 := NB156_155.out
    have hcz13_0 : w5.cell? ⟨gb155, 0, none⟩ = some (.int .i64 a0_0) := (blk_cell BK155.out 0).trans rfl
    have hcz13_1 : w5.cell? ⟨gb155, 1, none⟩ = some (.slice A0_1 l0_1.length c0_1) := (blk_cell BK155.out 1).trans rfl
    have hcz13_2 : w5.cell? ⟨gb155, 2, none⟩ = some (.slice A0_2 l0_2.length c0_2) := (blk_cell BK155.out 2).trans rfl
    have hfz13_0 := blk_frozen BK155.out 0
    have hfz13_1 := blk_frozen BK155.out 1
    have hfz13_2 := blk_frozen BK155.out 2
    have hcz14_0 : w5.cell? ⟨gb156, 0, none⟩ = some (.int .i64 a1_0) := (blk_cell BK156.out 0).trans rfl
    have hcz14_1 : w5.cell? ⟨gb156, 1, none⟩ = some (.slice A1_1 l1_1.length c1_1) := (blk_cell BK156.out 1).trans rfl
    have hcz14_2 : w5.cell? ⟨gb156, 2, none⟩ = some (.slice A1_2 l1_2.length c1_2) := (blk_cell BK156.out 2).trans rfl
    have hfz14_0 := blk_frozen BK156.out 0
    have hfz14_1 := blk_frozen BK156.out 1
    have hfz14_2 := blk_frozen BK156.out 2
    go_wp2_with (first | (go_at_call 17; (with_reducible refine (r4_Same.calls k _ _ l0_1 _ _ l1_1 false _ ?side1 ?side2 ?side3 ?side4 A7.out).mono ?_); (case side1 => repeat (first | exact (Kd.C_below HR0_1.out HB.out) | (with_reducible refine Kd.C_alloc ?_ _) | (with_reducible refine Kd.C_drewN ?_ _) | (with_reducible refine Kd.C_drew ?_))); (case side2 => exact HC0_1.out); (case side3 => repeat (first | exact (Kd.C_below HR1_1.out HB.out) | (with_reducible refine Kd.C_alloc ?_ _) | (with_reducible refine Kd.C_drewN ?_ _) | (with_reducible refine Kd.C_drew ?_))); (case side4 => exact HC1_1.out); rintro e w' ⟨rfl, ⟨nd, rfl⟩⟩; (try first | exact ⟨rfl, _, World.drewN_drewN _ _ _⟩ | exact ⟨rfl, _, Eq.trans (World.drewN_drewN _ _ _) (congrArg (World.drewN _) (Nat.add_assoc _ _ _))⟩)))
    repeat (go_quiet (first | (go_at_call 17; (with_reducible refine (r4_Same.calls k _ _ l0_1 _ _ l1_1 false _ ?side1 ?side2 ?side3 ?side4 A7.out).mono ?_); (case side1 => repeat (first | exact (Kd.C_below HR0_1.out HB.out) | (with_reducible refine Kd.C_alloc ?_ _) | (with_reducible refine Kd.C_drewN ?_ _) | (with_reducible refine Kd.C_drew ?_))); (case side2 => exact HC0_1.out); (case side3 => repeat (first | exact (Kd.C_below HR1_1.out HB.out) | (with_reducible refine Kd.C_alloc ?_ _) | (with_reducible refine Kd.C_drewN ?_ _) | (with_reducible refine Kd.C_drew ?_))); (case side4 => exact HC1_1.out); rintro e w' ⟨rfl, ⟨nd, rfl⟩⟩; (try first | exact ⟨rfl, _, World.drewN_drewN _ _ _⟩ | exact ⟨rfl, _, Eq.trans (World.drewN_drewN _ _ _) (congrArg (World.drewN _) (Nat.add_assoc _ _ _))⟩))); try go_wp2_with (first | (go_at_call 17; (with_reducible refine (r4_Same.calls k _ _ l0_1 _ _ l1_1 false _ ?side1 ?side2 ?side3 ?side4 A7.out).mono ?_); (case side1 => repeat (first | exact (Kd.C_below HR0_1.out HB.out) | (with_reducible refine Kd.C_alloc ?_ _) | (with_reducible refine Kd.C_drewN ?_ _) | (with_reducible refine Kd.C_drew ?_))); (case side2 => exact HC0_1.out); (case side3 => repeat (first | exact (Kd.C_below HR1_1.out HB.out) | (with_reducible refine Kd.C_alloc ?_ _) | (with_reducible refine Kd.C_drewN ?_ _) | (with_reducible refine Kd.C_drew ?_))); (case side4 => exact HC1_1.out); rintro e w' ⟨rfl, ⟨nd, rfl⟩⟩; (try first | exact ⟨rfl, _, World.drewN_drewN _ _ _⟩ | exact ⟨rfl, _, Eq.trans (World.drewN_drewN _ _ _) (congrArg (World.drewN _) (Nat.add_assoc _ _ _))⟩))))
    go_meet
    case rel => exact ⟨_, (true), (by first | rfl | (simp; done) | (simp [*]; done)), H', ⟨by first | omega | exact Nat.le_refl _⟩, ⟨by (with_reducible repeat (first | refine blk_drewN ?_ _ | refine blk_drew ?_ | refine blk_alloc ?_ _)); exact BK155.out⟩, ⟨by (with_reducible repeat (first | refine blk_drewN ?_ _ | refine blk_drew ?_ | refine blk_alloc ?_ _)); exact BK156.out⟩, ⟨by repeat (first | (with_reducible first | exact HB.out | apply below_alloc | apply pw_below_drewN | apply below_drew1 | refine below_set ?_ GE155.out | refine below_set ?_ GE156.out) | exact HB.out)⟩⟩
  ·rw [if_neg c6] at H
   have c6b0 : (a0_0 == a1_0) = false := beq_eq_false_iff_ne.mpr c6
   have c6b1 : (a0_0 != a1_0) = true := bne_iff_ne.mpr c6
   (first | rw [c6b0] | (simp only [i64_w, i32_w]; rw [c6b0]) | skip)
   have H' := Aside0.mk H
   clear H
   have hnb15 := NB155_156.out
   have hnc15 := NB156_155.out
   have hcz16_0 : w5.cell? ⟨gb155, 0, none⟩ = some (.int .i64 a0_0) := (blk_cell BK155.out 0).trans rfl
   have hcz16_1 : w5.cell? ⟨gb155, 1, none⟩ = some (.slice A0_1 l0_1.length c0_1) := (blk_cell BK155.out 1).trans rfl
   have hcz16_2 : w5.cell? ⟨gb155, 2, none⟩ = some (.slice A0_2 l0_2.length c0_2) := (blk_cell BK155.out 2).trans rfl
   have hfz16_0 := blk_frozen BK155.out 0
   have hfz16_1 := blk_frozen BK155.out 1
   have hfz16_2 := blk_frozen BK155.out 2
   have hcz17_0 : w5.cell? ⟨gb156, 0, none⟩ = some (.int .i64 a1_0) := (blk_cell BK156.out 0).trans rfl
   have hcz17_1 : w5.cell? ⟨gb156, 1, none⟩ = some (.slice A1_1 l1_1.length c1_1) := (blk_cell BK156.out 1).trans rfl
   have hcz17_2 : w5.cell? ⟨gb156, 2, none⟩ = some (.slice A1_2 l1_2.length c1_2) := (blk_cell BK156.out 2).trans rfl
   have hfz17_0 := blk_frozen BK156.out 0
   have hfz17_1 := blk_frozen BK156.out 1
   have hfz17_2 := blk_frozen BK156.out 2
   go_wp2
   repeat (go_quiet (fail); try go_wp2)
   go_meet
   case rel => exact ⟨_, (true), (by first | rfl | (simp; done) | (simp [*]; done)), H', ⟨by first | omega | exact Nat.le_refl _⟩, ⟨by (with_reducible repeat (first | refine blk_drewN ?_ _ | refine blk_drew ?_ | refine blk_alloc ?_ _)); exact BK155.out⟩, ⟨by (with_reducible repeat (first | refine blk_drewN ?_ _ | refine blk_drew ?_ | refine blk_alloc ?_ _)); exact BK156.out⟩, ⟨by repeat (first | (with_reducible first | exact HB.out | apply below_alloc | apply pw_below_drewN | apply below_drew1 | refine below_set ?_ GE155.out | refine below_set ?_ GE156.out) | exact HB.out)⟩⟩
 case rest =>
  clear HC3
  try clear c1
  try clear p2
  try clear c3
  try clear c6
  try clear c6b0
  try clear c6b1
  try clear c8
  try clear c9
  try clear c12
  try clear c15
  try clear hcz10_0
  try clear hcz10_1
  try clear hcz10_2
  try clear hcz11_0
  try clear hcz11_1
  try clear hcz11_2
  try clear hcz13_0
  try clear hcz13_1
  try clear hcz13_2
  try clear hcz14_0
  try clear hcz14_1
  try clear hcz14_2
  try clear hcz16_0
  try clear hcz16_1
  try clear hcz16_2
  try clear hcz17_0
  try clear hcz17_1
  try clear hcz17_2
  try clear hfz10_0
  try clear hfz10_1
  try clear hfz10_2
  try clear hfz11_0
  try clear hfz11_1
  try clear hfz11_2
  try clear hfz13_0
  try clear hfz13_1
  try clear hfz13_2
  try clear hfz14_0
  try clear hfz14_1
  try clear hfz14_2
  try clear hfz16_0
  try clear hfz16_1
  try clear hfz16_2
  try clear hfz17_0
  try clear hfz17_1
  try clear hfz17_2
  obtain ⟨kq, x28_2, rfl, HA, HJ2, BK155, BK156, HB⟩ := hcut
  cases kq with
  | zero => exact absurd HA.out (by simp [r8_Same.j0])
  | succ kj2 =>
   have H := HA.out
   clear HA
   simp only [r8_Same.j0] at H
   by_cases c18 : x28_2 = true
   ·subst c18
    have H1 : (some false) = some r := by rw [if_pos rfl] at H; exact H
    clear H
    have H := H1
    clear H1
    obtain rfl := Option.some.inj H
    go_wp2
    repeat (go_quiet (fail); try go_wp2)
    go_ret
    exact ⟨by first | rfl | (simp [errW_none, errW_some] <;> rfl) | (simp [*, errW_none, errW_some] <;> rfl), by repeat (first | (with_reducible first | exact HB.out | apply below_alloc | apply pw_below_drewN | apply below_drew1 | refine below_set ?_ GE155.out | refine below_set ?_ GE156.out) | exact HB.out)⟩
   ·replace c18 := Bool.eq_false_iff.mpr c18
    subst c18
    have H1 : (r8_Same.l0 kj2 0 a0_0 l0_1 l0_2 a1_0 l1_1 l1_2) = some r := by rw [if_neg (show ¬ (false = true) by decide)] at H; exact H
    clear H
    have H := H1
    clear H1
    have H' := Aside0.mk H
    clear H
    go_wp2
    repeat (go_quiet (fail); try go_wp2)
    go_loopg [5] kj2 (fun kq v5 w' => ∃ (x5_2 : Int), v5 = .int .i64 x5_2 ∧ Aside0 (r8_Same.l0 kq x5_2 a0_0 l0_1 l0_2 a1_0 l1_1 l1_2 = some r) ∧ Aside0 (kq ≤ kj2) ∧ Aside0 (w'.heap[gb155]? = some (.cells #[.int .i64 a0_0, (.slice A0_1 l0_1.length c0_1), (.slice A0_2 l0_2.length c0_2)] 25 (0, 0))) ∧ Aside0 (w'.heap[gb156]? = some (.cells #[.int .i64 a1_0, (.slice A1_1 l1_1.length c1_1), (.slice A1_2 l1_2.length c1_2)] 25 (0, 0))) ∧ Aside0 (Below w.heap.size w w'))
    case atStart => exact ⟨(0), (by first | rfl | (simp; done) | (simp [*]; done)), H', ⟨Nat.le_refl _⟩, ⟨by (with_reducible repeat (first | refine blk_drewN ?_ _ | refine blk_drew ?_ | refine blk_alloc ?_ _)); exact BK155.out⟩, ⟨by (with_reducible repeat (first | refine blk_drewN ?_ _ | refine blk_drew ?_ | refine blk_alloc ?_ _)); exact BK156.out⟩, ⟨by repeat (first | (with_reducible first | exact HB.out | apply below_alloc | apply pw_below_drewN | apply below_drew1 | refine below_set ?_ GE155.out | refine below_set ?_ GE156.out) | exact HB.out)⟩⟩
    case round =>
     clear H'
     try clear c1
     try clear p2
     try clear c3
     try clear c6
     try clear c6b0
     try clear c6b1
     try clear c8
     try clear c9
     try clear c12
     try clear c15
     try clear c18
     try clear hcz10_0
     try clear hcz10_1
     try clear hcz10_2
     try clear hcz11_0
     try clear hcz11_1
     try clear hcz11_2
     try clear hcz13_0
     try clear hcz13_1
     try clear hcz13_2
     try clear hcz14_0
     try clear hcz14_1
     try clear hcz14_2
     try clear hcz16_0
     try clear hcz16_1
     try clear hcz16_2
     try clear hcz17_0
     try clear hcz17_1
     try clear hcz17_2
     try clear hfz10_0
     try clear hfz10_1
     try clear hfz10_2
     try clear hfz11_0
     try clear hfz11_1
     try clear hfz11_2
     try clear hfz13_0
     try clear hfz13_1
     try clear hfz13_2
     try clear hfz14_0
     try clear hfz14_1
     try clear hfz14_2
     try clear hfz16_0
     try clear hfz16_1
     try clear hfz16_2
     try clear hfz17_0
     try clear hfz17_1
     try clear hfz17_2
     try clear p2
     obtain ⟨x5_2, rfl, HA, HK2, BK155, BK156, HB⟩ := hrel
     cases gk with
     | zero => exact absurd HA.out (by simp [r8_Same.l0])
     | succ k2 =>
      have H := HA.out
      clear HA
      simp only [r8_Same.l0] at H
      by_cases c19 : x5_2 < (l0_2.length : Int)
      ·rw [if_pos c19] at H
       have c19b0 : decide (x5_2 < (l0_2.length : Int)) = true := decide_eq_true c19
       clear c19
       by_cases c20 : 0 ≤ x5_2
       ·rw [if_pos c20] at H
        have c20b0 : decide (0 ≤ x5_2) = true := decide_eq_true c20
        clear c20
        by_cases c21 : x5_2 < (l1_2.length : Int)
        ·rw [if_pos c21] at H
         have c21b0 : decide (x5_2 < (l1_2.length : Int)) = true := decide_eq_true c21
         clear c21
         replace H := Option.bind_eq_some_iff.mp H
         obtain ⟨t160, A220, H⟩ := H
         replace H : (if t160 = true then (r8_Same.l0 k2 (wrap64 (x5_2 + 1)) a0_0 l0_1 l0_2 a1_0 l1_1 l1_2) else (some false)) = some r := H
         have A22 := Aside0.mk A220
         clear A220
         by_cases c23 : t160 = true
         ·subst c23
          have H1 : (r8_Same.l0 k2 (wrap64 (x5_2 + 1)) a0_0 l0_1 l0_2 a1_0 l1_1 l1_2) = some r := by rw [if_pos rfl] at H; exact H
          clear H
          have H := H1
          clear H1
          have H' := Aside0.mk H
          clear H
          have hnb24 := NB155_156.out
          have hnc24 := NB156_155.out
          have hcz25_0 : wr.cell? ⟨gb155, 0, none⟩ = some (.int .i64 a0_0) := (blk_cell BK155.out 0).trans rfl
          have hcz25_1 : wr.cell? ⟨gb155, 1, none⟩ = some (.slice A0_1 l0_1.length c0_1) := (blk_cell BK155.out 1).trans rfl
          have hcz25_2 : wr.cell? ⟨gb155, 2, none⟩ = some (.slice A0_2 l0_2.length c0_2) := (blk_cell BK155.out 2).trans rfl
          have hfz25_0 := blk_frozen BK155.out 0
          have hfz25_1 := blk_frozen BK155.out 1
          have hfz25_2 := blk_frozen BK155.out 2
          have p158 : 0 ≤ (x5_2 : Int) := of_decide_eq_true (by first | (with_reducible assumption) | assumption)
          have q158 : x5_2 < (l0_2.length : Int) := of_decide_eq_true (by first | (with_reducible assumption) | assumption)
          obtain ⟨ad158, A158_0, c158_0, e158, hx158_0, hl158_0, hi158_0⟩ := at_L2 HR0_2.out x5_2 p158 q158
          cases e158
          replace hx158_0 := (HB.out.cell (World.block_lt_of_cell? w _ hx158_0)).trans hx158_0
          have HR158_0 := Aside0.mk hi158_0
          have HC158_0 := Aside0.mk hl158_0
          clear hi158_0 hl158_0
          replace p158 := eq_true p158
          replace q158 := eq_true q158
          have hcz26_0 : wr.cell? ⟨gb156, 0, none⟩ = some (.int .i64 a1_0) := (blk_cell BK156.out 0).trans rfl
          have hcz26_1 : wr.cell? ⟨gb156, 1, none⟩ = some (.slice A1_1 l1_1.length c1_1) := (blk_cell BK156.out 1).trans rfl
          have hcz26_2 : wr.cell? ⟨gb156, 2, none⟩ = some (.slice A1_2 l1_2.length c1_2) := (blk_cell BK156.out 2).trans rfl
          have hfz26_0 := blk_frozen BK156.out 0
          have hfz26_1 := blk_frozen BK156.out 1
          have hfz26_2 := blk_frozen BK156.out 2
          have p159 : 0 ≤ (x5_2 : Int) := of_decide_eq_true (by first | (with_reducible assumption) | assumption)
          have q159 : x5_2 < (l1_2.length : Int) := of_decide_eq_true (by first | (with_reducible assumption) | assumption)
          obtain ⟨ad159, A159_0, c159_0, e159, hx159_0, hl159_0, hi159_0⟩ := at_L2 HR1_2.out x5_2 p159 q159
          cases e159
          replace hx159_0 := (HB.out.cell (World.block_lt_of_cell? w _ hx159_0)).trans hx159_0
          have HR159_0 := Aside0.mk hi159_0
          have HC159_0 := Aside0.mk hl159_0
          clear hi159_0 hl159_0
          replace p159 := eq_true p159
          replace q159 := eq_true q159
          go_wp2_with (first | (go_at_call 25; (with_reducible refine (r8_SameRows.calls k2 _ _ (rd_L2 l0_2 x5_2) _ _ (rd_L2 l1_2 x5_2) true _ ?side1 ?side2 ?side3 ?side4 A22.out).mono ?_); (case side1 => repeat (first | exact (Kd.C_below HR158_0.out HB.out) | (with_reducible refine Kd.C_alloc ?_ _) | (with_reducible refine Kd.C_drewN ?_ _) | (with_reducible refine Kd.C_drew ?_))); (case side2 => exact HC158_0.out); (case side3 => repeat (first | exact (Kd.C_below HR159_0.out HB.out) | (with_reducible refine Kd.C_alloc ?_ _) | (with_reducible refine Kd.C_drewN ?_ _) | (with_reducible refine Kd.C_drew ?_))); (case side4 => exact HC159_0.out); rintro e w' ⟨rfl, ⟨nd, rfl⟩⟩; (try first | exact ⟨rfl, _, World.drewN_drewN _ _ _⟩ | exact ⟨rfl, _, Eq.trans (World.drewN_drewN _ _ _) (congrArg (World.drewN _) (Nat.add_assoc _ _ _))⟩)))
          repeat (go_quiet (first | (go_at_call 25; (with_reducible refine (r8_SameRows.calls k2 _ _ (rd_L2 l0_2 x5_2) _ _ (rd_L2 l1_2 x5_2) true _ ?side1 ?side2 ?side3 ?side4 A22.out).mono ?_); (case side1 => repeat (first | exact (Kd.C_below HR158_0.out HB.out) | (with_reducible refine Kd.C_alloc ?_ _) | (with_reducible refine Kd.C_drewN ?_ _) | (with_reducible refine Kd.C_drew ?_))); (case side2 => exact HC158_0.out); (case side3 => repeat (first | exact (Kd.C_below HR159_0.out HB.out) | (with_reducible refine Kd.C_alloc ?_ _) | (with_reducible refine Kd.C_drewN ?_ _) | (with_reducible refine Kd.C_drew ?_))); (case side4 => exact HC159_0.out); rintro e w' ⟨rfl, ⟨nd, rfl⟩⟩; (try first | exact ⟨rfl, _, World.drewN_drewN _ _ _⟩ | exact ⟨rfl, _, Eq.trans (World.drewN_drewN _ _ _) (congrArg (World.drewN _) (Nat.add_assoc _ _ _))⟩))); try go_wp2_with (first | (go_at_call 25; (with_reducible refine (r8_SameRows.calls k2 _ _ (rd_L2 l0_2 x5_2) _ _ (rd_L2 l1_2 x5_2) true _ ?side1 ?side2 ?side3 ?side4 A22.out).mono ?_); (case side1 => repeat (first | exact (Kd.C_below HR158_0.out HB.out) | (with_reducible refine Kd.C_alloc ?_ _) | (with_reducible refine Kd.C_drewN ?_ _) | (with_reducible refine Kd.C_drew ?_))); (case side2 => exact HC158_0.out); (case side3 => repeat (first | exact (Kd.C_below HR159_0.out HB.out) | (with_reducible refine Kd.C_alloc ?_ _) | (with_reducible refine Kd.C_drewN ?_ _) | (with_reducible refine Kd.C_drew ?_))); (case side4 => exact HC159_0.out); rintro e w' ⟨rfl, ⟨nd, rfl⟩⟩; (try first | exact ⟨rfl, _, World.drewN_drewN _ _ _⟩ | exact ⟨rfl, _, Eq.trans (World.drewN_drewN _ _ _) (congrArg (World.drewN _) (Nat.add_assoc _ _ _))⟩))))
          go_roundg k2
          case measure => have := HJ2.out; have := HK2.out; omega
          case rel => exact ⟨(wrap64 (x5_2 + 1)), (by first | rfl | (simp; done) | (simp [*]; done)), H', ⟨by have := HJ2.out; have := HK2.out; omega⟩, ⟨by (with_reducible repeat (first | refine blk_drewN ?_ _ | refine blk_drew ?_ | refine blk_alloc ?_ _)); exact BK155.out⟩, ⟨by (with_reducible repeat (first | refine blk_drewN ?_ _ | refine blk_drew ?_ | refine blk_alloc ?_ _)); exact BK156.out⟩, ⟨by repeat (first | (with_reducible first | exact HB.out | apply below_alloc | apply pw_below_drewN | apply below_drew1 | refine below_set ?_ GE155.out | refine below_set ?_ GE156.out) | exact HB.out)⟩⟩
         ·replace c23 := Bool.eq_false_iff.mpr c23
          subst c23
          have H1 : (some false) = some r := by rw [if_neg (show ¬ (false = true) by decide)] at H; exact H
          clear H
          have H := H1
          clear H1
          obtain rfl := Option.some.inj H
          have hnb27 := NB155_156.out
          have hnc27 := NB156_155.out
          have hcz28_0 : wr.cell? ⟨gb155, 0, none⟩ = some (.int .i64 a0_0) := (blk_cell BK155.out 0).trans rfl
          have hcz28_1 : wr.cell? ⟨gb155, 1, none⟩ = some (.slice A0_1 l0_1.length c0_1) := (blk_cell BK155.out 1).trans rfl
          have hcz28_2 : wr.cell? ⟨gb155, 2, none⟩ = some (.slice A0_2 l0_2.length c0_2) := (blk_cell BK155.out 2).trans rfl
          have hfz28_0 := blk_frozen BK155.out 0
          have hfz28_1 := blk_frozen BK155.out 1
          have hfz28_2 := blk_frozen BK155.out 2
          have p158 : 0 ≤ (x5_2 : Int) := of_decide_eq_true (by first | (with_reducible assumption) | assumption)
          have q158 : x5_2 < (l0_2.length : Int) := of_decide_eq_true (by first | (with_reducible assumption) | assumption)
          obtain ⟨ad158, A158_0, c158_0, e158, hx158_0, hl158_0, hi158_0⟩ := at_L2 HR0_2.out x5_2 p158 q158
          cases e158
          replace hx158_0 := (HB.out.cell (World.block_lt_of_cell? w _ hx158_0)).trans hx158_0
          have HR158_0 := Aside0.mk hi158_0
          have HC158_0 := Aside0.mk hl158_0
          clear hi158_0 hl158_0
          replace p158 := eq_true p158
          replace q158 := eq_true q158
          have hcz29_0 : wr.cell? ⟨gb156, 0, none⟩ = some (.int .i64 a1_0) := (blk_cell BK156.out 0).trans rfl
          have hcz29_1 : wr.cell? ⟨gb156, 1, none⟩ = some (.slice A1_1 l1_1.length c1_1) := (blk_cell BK156.out 1).trans rfl
          have hcz29_2 : wr.cell? ⟨gb156, 2, none⟩ = some (.slice A1_2 l1_2.length c1_2) := (blk_cell BK156.out 2).trans rfl
          have hfz29_0 := blk_frozen BK156.out 0
          have hfz29_1 := blk_frozen BK156.out 1
          have hfz29_2 := blk_frozen BK156.out 2
          have p159 : 0 ≤ (x5_2 : Int) := of_decide_eq_true (by first | (with_reducible assumption) | assumption)
          have q159 : x5_2 < (l1_2.length : Int) := of_decide_eq_true (by first | (with_reducible assumption) | assumption)
          obtain ⟨ad159, A159_0, c159_0, e159, hx159_0, hl159_0, hi159_0⟩ := at_L2 HR1_2.out x5_2 p159 q159
          cases e159
          replace hx159_0 := (HB.out.cell (World.block_lt_of_cell? w _ hx159_0)).trans hx159_0
          have HR159_0 := Aside0.mk hi159_0
          have HC159_0 := Aside0.mk hl159_0
          clear hi159_0 hl159_0
          replace p159 := eq_true p159
          replace q159 := eq_true q159
          go_wp2_with (first | (go_at_call 25; (with_reducible refine (r8_SameRows.calls k2 _ _ (rd_L2 l0_2 x5_2) _ _ (rd_L2 l1_2 x5_2) false _ ?side1 ?side2 ?side3 ?side4 A22.out).mono ?_); (case side1 => repeat (first | exact (Kd.C_below HR158_0.out HB.out) | (with_reducible refine Kd.C_alloc ?_ _) | (with_reducible refine Kd.C_drewN ?_ _) | (with_reducible refine Kd.C_drew ?_))); (case side2 => exact HC158_0.out); (case side3 => repeat (first | exact (Kd.C_below HR159_0.out HB.out) | (with_reducible refine Kd.C_alloc ?_ _) | (with_reducible refine Kd.C_drewN ?_ _) | (with_reducible refine Kd.C_drew ?_))); (case side4 => exact HC159_0.out); rintro e w' ⟨rfl, ⟨nd, rfl⟩⟩; (try first | exact ⟨rfl, _, World.drewN_drewN _ _ _⟩ | exact ⟨rfl, _, Eq.trans (World.drewN_drewN _ _ _) (congrArg (World.drewN _) (Nat.add_assoc _ _ _))⟩)))
          repeat (go_quiet (first | (go_at_call 25; (with_reducible refine (r8_SameRows.calls k2 _ _ (rd_L2 l0_2 x5_2) _ _ (rd_L2 l1_2 x5_2) false _ ?side1 ?side2 ?side3 ?side4 A22.out).mono ?_); (case side1 => repeat (first | exact (Kd.C_below HR158_0.out HB.out) | (with_reducible refine Kd.C_alloc ?_ _) | (with_reducible refine Kd.C_drewN ?_ _) | (with_reducible refine Kd.C_drew ?_))); (case side2 => exact HC158_0.out); (case side3 => repeat (first | exact (Kd.C_below HR159_0.out HB.out) | (with_reducible refine Kd.C_alloc ?_ _) | (with_reducible refine Kd.C_drewN ?_ _) | (with_reducible refine Kd.C_drew ?_))); (case side4 => exact HC159_0.out); rintro e w' ⟨rfl, ⟨nd, rfl⟩⟩; (try first | exact ⟨rfl, _, World.drewN_drewN _ _ _⟩ | exact ⟨rfl, _, Eq.trans (World.drewN_drewN _ _ _) (congrArg (World.drewN _) (Nat.add_assoc _ _ _))⟩))); try go_wp2_with (first | (go_at_call 25; (with_reducible refine (r8_SameRows.calls k2 _ _ (rd_L2 l0_2 x5_2) _ _ (rd_L2 l1_2 x5_2) false _ ?side1 ?side2 ?side3 ?side4 A22.out).mono ?_); (case side1 => repeat (first | exact (Kd.C_below HR158_0.out HB.out) | (with_reducible refine Kd.C_alloc ?_ _) | (with_reducible refine Kd.C_drewN ?_ _) | (with_reducible refine Kd.C_drew ?_))); (case side2 => exact HC158_0.out); (case side3 => repeat (first | exact (Kd.C_below HR159_0.out HB.out) | (with_reducible refine Kd.C_alloc ?_ _) | (with_reducible refine Kd.C_drewN ?_ _) | (with_reducible refine Kd.C_drew ?_))); (case side4 => exact HC159_0.out); rintro e w' ⟨rfl, ⟨nd, rfl⟩⟩; (try first | exact ⟨rfl, _, World.drewN_drewN _ _ _⟩ | exact ⟨rfl, _, Eq.trans (World.drewN_drewN _ _ _) (congrArg (World.drewN _) (Nat.add_assoc _ _ _))⟩))))
          go_ret
          exact ⟨by first | rfl | (simp [errW_none, errW_some] <;> rfl) | (simp [*, errW_none, errW_some] <;> rfl), by repeat (first | (with_reducible first | exact HB.out | apply below_alloc | apply pw_below_drewN | apply below_drew1 | refine below_set ?_ GE155.out | refine below_set ?_ GE156.out) | exact HB.out)⟩
        ·rw [if_neg c21] at H
         exact absurd H (by simp)
       ·rw [if_neg c20] at H
        exact absurd H (by simp)
      ·rw [if_neg c19] at H
       have c19b0 : decide (x5_2 < (l0_2.length : Int)) = false := decide_eq_false c19
       clear c19
       obtain rfl := Option.some.inj H
       have hnb30 := NB155_156.out
       have hnc30 := NB156_155.out
       have hcz31_0 : wr.cell? ⟨gb155, 0, none⟩ = some (.int .i64 a0_0) := (blk_cell BK155.out 0).trans rfl
       have hcz31_1 : wr.cell? ⟨gb155, 1, none⟩ = some (.slice A0_1 l0_1.length c0_1) := (blk_cell BK155.out 1).trans rfl
       have hcz31_2 : wr.cell? ⟨gb155, 2, none⟩ = some (.slice A0_2 l0_2.length c0_2) := (blk_cell BK155.out 2).trans rfl
       have hfz31_0 := blk_frozen BK155.out 0
       have hfz31_1 := blk_frozen BK155.out 1
       have hfz31_2 := blk_frozen BK155.out 2
       go_wp2
       repeat (go_quiet (fail); try go_wp2)
       go_ret
       exact ⟨by first | rfl | (simp [errW_none, errW_some] <;> rfl) | (simp [*, errW_none, errW_some] <;> rfl), by repeat (first | (with_reducible first | exact HB.out | apply below_alloc | apply pw_below_drewN | apply below_drew1 | refine below_set ?_ GE155.out | refine below_set ?_ GE156.out) | exact HB.out)⟩
def l8_example.f  : Option (Int × List Int × (List (List (List Int)))) := some (3, (([0, 2] : List Int)), (([(([(([0, 0] : List Int)), (([3, 4] : List Int))] : List (List Int))), (([(([5] : List Int)), (([(-5)] : List Int))] : List (List Int)))] : List (List (List Int)))))
set_option maxHeartbeats 8000000 in
set_option maxRecDepth 100000 in
theorem l8_example.calls  (r1 : Int) (r2 : List Int) (r3 : List (List (List Int))) (w : World) (h : l8_example.f  = some (r1, r2, r3)) :
  Calls Try.prog 37 #[] w fun e w' => ∃ v1_ v2_ : Value, e = .returned (.agg #[.int .i64 r1, v1_, v2_]) ∧ Kd.R (Kd.int .i64) 3 w' w.heap.size (fun k_ => (w.heap.size ≤ k_)) v1_ r2 ∧ Kd.N (Kd.slice 22 (Kd.slice 3 (Kd.int .i64))) 39 w' w.heap.size (fun k_ => (w.heap.size ≤ k_) ∧ some k_ ≠ (v1_ : Value).ownBlock) v2_ r3 ∧ Below w.heap.size w w' := by
 have hu25 := Try.underlying25
 have HB := Aside0.mk (Below.refl w.heap.size w)
 have H : (some (3, (([0, 2] : List Int)), (([(([(([0, 0] : List Int)), (([3, 4] : List Int))] : List (List Int))), (([(([5] : List Int)), (([(-5)] : List Int))] : List (List Int)))] : List (List (List Int)))))) = some (r1, r2, r3) := h
 clear h
 obtain ⟨y162, hy162⟩ : ∃ y_ : List Int, y_ = (([0, 2] : List Int)) := ⟨_, rfl⟩
 replace H : (some (3, y162, (([(([(([0, 0] : List Int)), (([3, 4] : List Int))] : List (List Int))), (([(([5] : List Int)), (([(-5)] : List Int))] : List (List Int)))] : List (List (List Int)))))) = some (r1, r2, r3) := by first | (rw [hy162]; with_reducible exact H) | (have H2_ := (Option.bind_some _ _).symm.trans H; rw [hy162]; with_reducible exact H2_) | (have H2_ := (Option.bind_some _ _).symm.trans H; with_reducible exact H2_) | with_reducible exact H | (rw [hy162]; exact H) | exact H
 have Ny162 := Aside0.mk hy162
 clear hy162
 obtain ⟨y165, hy165⟩ : ∃ y_ : List Int, y_ = (([0, 0] : List Int)) := ⟨_, rfl⟩
 replace H : (some (3, y162, (([(([y165, (([3, 4] : List Int))] : List (List Int))), (([(([5] : List Int)), (([(-5)] : List Int))] : List (List Int)))] : List (List (List Int)))))) = some (r1, r2, r3) := by first | (rw [hy165]; with_reducible exact H) | (have H2_ := (Option.bind_some _ _).symm.trans H; rw [hy165]; with_reducible exact H2_) | (have H2_ := (Option.bind_some _ _).symm.trans H; with_reducible exact H2_) | with_reducible exact H | (rw [hy165]; exact H) | exact H
 have Ny165 := Aside0.mk hy165
 clear hy165
 obtain ⟨y168, hy168⟩ : ∃ y_ : List Int, y_ = (([3, 4] : List Int)) := ⟨_, rfl⟩
 replace H : (some (3, y162, (([(([y165, y168] : List (List Int))), (([(([5] : List Int)), (([(-5)] : List Int))] : List (List Int)))] : List (List (List Int)))))) = some (r1, r2, r3) := by first | (rw [hy168]; with_reducible exact H) | (have H2_ := (Option.bind_some _ _).symm.trans H; rw [hy168]; with_reducible exact H2_) | (have H2_ := (Option.bind_some _ _).symm.trans H; with_reducible exact H2_) | with_reducible exact H | (rw [hy168]; exact H) | exact H
 have Ny168 := Aside0.mk hy168
 clear hy168
 obtain ⟨y171, hy171⟩ : ∃ y_ : List (List Int), y_ = (([y165, y168] : List (List Int))) := ⟨_, rfl⟩
 replace H : (some (3, y162, (([y171, (([(([5] : List Int)), (([(-5)] : List Int))] : List (List Int)))] : List (List (List Int)))))) = some (r1, r2, r3) := by first | (rw [hy171]; with_reducible exact H) | (have H2_ := (Option.bind_some _ _).symm.trans H; rw [hy171]; with_reducible exact H2_) | (have H2_ := (Option.bind_some _ _).symm.trans H; with_reducible exact H2_) | with_reducible exact H | (rw [hy171]; exact H) | exact H
 have Ny171 := Aside0.mk hy171
 clear hy171
 obtain ⟨y174, hy174⟩ : ∃ y_ : List Int, y_ = (([5] : List Int)) := ⟨_, rfl⟩
 replace H : (some (3, y162, (([y171, (([y174, (([(-5)] : List Int))] : List (List Int)))] : List (List (List Int)))))) = some (r1, r2, r3) := by first | (rw [hy174]; with_reducible exact H) | (have H2_ := (Option.bind_some _ _).symm.trans H; rw [hy174]; with_reducible exact H2_) | (have H2_ := (Option.bind_some _ _).symm.trans H; with_reducible exact H2_) | with_reducible exact H | (rw [hy174]; exact H) | exact H
 have Ny174 := Aside0.mk hy174
 clear hy174
 obtain ⟨y177, hy177⟩ : ∃ y_ : List Int, y_ = (([(-5)] : List Int)) := ⟨_, rfl⟩
 replace H : (some (3, y162, (([y171, (([y174, y177] : List (List Int)))] : List (List (List Int)))))) = some (r1, r2, r3) := by first | (rw [hy177]; with_reducible exact H) | (have H2_ := (Option.bind_some _ _).symm.trans H; rw [hy177]; with_reducible exact H2_) | (have H2_ := (Option.bind_some _ _).symm.trans H; with_reducible exact H2_) | with_reducible exact H | (rw [hy177]; exact H) | exact H
 have Ny177 := Aside0.mk hy177
 clear hy177
 obtain ⟨y180, hy180⟩ : ∃ y_ : List (List Int), y_ = (([y174, y177] : List (List Int))) := ⟨_, rfl⟩
 replace H : (some (3, y162, (([y171, y180] : List (List (List Int)))))) = some (r1, r2, r3) := by first | (rw [hy180]; with_reducible exact H) | (have H2_ := (Option.bind_some _ _).symm.trans H; rw [hy180]; with_reducible exact H2_) | (have H2_ := (Option.bind_some _ _).symm.trans H; with_reducible exact H2_) | with_reducible exact H | (rw [hy180]; exact H) | exact H
 have Ny180 := Aside0.mk hy180
 clear hy180
 obtain ⟨y183, hy183⟩ : ∃ y_ : List (List (List Int)), y_ = (([y171, y180] : List (List (List Int)))) := ⟨_, rfl⟩
 replace H : (some (3, y162, y183)) = some (r1, r2, r3) := by first | (rw [hy183]; with_reducible exact H) | (have H2_ := (Option.bind_some _ _).symm.trans H; rw [hy183]; with_reducible exact H2_) | (have H2_ := (Option.bind_some _ _).symm.trans H; with_reducible exact H2_) | with_reducible exact H | (rw [hy183]; exact H) | exact H
 have Ny183 := Aside0.mk hy183
 clear hy183
 simp only [Option.some.injEq, Prod.mk.injEq] at H
 obtain ⟨rfl, rfl, rfl⟩ := H
 go_enter Try.func37, Try.ntmps37
 go_wp2_with (first | ((with_reducible refine gate_dst (N := 0) rfl ?_); refine box_event ?hg (N := 0) ?hd (cs := #[.int .i64 0, .slice none 0 0, .slice none 0 0]) (t := 25) ?hr ?_; (case hd => rfl); (case hg => rfl); (case hr => first | (go_simp; done) | (go_simp; rfl)); intro gb161 hg w1 hbox hb; have n0_ := Aside0.mk (below_step (by repeat (first | (with_reducible first | exact HB.out | apply below_alloc | apply pw_below_drewN | apply below_drew1) | exact HB.out)) hb); have n1_ := Aside0.mk (hbox); have n2_ := Aside0.mk ((by rw [hg]; exact (below_size (by repeat (first | (with_reducible first | exact HB.out | apply below_alloc | apply pw_below_drewN | apply below_drew1) | exact HB.out))) : w.heap.size ≤ gb161)); have n3_ := Aside0.mk ((by rw [hg]; exact (below_size (by repeat (first | (with_reducible first | exact HB.out | apply below_alloc | apply pw_below_drewN | apply below_drew1) | exact HB.out))) : w.heap.size ≤ gb161)); clear HB; have HB := n0_; have BK161 := n1_; have GW161 := n2_; have GE161 := n3_; clear n0_ n1_ n2_ n3_; clear hb hbox hg) | ((with_reducible refine gate_dst (N := 1) rfl ?_); refine Kd.R_lit (Kd.int .i64) _ 3 ?hg (N := 1) ?hd (xs := ([0, 2] : List Int)) (inner := [.int .i64 0, .int .i64 2]) (ok := fun _ => True) (okp := fun _ => True) ?hr ?hp (fun _ hk => hk) trivial (Below.refl _ _) (Nat.le_refl _) (by simp) ?_; (case hd => rfl); (case hg => rfl); (case hr => first | (go_simp; done) | (go_simp; rfl)); (case hp => exact (Reps.one (show Kd.M (Kd.int .i64) _ _ _ 0 [.int .i64 0] from rfl) (Reps.one (show Kd.M (Kd.int .i64) _ _ _ 2 [.int .i64 2] from rfl) (Reps.none _ _)))); intro v163 w2 ho3 hb hg_ hnew_; clear hg_ hnew_; (first | rw [← Ny162.out] at ho3 | (simp only [Int.reduceToNat] at ho3; rw [← Ny162.out] at ho3)); have n0_ := Aside0.mk (Kd.R_lower (Kd.R_newM (M := fun k_ => (w.heap.size ≤ k_)) ho3 (below_size (by repeat (first | (with_reducible first | exact HB.out | apply below_alloc | apply pw_below_drewN | apply below_drew1 | refine below_set ?_ GE161.out) | exact HB.out))) (fun k_ h_ => h_)) (below_size (by repeat (first | (with_reducible first | exact HB.out | apply below_alloc | apply pw_below_drewN | apply below_drew1 | refine below_set ?_ GE161.out) | exact HB.out)))); have n1_ := Aside0.mk (blk_below (g := gb161) (o := .cells #[.int .i64 0, .slice none 0 0, .slice none 0 0] 25 (0, 0)) (by (with_reducible repeat (first | refine blk_drewN ?_ _ | refine blk_drew ?_ | refine blk_alloc ?_ _)); exact BK161.out) hb); have n2_ := Aside0.mk (below_step (by repeat (first | (with_reducible first | exact HB.out | apply below_alloc | apply pw_below_drewN | apply below_drew1 | refine below_set ?_ GE161.out) | exact HB.out)) hb); clear BK161; clear HB; have HO164 := n0_; have BK161 := n1_; have HB := n2_; clear n0_ n1_ n2_; clear hb ho3) | ((with_reducible refine gate_dst (N := 2) rfl ?_); refine Kd.R_lit (Kd.int .i64) _ 3 ?hg (N := 2) ?hd (xs := ([0, 0] : List Int)) (inner := [.int .i64 0, .int .i64 0]) (ok := fun _ => True) (okp := fun _ => True) ?hr ?hp (fun _ hk => hk) trivial (Below.refl _ _) (Nat.le_refl _) (by simp) ?_; (case hd => rfl); (case hg => rfl); (case hr => first | (go_simp; done) | (go_simp; rfl)); (case hp => exact (Reps.one (show Kd.M (Kd.int .i64) _ _ _ 0 [.int .i64 0] from rfl) (Reps.one (show Kd.M (Kd.int .i64) _ _ _ 0 [.int .i64 0] from rfl) (Reps.none _ _)))); intro v166 w4 ho5 hb hg_ hnew_; clear hg_ hnew_; (first | rw [← Ny165.out] at ho5 | (simp only [Int.reduceToNat] at ho5; rw [← Ny165.out] at ho5)); have n0_ := Aside0.mk (Kd.R_elder' (by (with_reducible repeat (first | apply Kd.R_alloc | apply Kd.R_drewN | apply Kd.R_drew)); exact HO164.out) (Kd.R_base ho5) hb); have n1_ := Aside0.mk (Kd.R_lower (Kd.R_new' (Kd.R_newM (M := fun k_ => (w.heap.size ≤ k_)) ho5 (below_size (by repeat (first | (with_reducible first | exact HB.out | apply below_alloc | apply pw_below_drewN | apply below_drew1 | refine below_set ?_ GE161.out) | exact HB.out))) (fun k_ h_ => h_)) (Kd.R_lt (by (with_reducible repeat (first | apply Kd.R_alloc | apply Kd.R_drewN | apply Kd.R_drew)); exact HO164.out))) (below_size (by repeat (first | (with_reducible first | exact HB.out | apply below_alloc | apply pw_below_drewN | apply below_drew1 | refine below_set ?_ GE161.out) | exact HB.out)))); have n2_ := Aside0.mk (blk_below (g := gb161) (o := .cells #[.int .i64 0, .slice none 0 0, .slice none 0 0] 25 (0, 0)) (by (with_reducible repeat (first | refine blk_drewN ?_ _ | refine blk_drew ?_ | refine blk_alloc ?_ _)); exact BK161.out) hb); have n3_ := Aside0.mk (below_step (by repeat (first | (with_reducible first | exact HB.out | apply below_alloc | apply pw_below_drewN | apply below_drew1 | refine below_set ?_ GE161.out) | exact HB.out)) hb); clear HO164; clear BK161; clear HB; have HO164 := n0_; have HO167 := n1_; have BK161 := n2_; have HB := n3_; clear n0_ n1_ n2_ n3_; clear hb ho5) | ((with_reducible refine gate_dst (N := 3) rfl ?_); refine Kd.R_lit (Kd.int .i64) _ 3 ?hg (N := 3) ?hd (xs := ([3, 4] : List Int)) (inner := [.int .i64 3, .int .i64 4]) (ok := fun _ => True) (okp := fun _ => True) ?hr ?hp (fun _ hk => hk) trivial (Below.refl _ _) (Nat.le_refl _) (by simp) ?_; (case hd => rfl); (case hg => rfl); (case hr => first | (go_simp; done) | (go_simp; rfl)); (case hp => exact (Reps.one (show Kd.M (Kd.int .i64) _ _ _ 3 [.int .i64 3] from rfl) (Reps.one (show Kd.M (Kd.int .i64) _ _ _ 4 [.int .i64 4] from rfl) (Reps.none _ _)))); intro v169 w6 ho7 hb hg_ hnew_; clear hg_ hnew_; (first | rw [← Ny168.out] at ho7 | (simp only [Int.reduceToNat] at ho7; rw [← Ny168.out] at ho7)); have n0_ := Aside0.mk (Kd.R_elder' (by (with_reducible repeat (first | apply Kd.R_alloc | apply Kd.R_drewN | apply Kd.R_drew)); exact HO164.out) (Kd.R_base ho7) hb); have n1_ := Aside0.mk (Kd.R_elder' (by (with_reducible repeat (first | apply Kd.R_alloc | apply Kd.R_drewN | apply Kd.R_drew)); exact HO167.out) (Kd.R_base ho7) hb); have n2_ := Aside0.mk (Kd.R_lower (Kd.R_new' (Kd.R_new' (Kd.R_newM (M := fun k_ => (w.heap.size ≤ k_)) ho7 (below_size (by repeat (first | (with_reducible first | exact HB.out | apply below_alloc | apply pw_below_drewN | apply below_drew1 | refine below_set ?_ GE161.out) | exact HB.out))) (fun k_ h_ => h_)) (Kd.R_lt (by (with_reducible repeat (first | apply Kd.R_alloc | apply Kd.R_drewN | apply Kd.R_drew)); exact HO164.out))) (Kd.R_lt (by (with_reducible repeat (first | apply Kd.R_alloc | apply Kd.R_drewN | apply Kd.R_drew)); exact HO167.out))) (below_size (by repeat (first | (with_reducible first | exact HB.out | apply below_alloc | apply pw_below_drewN | apply below_drew1 | refine below_set ?_ GE161.out) | exact HB.out)))); have n3_ := Aside0.mk (blk_below (g := gb161) (o := .cells #[.int .i64 0, .slice none 0 0, .slice none 0 0] 25 (0, 0)) (by (with_reducible repeat (first | refine blk_drewN ?_ _ | refine blk_drew ?_ | refine blk_alloc ?_ _)); exact BK161.out) hb); have n4_ := Aside0.mk (below_step (by repeat (first | (with_reducible first | exact HB.out | apply below_alloc | apply pw_below_drewN | apply below_drew1 | refine below_set ?_ GE161.out) | exact HB.out)) hb); clear HO164; clear HO167; clear BK161; clear HB; have HO164 := n0_; have HO167 := n1_; have HO170 := n2_; have BK161 := n3_; have HB := n4_; clear n0_ n1_ n2_ n3_ n4_; clear hb ho7; obtain ⟨Ao8, co8, eo8⟩ := Kd.R_slice HO167.out; subst eo8; obtain ⟨Ao9, co9, eo9⟩ := Kd.R_slice HO170.out; subst eo9) | ((with_reducible refine gate_dst (N := 4) rfl ?_); refine Kd.N_lit (Kd.slice 3 (Kd.int .i64)) _ 22 ?hg (N' := 4) ?hd (xs := ([y165, y168] : List (List Int))) (inner := [.slice Ao8 y165.length co8, .slice Ao9 y168.length co9]) (ok := (fun k_ => (w.heap.size ≤ k_) ∧ some k_ ≠ (v163 : Value).ownBlock ∧ k_ ≠ gb161)) (okp := (fun k_ => (w.heap.size ≤ k_) ∧ some k_ ≠ (v163 : Value).ownBlock ∧ k_ ≠ gb161)) ?hr ?hp (fun _ hk => hk) ((show ∀ k_, w6.heap.size ≤ k_ → (fun k_ => (w.heap.size ≤ k_) ∧ some k_ ≠ (v163 : Value).ownBlock ∧ k_ ≠ gb161) k_ from fun k_ hk => ⟨(Nat.le_trans (below_size (by repeat (first | (with_reducible first | exact HB.out | apply below_alloc | apply pw_below_drewN | apply below_drew1 | refine below_set ?_ GE161.out) | exact HB.out))) hk), Kd.fresh' (Kd.R_lt (by (with_reducible repeat (first | apply Kd.R_alloc | apply Kd.R_drewN | apply Kd.R_drew)); exact HO164.out)) k_ hk, Kd.freshB (g := gb161) (o := .cells #[.int .i64 0, .slice none 0 0, .slice none 0 0] 25 (0, 0)) (by (with_reducible repeat (first | refine blk_drewN ?_ _ | refine blk_drew ?_ | refine blk_alloc ?_ _)); exact BK161.out) k_ hk⟩) _ (Nat.le_refl _)) (Below.refl _ _) (Nat.le_refl _) (by simp) ?_; (case hd => rfl); (case hg => rfl); (case hr => first | (go_simp; done) | (go_simp; rfl)); (case hp => exact (Reps.one (show Kd.FK (Kd.slice 3 (Kd.int .i64)) _ _ y165 [.slice Ao8 y165.length co8] from (Kd.FK_slice_mk (Kd.R_reads' (Kd.R_mono (ok' := (fun k_ => (w.heap.size ≤ k_) ∧ some k_ ≠ (v163 : Value).ownBlock ∧ k_ ≠ gb161)) (Kd.R_types (HO167.out) BK161.out (by decide)) (fun k_ hk => ⟨hk.1.1.1.1, ⟨hk.1.1.2, hk.2⟩⟩))).2.1 (Kd.R_F (Kd.R_mono (ok' := (fun k_ => (w.heap.size ≤ k_) ∧ some k_ ≠ (v163 : Value).ownBlock ∧ k_ ≠ gb161)) (Kd.R_types (HO167.out) BK161.out (by decide)) (fun k_ hk => ⟨hk.1.1.1.1, ⟨hk.1.1.2, hk.2⟩⟩))))) (Reps.one (show Kd.FK (Kd.slice 3 (Kd.int .i64)) _ _ y168 [.slice Ao9 y168.length co9] from (Kd.FK_slice_mk (Kd.R_reads' (Kd.R_mono (ok' := (fun k_ => (w.heap.size ≤ k_) ∧ some k_ ≠ (v163 : Value).ownBlock ∧ k_ ≠ gb161)) (Kd.R_types (HO170.out) BK161.out (by decide)) (fun k_ hk => ⟨hk.1.1.1.1, ⟨hk.1.1.2, hk.2⟩⟩))).2.1 (Kd.R_F (Kd.R_mono (ok' := (fun k_ => (w.heap.size ≤ k_) ∧ some k_ ≠ (v163 : Value).ownBlock ∧ k_ ≠ gb161)) (Kd.R_types (HO170.out) BK161.out (by decide)) (fun k_ hk => ⟨hk.1.1.1.1, ⟨hk.1.1.2, hk.2⟩⟩))))) (Reps.none _ _)))); intro v172 w10 ho11 hb hg_ hnew_; clear hg_ hnew_; (first | rw [← Ny171.out] at ho11 | (simp only [Int.reduceToNat] at ho11; rw [← Ny171.out] at ho11)); have n0_ := Aside0.mk (Kd.R_below (by (with_reducible repeat (first | apply Kd.R_alloc | apply Kd.R_drewN | apply Kd.R_drew)); exact HO164.out) hb); have n1_ := Aside0.mk (Kd.N_lower ho11 (below_size (by repeat (first | (with_reducible first | exact HB.out | apply below_alloc | apply pw_below_drewN | apply below_drew1 | refine below_set ?_ GE161.out) | exact HB.out)))); have n2_ := Aside0.mk (blk_below (g := gb161) (o := .cells #[.int .i64 0, .slice none 0 0, .slice none 0 0] 25 (0, 0)) (by (with_reducible repeat (first | refine blk_drewN ?_ _ | refine blk_drew ?_ | refine blk_alloc ?_ _)); exact BK161.out) hb); have n3_ := Aside0.mk (below_step (by repeat (first | (with_reducible first | exact HB.out | apply below_alloc | apply pw_below_drewN | apply below_drew1 | refine below_set ?_ GE161.out) | exact HB.out)) hb); clear HO164; clear BK161; clear HB; clear HO167; clear HO170; have HO164 := n0_; have HO173 := n1_; have BK161 := n2_; have HB := n3_; clear n0_ n1_ n2_ n3_; clear hb ho11) | ((with_reducible refine gate_dst (N := 5) rfl ?_); refine Kd.R_lit (Kd.int .i64) _ 3 ?hg (N := 5) ?hd (xs := ([5] : List Int)) (inner := [.int .i64 5]) (ok := fun _ => True) (okp := fun _ => True) ?hr ?hp (fun _ hk => hk) trivial (Below.refl _ _) (Nat.le_refl _) (by simp) ?_; (case hd => rfl); (case hg => rfl); (case hr => first | (go_simp; done) | (go_simp; rfl)); (case hp => exact (Reps.one (show Kd.M (Kd.int .i64) _ _ _ 5 [.int .i64 5] from rfl) (Reps.none _ _))); intro v175 w12 ho13 hb hg_ hnew_; clear hg_ hnew_; (first | rw [← Ny174.out] at ho13 | (simp only [Int.reduceToNat] at ho13; rw [← Ny174.out] at ho13)); have n0_ := Aside0.mk (Kd.R_elder' (by (with_reducible repeat (first | apply Kd.R_alloc | apply Kd.R_drewN | apply Kd.R_drew)); exact HO164.out) (Kd.R_base ho13) hb); have n1_ := Aside0.mk (Kd.N_elder' (by (with_reducible repeat (first | apply Kd.N_alloc | apply Kd.N_drewN | apply Kd.N_drew)); exact HO173.out) (Kd.R_base ho13) hb); have n2_ := Aside0.mk (Kd.R_lower (Kd.R_new' (Kd.R_newM (M := fun k_ => (w.heap.size ≤ k_)) ho13 (below_size (by repeat (first | (with_reducible first | exact HB.out | apply below_alloc | apply pw_below_drewN | apply below_drew1 | refine below_set ?_ GE161.out) | exact HB.out))) (fun k_ h_ => h_)) (Kd.R_lt (by (with_reducible repeat (first | apply Kd.R_alloc | apply Kd.R_drewN | apply Kd.R_drew)); exact HO164.out))) (below_size (by repeat (first | (with_reducible first | exact HB.out | apply below_alloc | apply pw_below_drewN | apply below_drew1 | refine below_set ?_ GE161.out) | exact HB.out)))); have n3_ := Aside0.mk (blk_below (g := gb161) (o := .cells #[.int .i64 0, .slice none 0 0, .slice none 0 0] 25 (0, 0)) (by (with_reducible repeat (first | refine blk_drewN ?_ _ | refine blk_drew ?_ | refine blk_alloc ?_ _)); exact BK161.out) hb); have n4_ := Aside0.mk (below_step (by repeat (first | (with_reducible first | exact HB.out | apply below_alloc | apply pw_below_drewN | apply below_drew1 | refine below_set ?_ GE161.out) | exact HB.out)) hb); clear HO164; clear HO173; clear BK161; clear HB; have HO164 := n0_; have HO173 := n1_; have HO176 := n2_; have BK161 := n3_; have HB := n4_; clear n0_ n1_ n2_ n3_ n4_; clear hb ho13) | ((with_reducible refine gate_dst (N := 6) rfl ?_); refine Kd.R_lit (Kd.int .i64) _ 3 ?hg (N := 6) ?hd (xs := ([(-5)] : List Int)) (inner := [.int .i64 (-5)]) (ok := fun _ => True) (okp := fun _ => True) ?hr ?hp (fun _ hk => hk) trivial (Below.refl _ _) (Nat.le_refl _) (by simp) ?_; (case hd => rfl); (case hg => rfl); (case hr => first | (go_simp; done) | (go_simp; rfl)); (case hp => exact (Reps.one (show Kd.M (Kd.int .i64) _ _ _ (-5) [.int .i64 (-5)] from rfl) (Reps.none _ _))); intro v178 w14 ho15 hb hg_ hnew_; clear hg_ hnew_; (first | rw [← Ny177.out] at ho15 | (simp only [Int.reduceToNat] at ho15; rw [← Ny177.out] at ho15)); have n0_ := Aside0.mk (Kd.R_elder' (by (with_reducible repeat (first | apply Kd.R_alloc | apply Kd.R_drewN | apply Kd.R_drew)); exact HO164.out) (Kd.R_base ho15) hb); have n1_ := Aside0.mk (Kd.N_elder' (by (with_reducible repeat (first | apply Kd.N_alloc | apply Kd.N_drewN | apply Kd.N_drew)); exact HO173.out) (Kd.R_base ho15) hb); have n2_ := Aside0.mk (Kd.R_elder' (by (with_reducible repeat (first | apply Kd.R_alloc | apply Kd.R_drewN | apply Kd.R_drew)); exact HO176.out) (Kd.R_base ho15) hb); have n3_ := Aside0.mk (Kd.R_lower (Kd.R_new' (Kd.R_new' (Kd.R_newM (M := fun k_ => (w.heap.size ≤ k_)) ho15 (below_size (by repeat (first | (with_reducible first | exact HB.out | apply below_alloc | apply pw_below_drewN | apply below_drew1 | refine below_set ?_ GE161.out) | exact HB.out))) (fun k_ h_ => h_)) (Kd.R_lt (by (with_reducible repeat (first | apply Kd.R_alloc | apply Kd.R_drewN | apply Kd.R_drew)); exact HO164.out))) (Kd.R_lt (by (with_reducible repeat (first | apply Kd.R_alloc | apply Kd.R_drewN | apply Kd.R_drew)); exact HO176.out))) (below_size (by repeat (first | (with_reducible first | exact HB.out | apply below_alloc | apply pw_below_drewN | apply below_drew1 | refine below_set ?_ GE161.out) | exact HB.out)))); have n4_ := Aside0.mk (blk_below (g := gb161) (o := .cells #[.int .i64 0, .slice none 0 0, .slice none 0 0] 25 (0, 0)) (by (with_reducible repeat (first | refine blk_drewN ?_ _ | refine blk_drew ?_ | refine blk_alloc ?_ _)); exact BK161.out) hb); have n5_ := Aside0.mk (below_step (by repeat (first | (with_reducible first | exact HB.out | apply below_alloc | apply pw_below_drewN | apply below_drew1 | refine below_set ?_ GE161.out) | exact HB.out)) hb); clear HO164; clear HO173; clear HO176; clear BK161; clear HB; have HO164 := n0_; have HO173 := n1_; have HO176 := n2_; have HO179 := n3_; have BK161 := n4_; have HB := n5_; clear n0_ n1_ n2_ n3_ n4_ n5_; clear hb ho15; obtain ⟨Ao16, co16, eo16⟩ := Kd.R_slice HO176.out; subst eo16; obtain ⟨Ao17, co17, eo17⟩ := Kd.R_slice HO179.out; subst eo17) | ((with_reducible refine gate_dst (N := 7) rfl ?_); refine Kd.N_lit (Kd.slice 3 (Kd.int .i64)) _ 22 ?hg (N' := 7) ?hd (xs := ([y174, y177] : List (List Int))) (inner := [.slice Ao16 y174.length co16, .slice Ao17 y177.length co17]) (ok := (fun k_ => (w.heap.size ≤ k_) ∧ some k_ ≠ (v163 : Value).ownBlock ∧ some k_ ≠ (v172 : Value).ownBlock ∧ k_ ≠ gb161)) (okp := (fun k_ => (w.heap.size ≤ k_) ∧ some k_ ≠ (v163 : Value).ownBlock ∧ some k_ ≠ (v172 : Value).ownBlock ∧ k_ ≠ gb161)) ?hr ?hp (fun _ hk => hk) ((show ∀ k_, w14.heap.size ≤ k_ → (fun k_ => (w.heap.size ≤ k_) ∧ some k_ ≠ (v163 : Value).ownBlock ∧ some k_ ≠ (v172 : Value).ownBlock ∧ k_ ≠ gb161) k_ from fun k_ hk => ⟨(Nat.le_trans (below_size (by repeat (first | (with_reducible first | exact HB.out | apply below_alloc | apply pw_below_drewN | apply below_drew1 | refine below_set ?_ GE161.out) | exact HB.out))) hk), Kd.fresh' (Kd.R_lt (by (with_reducible repeat (first | apply Kd.R_alloc | apply Kd.R_drewN | apply Kd.R_drew)); exact HO164.out)) k_ hk, Kd.fresh' (Kd.N_lt (by (with_reducible repeat (first | apply Kd.N_alloc | apply Kd.N_drewN | apply Kd.N_drew)); exact HO173.out)) k_ hk, Kd.freshB (g := gb161) (o := .cells #[.int .i64 0, .slice none 0 0, .slice none 0 0] 25 (0, 0)) (by (with_reducible repeat (first | refine blk_drewN ?_ _ | refine blk_drew ?_ | refine blk_alloc ?_ _)); exact BK161.out) k_ hk⟩) _ (Nat.le_refl _)) (Below.refl _ _) (Nat.le_refl _) (by simp) ?_; (case hd => rfl); (case hg => rfl); (case hr => first | (go_simp; done) | (go_simp; rfl)); (case hp => exact (Reps.one (show Kd.FK (Kd.slice 3 (Kd.int .i64)) _ _ y174 [.slice Ao16 y174.length co16] from (Kd.FK_slice_mk (Kd.R_reads' (Kd.R_mono (ok' := (fun k_ => (w.heap.size ≤ k_) ∧ some k_ ≠ (v163 : Value).ownBlock ∧ some k_ ≠ (v172 : Value).ownBlock ∧ k_ ≠ gb161)) (Kd.R_types (Kd.R_apart' (HO176.out) (Kd.N_typed HO173.out) (by decide)) BK161.out (by decide)) (fun k_ hk => ⟨hk.1.1.1.1.1, ⟨hk.1.1.1.2, ⟨hk.1.2, hk.2⟩⟩⟩))).2.1 (Kd.R_F (Kd.R_mono (ok' := (fun k_ => (w.heap.size ≤ k_) ∧ some k_ ≠ (v163 : Value).ownBlock ∧ some k_ ≠ (v172 : Value).ownBlock ∧ k_ ≠ gb161)) (Kd.R_types (Kd.R_apart' (HO176.out) (Kd.N_typed HO173.out) (by decide)) BK161.out (by decide)) (fun k_ hk => ⟨hk.1.1.1.1.1, ⟨hk.1.1.1.2, ⟨hk.1.2, hk.2⟩⟩⟩))))) (Reps.one (show Kd.FK (Kd.slice 3 (Kd.int .i64)) _ _ y177 [.slice Ao17 y177.length co17] from (Kd.FK_slice_mk (Kd.R_reads' (Kd.R_mono (ok' := (fun k_ => (w.heap.size ≤ k_) ∧ some k_ ≠ (v163 : Value).ownBlock ∧ some k_ ≠ (v172 : Value).ownBlock ∧ k_ ≠ gb161)) (Kd.R_types (Kd.R_apart' (HO179.out) (Kd.N_typed HO173.out) (by decide)) BK161.out (by decide)) (fun k_ hk => ⟨hk.1.1.1.1.1, ⟨hk.1.1.1.2, ⟨hk.1.2, hk.2⟩⟩⟩))).2.1 (Kd.R_F (Kd.R_mono (ok' := (fun k_ => (w.heap.size ≤ k_) ∧ some k_ ≠ (v163 : Value).ownBlock ∧ some k_ ≠ (v172 : Value).ownBlock ∧ k_ ≠ gb161)) (Kd.R_types (Kd.R_apart' (HO179.out) (Kd.N_typed HO173.out) (by decide)) BK161.out (by decide)) (fun k_ hk => ⟨hk.1.1.1.1.1, ⟨hk.1.1.1.2, ⟨hk.1.2, hk.2⟩⟩⟩))))) (Reps.none _ _)))); intro v181 w18 ho19 hb hg_ hnew_; clear hg_ hnew_; (first | rw [← Ny180.out] at ho19 | (simp only [Int.reduceToNat] at ho19; rw [← Ny180.out] at ho19)); have n0_ := Aside0.mk (Kd.R_below (by (with_reducible repeat (first | apply Kd.R_alloc | apply Kd.R_drewN | apply Kd.R_drew)); exact HO164.out) hb); have n1_ := Aside0.mk (Kd.N_elder' (by (with_reducible repeat (first | apply Kd.N_alloc | apply Kd.N_drewN | apply Kd.N_drew)); exact HO173.out) (by first | exact Kd.N_base ho19 | exact Kd.S_base ho19 | exact Kd.R_base ho19) hb); have n2_ := Aside0.mk (Kd.N_lower ho19 (below_size (by repeat (first | (with_reducible first | exact HB.out | apply below_alloc | apply pw_below_drewN | apply below_drew1 | refine below_set ?_ GE161.out) | exact HB.out)))); have n3_ := Aside0.mk (blk_below (g := gb161) (o := .cells #[.int .i64 0, .slice none 0 0, .slice none 0 0] 25 (0, 0)) (by (with_reducible repeat (first | refine blk_drewN ?_ _ | refine blk_drew ?_ | refine blk_alloc ?_ _)); exact BK161.out) hb); have n4_ := Aside0.mk (below_step (by repeat (first | (with_reducible first | exact HB.out | apply below_alloc | apply pw_below_drewN | apply below_drew1 | refine below_set ?_ GE161.out) | exact HB.out)) hb); clear HO164; clear HO173; clear BK161; clear HB; clear HO176; clear HO179; have HO164 := n0_; have HO173 := n1_; have HO182 := n2_; have BK161 := n3_; have HB := n4_; clear n0_ n1_ n2_ n3_ n4_; clear hb ho19; obtain ⟨Ao20, co20, eo20⟩ := Kd.N_slice HO173.out; subst eo20; obtain ⟨Ao21, co21, eo21⟩ := Kd.N_slice HO182.out; subst eo21) | ((with_reducible refine gate_dst (N := 8) rfl ?_); refine Kd.N_lit (Kd.slice 22 (Kd.slice 3 (Kd.int .i64))) _ 39 ?hg (N' := 8) ?hd (xs := ([y171, y180] : List (List (List Int)))) (inner := [.slice Ao20 y171.length co20, .slice Ao21 y180.length co21]) (ok := (fun k_ => (w.heap.size ≤ k_) ∧ some k_ ≠ (v163 : Value).ownBlock ∧ k_ ≠ gb161)) (okp := (fun k_ => (w.heap.size ≤ k_) ∧ some k_ ≠ (v163 : Value).ownBlock ∧ k_ ≠ gb161)) ?hr ?hp (fun _ hk => hk) ((show ∀ k_, w18.heap.size ≤ k_ → (fun k_ => (w.heap.size ≤ k_) ∧ some k_ ≠ (v163 : Value).ownBlock ∧ k_ ≠ gb161) k_ from fun k_ hk => ⟨(Nat.le_trans (below_size (by repeat (first | (with_reducible first | exact HB.out | apply below_alloc | apply pw_below_drewN | apply below_drew1 | refine below_set ?_ GE161.out) | exact HB.out))) hk), Kd.fresh' (Kd.R_lt (by (with_reducible repeat (first | apply Kd.R_alloc | apply Kd.R_drewN | apply Kd.R_drew)); exact HO164.out)) k_ hk, Kd.freshB (g := gb161) (o := .cells #[.int .i64 0, .slice none 0 0, .slice none 0 0] 25 (0, 0)) (by (with_reducible repeat (first | refine blk_drewN ?_ _ | refine blk_drew ?_ | refine blk_alloc ?_ _)); exact BK161.out) k_ hk⟩) _ (Nat.le_refl _)) (Below.refl _ _) (Nat.le_refl _) (by simp) ?_; (case hd => rfl); (case hg => rfl); (case hr => first | (go_simp; done) | (go_simp; rfl)); (case hp => exact (Reps.one (show Kd.FK (Kd.slice 22 (Kd.slice 3 (Kd.int .i64))) _ _ y171 [.slice Ao20 y171.length co20] from (Kd.FK_slice_mk (Kd.N_reads' (Kd.N_mono (ok' := (fun k_ => (w.heap.size ≤ k_) ∧ some k_ ≠ (v163 : Value).ownBlock ∧ k_ ≠ gb161)) (HO173.out) (fun k_ hk => ⟨hk.1.1.1.1, ⟨hk.1.1.1.2.1, hk.1.1.1.2.2⟩⟩))).2.1 (Kd.N_F (Kd.N_mono (ok' := (fun k_ => (w.heap.size ≤ k_) ∧ some k_ ≠ (v163 : Value).ownBlock ∧ k_ ≠ gb161)) (HO173.out) (fun k_ hk => ⟨hk.1.1.1.1, ⟨hk.1.1.1.2.1, hk.1.1.1.2.2⟩⟩))))) (Reps.one (show Kd.FK (Kd.slice 22 (Kd.slice 3 (Kd.int .i64))) _ _ y180 [.slice Ao21 y180.length co21] from (Kd.FK_slice_mk (Kd.N_reads' (Kd.N_mono (ok' := (fun k_ => (w.heap.size ≤ k_) ∧ some k_ ≠ (v163 : Value).ownBlock ∧ k_ ≠ gb161)) (HO182.out) (fun k_ hk => ⟨hk.1, ⟨hk.2.1, hk.2.2.2⟩⟩))).2.1 (Kd.N_F (Kd.N_mono (ok' := (fun k_ => (w.heap.size ≤ k_) ∧ some k_ ≠ (v163 : Value).ownBlock ∧ k_ ≠ gb161)) (HO182.out) (fun k_ hk => ⟨hk.1, ⟨hk.2.1, hk.2.2.2⟩⟩))))) (Reps.none _ _)))); intro v184 w22 ho23 hb hg_ hnew_; clear hg_ hnew_; (first | rw [← Ny183.out] at ho23 | (simp only [Int.reduceToNat] at ho23; rw [← Ny183.out] at ho23)); have n0_ := Aside0.mk (Kd.R_below (by (with_reducible repeat (first | apply Kd.R_alloc | apply Kd.R_drewN | apply Kd.R_drew)); exact HO164.out) hb); have n1_ := Aside0.mk (Kd.N_lower ho23 (below_size (by repeat (first | (with_reducible first | exact HB.out | apply below_alloc | apply pw_below_drewN | apply below_drew1 | refine below_set ?_ GE161.out) | exact HB.out)))); have n2_ := Aside0.mk (blk_below (g := gb161) (o := .cells #[.int .i64 0, .slice none 0 0, .slice none 0 0] 25 (0, 0)) (by (with_reducible repeat (first | refine blk_drewN ?_ _ | refine blk_drew ?_ | refine blk_alloc ?_ _)); exact BK161.out) hb); have n3_ := Aside0.mk (below_step (by repeat (first | (with_reducible first | exact HB.out | apply below_alloc | apply pw_below_drewN | apply below_drew1 | refine below_set ?_ GE161.out) | exact HB.out)) hb); clear HO164; clear BK161; clear HB; clear HO173; clear HO182; have HO164 := n0_; have HO185 := n1_; have BK161 := n2_; have HB := n3_; clear n0_ n1_ n2_ n3_; clear hb ho23; obtain ⟨Ao24, co24, eo24⟩ := Kd.N_slice HO185.out; subst eo24; obtain ⟨Ao25, co25, eo25⟩ := Kd.R_slice HO164.out; subst eo25; have hcz26_0 : w22.cell? ⟨gb161, 0, none⟩ = some (.int .i64 0) := (blk_cell BK161.out 0).trans rfl; have hcz26_1 : w22.cell? ⟨gb161, 1, none⟩ = some (.slice none 0 0) := (blk_cell BK161.out 1).trans rfl; have hcz26_2 : w22.cell? ⟨gb161, 2, none⟩ = some (.slice none 0 0) := (blk_cell BK161.out 2).trans rfl; have hfz26_0 := blk_frozen BK161.out 0; have hfz26_1 := blk_frozen BK161.out 1; have hfz26_2 := blk_frozen BK161.out 2))
 refine bodyPost_ret (results_cell_row rfl _ _ gb161 25 #[.int .i64 3, .slice Ao25 y162.length co25, .slice Ao24 y183.length co24] (0, 0) _ rfl (by (with_reducible repeat (first | refine blk_drewN ?_ _ | refine blk_drew ?_ | refine blk_alloc ?_ _)); refine blk_put (cs := #[.int .i64 3, .slice Ao25 y162.length co25, .slice none 0 0]) ?_ 2 _ rfl; (with_reducible repeat (first | refine blk_drewN ?_ _ | refine blk_drew ?_ | refine blk_alloc ?_ _)); refine blk_put (cs := #[.int .i64 3, .slice none 0 0, .slice none 0 0]) ?_ 1 _ rfl; (with_reducible repeat (first | refine blk_drewN ?_ _ | refine blk_drew ?_ | refine blk_alloc ?_ _)); refine blk_put (cs := #[.int .i64 0, .slice none 0 0, .slice none 0 0]) ?_ 0 _ rfl; (with_reducible repeat (first | refine blk_drewN ?_ _ | refine blk_drew ?_ | refine blk_alloc ?_ _)); exact BK161.out) Try.underlying25 rfl (by kernel_rfl)) rfl ?_
 exact ⟨_, _, by first | rfl | (simp [errW_none, errW_some] <;> rfl) | (simp [*, errW_none, errW_some] <;> rfl), by (with_reducible repeat (first | apply Kd.R_alloc | apply Kd.R_drewN | apply Kd.R_drew)); exact Kd.R_mono (Kd.R_far (p := ⟨gb161, 2, none⟩) (Kd.R_far (p := ⟨gb161, 1, none⟩) (Kd.R_far (p := ⟨gb161, 0, none⟩) (Kd.R_types HO164.out BK161.out (by decide)) (fun _ hk => hk.2) (.int .i64 3)) (fun _ hk => hk.2) (.slice Ao25 y162.length co25)) (fun _ hk => hk.2) (.slice Ao24 y183.length co24)) (fun _ hk => hk.1.1.1.1.1.1), by (with_reducible repeat (first | apply Kd.N_alloc | apply Kd.N_drewN | apply Kd.N_drew)); exact Kd.N_mono (Kd.N_far (p := ⟨gb161, 2, none⟩) (Kd.N_far (p := ⟨gb161, 1, none⟩) (Kd.N_far (p := ⟨gb161, 0, none⟩) (Kd.N_mono HO185.out (fun k_ hk => (⟨hk, hk.2.2⟩ : _ ∧ k_ ≠ gb161))) (fun _ hk => hk.2) (.int .i64 3)) (fun _ hk => hk.2) (.slice Ao25 y162.length co25)) (fun _ hk => hk.2) (.slice Ao24 y183.length co24)) (fun _ hk => ⟨hk.1.1, hk.1.2.1⟩), by repeat (first | (with_reducible first | exact HB.out | apply below_alloc | apply pw_below_drewN | apply below_drew1 | refine below_set ?_ GE161.out) | exact HB.out)⟩
end Go.Proofs.Ytgpdfalopdhjlaa.Q
end
