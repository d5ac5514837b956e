/- A part of the proof of PivotBoundsAsSpecified: what the row's text reaches (packed by a program of this claim out of its texts). -/
import Derived.Test.YtoidpkpgeeeggaaKPivotBoundsAsSpecifiedc
section
namespace Go.Proofs.Ytoidpkpgeeeggaa.Q
open Go.RowKit Go.Proofs.YtoidpkpgeeeggaaW.PrintWords Go.Proofs.YtoidpkpgeeeggaaW.PrintLast Go.Proofs.YtoidpkpgeeeggaaW.PrintMore
attribute [local go_sem] max2_int min2_int max_two min_two max_three min_three max_four min_four   -- for this text's walks alone
set_option linter.unusedVariables false
set_option linter.unusedSimpArgs false
def l9_sanity.j0 : Nat → List Int → List Int → Int → Int → Int → List (S57) → Int → Int → Bool → Option (Bool)
 | 0, _, _, _, _, _, _, _, _, _ => none
 | k + 1, x3, x5, x7, x9, x10, x12, x14, x16, x18 => (r9_Same.f k x3 (([0, 1, 2] : List Int))).bind fun t262 => (if t262 = true then ((r9_Same.f k x5 (([0] : List Int))).bind fun t266 => (if t266 = true then (if x7 = 4 then (if x9 = 1 then (if x18 = true then (if x10 = 4 then ((r9_SameShells.f k x12 (([(⟨4, 6⟩ : S57), (⟨4, 6⟩ : S57)] : List (S57)))).bind fun t270 => (if t270 = true then (if x14 = 4 then (if x16 = 6 then ((pivot_In.f k x12 (([5, 5] : List Int))).bind fun t274 => (some t274)) else (some false)) else (some false)) else (some false))) else (some false)) else (some false)) else (if x18 = true then (some false) else (some false))) else (if x18 = true then (some false) else (some false))) else (if x18 = true then (some false) else (some false)))) else (if x18 = true then (some false) else (some false)))
def l9_sanity.f (k : Nat)  : Option (Bool) := (some (([(([0] : List Int)), (([10] : List Int)), (([4] : List Int)), (([6] : List Int)), (([10] : List Int))] : List (List Int)) : List (List Int))).bind fun y199 => ((some (([(([0] : List Int)), (([10] : List Int))] : List (List Int)) : List (List Int))).bind fun y208 => ((pivot_Choose.f 1 y199 3).bind fun bt211 => ((pivot_Choose.f 1 (([(([0] : List Int)), (([0] : List Int))] : List (List Int))) 2).bind fun bt224 => ((pivot_Cover.f k 1 y208 y199).bind fun bt228 => ((pivot_Nearest.f k 1 y208 (([6] : List Int))).bind fun bt233 => ((pivot_Shells.f 1 y208 (([(([4] : List Int)), (([6] : List Int))] : List (List Int)))).bind fun bt245 => ((pivot_Low.f 1 bt245.1 (([0, 10] : List Int))).bind fun bt252 => ((pivot_High.f 1 bt245.1 (([0, 10] : List Int))).bind fun bt257 => (if bt211.2 = 0 then (if bt224.2 = 0 then (if bt228.2 = 0 then (if bt233.2.2 = 0 then (if bt245.2 = 0 then (if bt252.2 = 0 then (l9_sanity.j0 k bt211.1 bt224.1 bt228.1 bt233.1 bt233.2.1 bt245.1 bt252.1 bt257.1 (bt257.2 == 0)) else (l9_sanity.j0 k bt211.1 bt224.1 bt228.1 bt233.1 bt233.2.1 bt245.1 bt252.1 bt257.1 false)) else (l9_sanity.j0 k bt211.1 bt224.1 bt228.1 bt233.1 bt233.2.1 bt245.1 bt252.1 bt257.1 false)) else (l9_sanity.j0 k bt211.1 bt224.1 bt228.1 bt233.1 bt233.2.1 bt245.1 bt252.1 bt257.1 false)) else (l9_sanity.j0 k bt211.1 bt224.1 bt228.1 bt233.1 bt233.2.1 bt245.1 bt252.1 bt257.1 false)) else (l9_sanity.j0 k bt211.1 bt224.1 bt228.1 bt233.1 bt233.2.1 bt245.1 bt252.1 bt257.1 false)) else (l9_sanity.j0 k bt211.1 bt224.1 bt228.1 bt233.1 bt233.2.1 bt245.1 bt252.1 bt257.1 false))))))))))
theorem l9_sanity.mono_l : ∀ k, (∀ y0 y1 y2 y3 y4 y5 y6 y7 y8, LeO (l9_sanity.j0 k y0 y1 y2 y3 y4 y5 y6 y7 y8) (l9_sanity.j0 (k + 1) y0 y1 y2 y3 y4 y5 y6 y7 y8))
 | 0 => fun _ _ _ _ _ _ _ _ _ r h => by simp [l9_sanity.j0] at h
 | k + 1 => by
  have ih0 := l9_sanity.mono_l k
  ·intro y0 y1 y2 y3 y4 y5 y6 y7 y8
   unfold l9_sanity.j0
   repeat' first
   | (with_reducible exact ih0 _ _ _ _ _ _ _ _ _)
   | (with_reducible exact r9_Same.mono _ _ _)
   | (with_reducible exact r9_SameShells.mono _ _ _)
   | (with_reducible exact pivot_Cover.mono _ _ _ _)
   | (with_reducible exact pivot_In.mono _ _ _)
   | (with_reducible exact pivot_Nearest.mono _ _ _ _)
   | (with_reducible exact LeO.refl _)
   | (with_reducible exact LeO.none _)
   | (with_reducible refine LeO.ite ?_ ?_)
   | (with_reducible refine LeO.bind ?_ (fun _ => ?_))
   | exact ih0 _ _ _ _ _ _ _ _ _
   | exact r9_Same.mono _ _ _
   | exact r9_SameShells.mono _ _ _
   | exact pivot_Cover.mono _ _ _ _
   | exact pivot_In.mono _ _ _
   | exact pivot_Nearest.mono _ _ _ _
   | exact LeO.none _
   | refine LeO.ite ?_ ?_
   | refine LeO.bind ?_ (fun _ => ?_)
theorem l9_sanity.mono : ∀ k, LeO (l9_sanity.f k ) (l9_sanity.f (k + 1) ) := by
 intro  k
 have ih0 := l9_sanity.mono_l k
 unfold l9_sanity.f
 repeat' first
   | (with_reducible exact ih0 _ _ _ _ _ _ _ _ _)
   | (with_reducible exact r9_Same.mono _ _ _)
   | (with_reducible exact r9_SameShells.mono _ _ _)
   | (with_reducible exact pivot_Cover.mono _ _ _ _)
   | (with_reducible exact pivot_In.mono _ _ _)
   | (with_reducible exact pivot_Nearest.mono _ _ _ _)
   | (with_reducible exact LeO.refl _)
   | (with_reducible exact LeO.none _)
   | (with_reducible refine LeO.ite ?_ ?_)
   | (with_reducible refine LeO.bind ?_ (fun _ => ?_))
   | exact ih0 _ _ _ _ _ _ _ _ _
   | exact r9_Same.mono _ _ _
   | exact r9_SameShells.mono _ _ _
   | exact pivot_Cover.mono _ _ _ _
   | exact pivot_In.mono _ _ _
   | exact pivot_Nearest.mono _ _ _ _
   | exact LeO.none _
   | refine LeO.ite ?_ ?_
   | refine LeO.bind ?_ (fun _ => ?_)
set_option maxHeartbeats 8000000 in
set_option maxRecDepth 100000 in
theorem l9_sanity.calls (k : Nat)  (r : Bool) (w : World) (h : l9_sanity.f k  = some r) (hT : r = true) :
  Calls Try.prog 10 #[] w fun e w' => e = .returned (.bool r) ∧ Below w.heap.size w w' := by
 have HT := Aside0.mk hT
 clear hT
 have hu57 := Try.underlying57
 have HB := Aside0.mk (Below.refl w.heap.size w)
 have H : ((some (([(([0] : List Int)), (([10] : List Int)), (([4] : List Int)), (([6] : List Int)), (([10] : List Int))] : List (List Int)) : List (List Int))).bind fun y199 => ((some (([(([0] : List Int)), (([10] : List Int))] : List (List Int)) : List (List Int))).bind fun y208 => ((pivot_Choose.f 1 y199 3).bind fun bt211 => ((pivot_Choose.f 1 (([(([0] : List Int)), (([0] : List Int))] : List (List Int))) 2).bind fun bt224 => ((pivot_Cover.f k 1 y208 y199).bind fun bt228 => ((pivot_Nearest.f k 1 y208 (([6] : List Int))).bind fun bt233 => ((pivot_Shells.f 1 y208 (([(([4] : List Int)), (([6] : List Int))] : List (List Int)))).bind fun bt245 => ((pivot_Low.f 1 bt245.1 (([0, 10] : List Int))).bind fun bt252 => ((pivot_High.f 1 bt245.1 (([0, 10] : List Int))).bind fun bt257 => (if bt211.2 = 0 then (if bt224.2 = 0 then (if bt228.2 = 0 then (if bt233.2.2 = 0 then (if bt245.2 = 0 then (if bt252.2 = 0 then (l9_sanity.j0 k bt211.1 bt224.1 bt228.1 bt233.1 bt233.2.1 bt245.1 bt252.1 bt257.1 (bt257.2 == 0)) else (l9_sanity.j0 k bt211.1 bt224.1 bt228.1 bt233.1 bt233.2.1 bt245.1 bt252.1 bt257.1 false)) else (l9_sanity.j0 k bt211.1 bt224.1 bt228.1 bt233.1 bt233.2.1 bt245.1 bt252.1 bt257.1 false)) else (l9_sanity.j0 k bt211.1 bt224.1 bt228.1 bt233.1 bt233.2.1 bt245.1 bt252.1 bt257.1 false)) else (l9_sanity.j0 k bt211.1 bt224.1 bt228.1 bt233.1 bt233.2.1 bt245.1 bt252.1 bt257.1 false)) else (l9_sanity.j0 k bt211.1 bt224.1 bt228.1 bt233.1 bt233.2.1 bt245.1 bt252.1 bt257.1 false)) else (l9_sanity.j0 k bt211.1 bt224.1 bt228.1 bt233.1 bt233.2.1 bt245.1 bt252.1 bt257.1 false))))))))))) = some r := h
 clear h
 obtain ⟨y184, hy184⟩ : ∃ y_ : List Int, y_ = (([0] : List Int)) := ⟨_, rfl⟩
 replace H : ((some (([y184, (([10] : List Int)), (([4] : List Int)), (([6] : List Int)), (([10] : List Int))] : List (List Int)) : List (List Int))).bind fun y199 => ((some (([(([0] : List Int)), (([10] : List Int))] : List (List Int)) : List (List Int))).bind fun y208 => ((pivot_Choose.f 1 y199 3).bind fun bt211 => ((pivot_Choose.f 1 (([(([0] : List Int)), (([0] : List Int))] : List (List Int))) 2).bind fun bt224 => ((pivot_Cover.f k 1 y208 y199).bind fun bt228 => ((pivot_Nearest.f k 1 y208 (([6] : List Int))).bind fun bt233 => ((pivot_Shells.f 1 y208 (([(([4] : List Int)), (([6] : List Int))] : List (List Int)))).bind fun bt245 => ((pivot_Low.f 1 bt245.1 (([0, 10] : List Int))).bind fun bt252 => ((pivot_High.f 1 bt245.1 (([0, 10] : List Int))).bind fun bt257 => (if bt211.2 = 0 then (if bt224.2 = 0 then (if bt228.2 = 0 then (if bt233.2.2 = 0 then (if bt245.2 = 0 then (if bt252.2 = 0 then (l9_sanity.j0 k bt211.1 bt224.1 bt228.1 bt233.1 bt233.2.1 bt245.1 bt252.1 bt257.1 (bt257.2 == 0)) else (l9_sanity.j0 k bt211.1 bt224.1 bt228.1 bt233.1 bt233.2.1 bt245.1 bt252.1 bt257.1 false)) else (l9_sanity.j0 k bt211.1 bt224.1 bt228.1 bt233.1 bt233.2.1 bt245.1 bt252.1 bt257.1 false)) else (l9_sanity.j0 k bt211.1 bt224.1 bt228.1 bt233.1 bt233.2.1 bt245.1 bt252.1 bt257.1 false)) else (l9_sanity.j0 k bt211.1 bt224.1 bt228.1 bt233.1 bt233.2.1 bt245.1 bt252.1 bt257.1 false)) else (l9_sanity.j0 k bt211.1 bt224.1 bt228.1 bt233.1 bt233.2.1 bt245.1 bt252.1 bt257.1 false)) else (l9_sanity.j0 k bt211.1 bt224.1 bt228.1 bt233.1 bt233.2.1 bt245.1 bt252.1 bt257.1 false))))))))))) = some r := by first | (rw [hy184]; with_reducible exact H) | (have H2_ := (Option.bind_some _ _).symm.trans H; rw [hy184]; with_reducible exact H2_) | (have H2_ := (Option.bind_some _ _).symm.trans H; with_reducible exact H2_) | with_reducible exact H | (rw [hy184]; exact H) | exact H
 have Ny184 := Aside0.mk hy184
 clear hy184
 obtain ⟨y187, hy187⟩ : ∃ y_ : List Int, y_ = (([10] : List Int)) := ⟨_, rfl⟩
 replace H : ((some (([y184, y187, (([4] : List Int)), (([6] : List Int)), (([10] : List Int))] : List (List Int)) : List (List Int))).bind fun y199 => ((some (([(([0] : List Int)), (([10] : List Int))] : List (List Int)) : List (List Int))).bind fun y208 => ((pivot_Choose.f 1 y199 3).bind fun bt211 => ((pivot_Choose.f 1 (([(([0] : List Int)), (([0] : List Int))] : List (List Int))) 2).bind fun bt224 => ((pivot_Cover.f k 1 y208 y199).bind fun bt228 => ((pivot_Nearest.f k 1 y208 (([6] : List Int))).bind fun bt233 => ((pivot_Shells.f 1 y208 (([(([4] : List Int)), (([6] : List Int))] : List (List Int)))).bind fun bt245 => ((pivot_Low.f 1 bt245.1 (([0, 10] : List Int))).bind fun bt252 => ((pivot_High.f 1 bt245.1 (([0, 10] : List Int))).bind fun bt257 => (if bt211.2 = 0 then (if bt224.2 = 0 then (if bt228.2 = 0 then (if bt233.2.2 = 0 then (if bt245.2 = 0 then (if bt252.2 = 0 then (l9_sanity.j0 k bt211.1 bt224.1 bt228.1 bt233.1 bt233.2.1 bt245.1 bt252.1 bt257.1 (bt257.2 == 0)) else (l9_sanity.j0 k bt211.1 bt224.1 bt228.1 bt233.1 bt233.2.1 bt245.1 bt252.1 bt257.1 false)) else (l9_sanity.j0 k bt211.1 bt224.1 bt228.1 bt233.1 bt233.2.1 bt245.1 bt252.1 bt257.1 false)) else (l9_sanity.j0 k bt211.1 bt224.1 bt228.1 bt233.1 bt233.2.1 bt245.1 bt252.1 bt257.1 false)) else (l9_sanity.j0 k bt211.1 bt224.1 bt228.1 bt233.1 bt233.2.1 bt245.1 bt252.1 bt257.1 false)) else (l9_sanity.j0 k bt211.1 bt224.1 bt228.1 bt233.1 bt233.2.1 bt245.1 bt252.1 bt257.1 false)) else (l9_sanity.j0 k bt211.1 bt224.1 bt228.1 bt233.1 bt233.2.1 bt245.1 bt252.1 bt257.1 false))))))))))) = some r := by first | (rw [hy187]; with_reducible exact H) | (have H2_ := (Option.bind_some _ _).symm.trans H; rw [hy187]; with_reducible exact H2_) | (have H2_ := (Option.bind_some _ _).symm.trans H; with_reducible exact H2_) | with_reducible exact H | (rw [hy187]; exact H) | exact H
 have Ny187 := Aside0.mk hy187
 clear hy187
 obtain ⟨y190, hy190⟩ : ∃ y_ : List Int, y_ = (([4] : List Int)) := ⟨_, rfl⟩
 replace H : ((some (([y184, y187, y190, (([6] : List Int)), (([10] : List Int))] : List (List Int)) : List (List Int))).bind fun y199 => ((some (([(([0] : List Int)), (([10] : List Int))] : List (List Int)) : List (List Int))).bind fun y208 => ((pivot_Choose.f 1 y199 3).bind fun bt211 => ((pivot_Choose.f 1 (([(([0] : List Int)), (([0] : List Int))] : List (List Int))) 2).bind fun bt224 => ((pivot_Cover.f k 1 y208 y199).bind fun bt228 => ((pivot_Nearest.f k 1 y208 (([6] : List Int))).bind fun bt233 => ((pivot_Shells.f 1 y208 (([(([4] : List Int)), (([6] : List Int))] : List (List Int)))).bind fun bt245 => ((pivot_Low.f 1 bt245.1 (([0, 10] : List Int))).bind fun bt252 => ((pivot_High.f 1 bt245.1 (([0, 10] : List Int))).bind fun bt257 => (if bt211.2 = 0 then (if bt224.2 = 0 then (if bt228.2 = 0 then (if bt233.2.2 = 0 then (if bt245.2 = 0 then (if bt252.2 = 0 then (l9_sanity.j0 k bt211.1 bt224.1 bt228.1 bt233.1 bt233.2.1 bt245.1 bt252.1 bt257.1 (bt257.2 == 0)) else (l9_sanity.j0 k bt211.1 bt224.1 bt228.1 bt233.1 bt233.2.1 bt245.1 bt252.1 bt257.1 false)) else (l9_sanity.j0 k bt211.1 bt224.1 bt228.1 bt233.1 bt233.2.1 bt245.1 bt252.1 bt257.1 false)) else (l9_sanity.j0 k bt211.1 bt224.1 bt228.1 bt233.1 bt233.2.1 bt245.1 bt252.1 bt257.1 false)) else (l9_sanity.j0 k bt211.1 bt224.1 bt228.1 bt233.1 bt233.2.1 bt245.1 bt252.1 bt257.1 false)) else (l9_sanity.j0 k bt211.1 bt224.1 bt228.1 bt233.1 bt233.2.1 bt245.1 bt252.1 bt257.1 false)) else (l9_sanity.j0 k bt211.1 bt224.1 bt228.1 bt233.1 bt233.2.1 bt245.1 bt252.1 bt257.1 false))))))))))) = some r := by first | (rw [hy190]; with_reducible exact H) | (have H2_ := (Option.bind_some _ _).symm.trans H; rw [hy190]; with_reducible exact H2_) | (have H2_ := (Option.bind_some _ _).symm.trans H; with_reducible exact H2_) | with_reducible exact H | (rw [hy190]; exact H) | exact H
 have Ny190 := Aside0.mk hy190
 clear hy190
 obtain ⟨y193, hy193⟩ : ∃ y_ : List Int, y_ = (([6] : List Int)) := ⟨_, rfl⟩
 replace H : ((some (([y184, y187, y190, y193, (([10] : List Int))] : List (List Int)) : List (List Int))).bind fun y199 => ((some (([(([0] : List Int)), (([10] : List Int))] : List (List Int)) : List (List Int))).bind fun y208 => ((pivot_Choose.f 1 y199 3).bind fun bt211 => ((pivot_Choose.f 1 (([(([0] : List Int)), (([0] : List Int))] : List (List Int))) 2).bind fun bt224 => ((pivot_Cover.f k 1 y208 y199).bind fun bt228 => ((pivot_Nearest.f k 1 y208 (([6] : List Int))).bind fun bt233 => ((pivot_Shells.f 1 y208 (([(([4] : List Int)), (([6] : List Int))] : List (List Int)))).bind fun bt245 => ((pivot_Low.f 1 bt245.1 (([0, 10] : List Int))).bind fun bt252 => ((pivot_High.f 1 bt245.1 (([0, 10] : List Int))).bind fun bt257 => (if bt211.2 = 0 then (if bt224.2 = 0 then (if bt228.2 = 0 then (if bt233.2.2 = 0 then (if bt245.2 = 0 then (if bt252.2 = 0 then (l9_sanity.j0 k bt211.1 bt224.1 bt228.1 bt233.1 bt233.2.1 bt245.1 bt252.1 bt257.1 (bt257.2 == 0)) else (l9_sanity.j0 k bt211.1 bt224.1 bt228.1 bt233.1 bt233.2.1 bt245.1 bt252.1 bt257.1 false)) else (l9_sanity.j0 k bt211.1 bt224.1 bt228.1 bt233.1 bt233.2.1 bt245.1 bt252.1 bt257.1 false)) else (l9_sanity.j0 k bt211.1 bt224.1 bt228.1 bt233.1 bt233.2.1 bt245.1 bt252.1 bt257.1 false)) else (l9_sanity.j0 k bt211.1 bt224.1 bt228.1 bt233.1 bt233.2.1 bt245.1 bt252.1 bt257.1 false)) else (l9_sanity.j0 k bt211.1 bt224.1 bt228.1 bt233.1 bt233.2.1 bt245.1 bt252.1 bt257.1 false)) else (l9_sanity.j0 k bt211.1 bt224.1 bt228.1 bt233.1 bt233.2.1 bt245.1 bt252.1 bt257.1 false))))))))))) = some r := by first | (rw [hy193]; with_reducible exact H) | (have H2_ := (Option.bind_some _ _).symm.trans H; rw [hy193]; with_reducible exact H2_) | (have H2_ := (Option.bind_some _ _).symm.trans H; with_reducible exact H2_) | with_reducible exact H | (rw [hy193]; exact H) | exact H
 have Ny193 := Aside0.mk hy193
 clear hy193
 obtain ⟨y196, hy196⟩ : ∃ y_ : List Int, y_ = (([10] : List Int)) := ⟨_, rfl⟩
 replace H : ((some (([y184, y187, y190, y193, y196] : List (List Int)) : List (List Int))).bind fun y199 => ((some (([(([0] : List Int)), (([10] : List Int))] : List (List Int)) : List (List Int))).bind fun y208 => ((pivot_Choose.f 1 y199 3).bind fun bt211 => ((pivot_Choose.f 1 (([(([0] : List Int)), (([0] : List Int))] : List (List Int))) 2).bind fun bt224 => ((pivot_Cover.f k 1 y208 y199).bind fun bt228 => ((pivot_Nearest.f k 1 y208 (([6] : List Int))).bind fun bt233 => ((pivot_Shells.f 1 y208 (([(([4] : List Int)), (([6] : List Int))] : List (List Int)))).bind fun bt245 => ((pivot_Low.f 1 bt245.1 (([0, 10] : List Int))).bind fun bt252 => ((pivot_High.f 1 bt245.1 (([0, 10] : List Int))).bind fun bt257 => (if bt211.2 = 0 then (if bt224.2 = 0 then (if bt228.2 = 0 then (if bt233.2.2 = 0 then (if bt245.2 = 0 then (if bt252.2 = 0 then (l9_sanity.j0 k bt211.1 bt224.1 bt228.1 bt233.1 bt233.2.1 bt245.1 bt252.1 bt257.1 (bt257.2 == 0)) else (l9_sanity.j0 k bt211.1 bt224.1 bt228.1 bt233.1 bt233.2.1 bt245.1 bt252.1 bt257.1 false)) else (l9_sanity.j0 k bt211.1 bt224.1 bt228.1 bt233.1 bt233.2.1 bt245.1 bt252.1 bt257.1 false)) else (l9_sanity.j0 k bt211.1 bt224.1 bt228.1 bt233.1 bt233.2.1 bt245.1 bt252.1 bt257.1 false)) else (l9_sanity.j0 k bt211.1 bt224.1 bt228.1 bt233.1 bt233.2.1 bt245.1 bt252.1 bt257.1 false)) else (l9_sanity.j0 k bt211.1 bt224.1 bt228.1 bt233.1 bt233.2.1 bt245.1 bt252.1 bt257.1 false)) else (l9_sanity.j0 k bt211.1 bt224.1 bt228.1 bt233.1 bt233.2.1 bt245.1 bt252.1 bt257.1 false))))))))))) = some r := by first | (rw [hy196]; with_reducible exact H) | (have H2_ := (Option.bind_some _ _).symm.trans H; rw [hy196]; with_reducible exact H2_) | (have H2_ := (Option.bind_some _ _).symm.trans H; with_reducible exact H2_) | with_reducible exact H | (rw [hy196]; exact H) | exact H
 have Ny196 := Aside0.mk hy196
 clear hy196
 obtain ⟨y199, hy199⟩ : ∃ y_ : List (List Int), y_ = (([y184, y187, y190, y193, y196] : List (List Int))) := ⟨_, rfl⟩
 replace H : ((some (([(([0] : List Int)), (([10] : List Int))] : List (List Int)) : List (List Int))).bind fun y208 => ((pivot_Choose.f 1 y199 3).bind fun bt211 => ((pivot_Choose.f 1 (([(([0] : List Int)), (([0] : List Int))] : List (List Int))) 2).bind fun bt224 => ((pivot_Cover.f k 1 y208 y199).bind fun bt228 => ((pivot_Nearest.f k 1 y208 (([6] : List Int))).bind fun bt233 => ((pivot_Shells.f 1 y208 (([(([4] : List Int)), (([6] : List Int))] : List (List Int)))).bind fun bt245 => ((pivot_Low.f 1 bt245.1 (([0, 10] : List Int))).bind fun bt252 => ((pivot_High.f 1 bt245.1 (([0, 10] : List Int))).bind fun bt257 => (if bt211.2 = 0 then (if bt224.2 = 0 then (if bt228.2 = 0 then (if bt233.2.2 = 0 then (if bt245.2 = 0 then (if bt252.2 = 0 then (l9_sanity.j0 k bt211.1 bt224.1 bt228.1 bt233.1 bt233.2.1 bt245.1 bt252.1 bt257.1 (bt257.2 == 0)) else (l9_sanity.j0 k bt211.1 bt224.1 bt228.1 bt233.1 bt233.2.1 bt245.1 bt252.1 bt257.1 false)) else (l9_sanity.j0 k bt211.1 bt224.1 bt228.1 bt233.1 bt233.2.1 bt245.1 bt252.1 bt257.1 false)) else (l9_sanity.j0 k bt211.1 bt224.1 bt228.1 bt233.1 bt233.2.1 bt245.1 bt252.1 bt257.1 false)) else (l9_sanity.j0 k bt211.1 bt224.1 bt228.1 bt233.1 bt233.2.1 bt245.1 bt252.1 bt257.1 false)) else (l9_sanity.j0 k bt211.1 bt224.1 bt228.1 bt233.1 bt233.2.1 bt245.1 bt252.1 bt257.1 false)) else (l9_sanity.j0 k bt211.1 bt224.1 bt228.1 bt233.1 bt233.2.1 bt245.1 bt252.1 bt257.1 false)))))))))) = some r := by first | (rw [hy199]; with_reducible exact H) | (have H2_ := (Option.bind_some _ _).symm.trans H; rw [hy199]; with_reducible exact H2_) | (have H2_ := (Option.bind_some _ _).symm.trans H; with_reducible exact H2_) | with_reducible exact H | (rw [hy199]; exact H) | exact H
 have Ny199 := Aside0.mk hy199
 clear hy199
 obtain ⟨y202, hy202⟩ : ∃ y_ : List Int, y_ = (([0] : List Int)) := ⟨_, rfl⟩
 replace H : ((some (([y202, (([10] : List Int))] : List (List Int)) : List (List Int))).bind fun y208 => ((pivot_Choose.f 1 y199 3).bind fun bt211 => ((pivot_Choose.f 1 (([(([0] : List Int)), (([0] : List Int))] : List (List Int))) 2).bind fun bt224 => ((pivot_Cover.f k 1 y208 y199).bind fun bt228 => ((pivot_Nearest.f k 1 y208 (([6] : List Int))).bind fun bt233 => ((pivot_Shells.f 1 y208 (([(([4] : List Int)), (([6] : List Int))] : List (List Int)))).bind fun bt245 => ((pivot_Low.f 1 bt245.1 (([0, 10] : List Int))).bind fun bt252 => ((pivot_High.f 1 bt245.1 (([0, 10] : List Int))).bind fun bt257 => (if bt211.2 = 0 then (if bt224.2 = 0 then (if bt228.2 = 0 then (if bt233.2.2 = 0 then (if bt245.2 = 0 then (if bt252.2 = 0 then (l9_sanity.j0 k bt211.1 bt224.1 bt228.1 bt233.1 bt233.2.1 bt245.1 bt252.1 bt257.1 (bt257.2 == 0)) else (l9_sanity.j0 k bt211.1 bt224.1 bt228.1 bt233.1 bt233.2.1 bt245.1 bt252.1 bt257.1 false)) else (l9_sanity.j0 k bt211.1 bt224.1 bt228.1 bt233.1 bt233.2.1 bt245.1 bt252.1 bt257.1 false)) else (l9_sanity.j0 k bt211.1 bt224.1 bt228.1 bt233.1 bt233.2.1 bt245.1 bt252.1 bt257.1 false)) else (l9_sanity.j0 k bt211.1 bt224.1 bt228.1 bt233.1 bt233.2.1 bt245.1 bt252.1 bt257.1 false)) else (l9_sanity.j0 k bt211.1 bt224.1 bt228.1 bt233.1 bt233.2.1 bt245.1 bt252.1 bt257.1 false)) else (l9_sanity.j0 k bt211.1 bt224.1 bt228.1 bt233.1 bt233.2.1 bt245.1 bt252.1 bt257.1 false)))))))))) = some r := by first | (rw [hy202]; with_reducible exact H) | (have H2_ := (Option.bind_some _ _).symm.trans H; rw [hy202]; with_reducible exact H2_) | (have H2_ := (Option.bind_some _ _).symm.trans H; with_reducible exact H2_) | with_reducible exact H | (rw [hy202]; exact H) | exact H
 have Ny202 := Aside0.mk hy202
 clear hy202
 obtain ⟨y205, hy205⟩ : ∃ y_ : List Int, y_ = (([10] : List Int)) := ⟨_, rfl⟩
 replace H : ((some (([y202, y205] : List (List Int)) : List (List Int))).bind fun y208 => ((pivot_Choose.f 1 y199 3).bind fun bt211 => ((pivot_Choose.f 1 (([(([0] : List Int)), (([0] : List Int))] : List (List Int))) 2).bind fun bt224 => ((pivot_Cover.f k 1 y208 y199).bind fun bt228 => ((pivot_Nearest.f k 1 y208 (([6] : List Int))).bind fun bt233 => ((pivot_Shells.f 1 y208 (([(([4] : List Int)), (([6] : List Int))] : List (List Int)))).bind fun bt245 => ((pivot_Low.f 1 bt245.1 (([0, 10] : List Int))).bind fun bt252 => ((pivot_High.f 1 bt245.1 (([0, 10] : List Int))).bind fun bt257 => (if bt211.2 = 0 then (if bt224.2 = 0 then (if bt228.2 = 0 then (if bt233.2.2 = 0 then (if bt245.2 = 0 then (if bt252.2 = 0 then (l9_sanity.j0 k bt211.1 bt224.1 bt228.1 bt233.1 bt233.2.1 bt245.1 bt252.1 bt257.1 (bt257.2 == 0)) else (l9_sanity.j0 k bt211.1 bt224.1 bt228.1 bt233.1 bt233.2.1 bt245.1 bt252.1 bt257.1 false)) else (l9_sanity.j0 k bt211.1 bt224.1 bt228.1 bt233.1 bt233.2.1 bt245.1 bt252.1 bt257.1 false)) else (l9_sanity.j0 k bt211.1 bt224.1 bt228.1 bt233.1 bt233.2.1 bt245.1 bt252.1 bt257.1 false)) else (l9_sanity.j0 k bt211.1 bt224.1 bt228.1 bt233.1 bt233.2.1 bt245.1 bt252.1 bt257.1 false)) else (l9_sanity.j0 k bt211.1 bt224.1 bt228.1 bt233.1 bt233.2.1 bt245.1 bt252.1 bt257.1 false)) else (l9_sanity.j0 k bt211.1 bt224.1 bt228.1 bt233.1 bt233.2.1 bt245.1 bt252.1 bt257.1 false)))))))))) = some r := by first | (rw [hy205]; with_reducible exact H) | (have H2_ := (Option.bind_some _ _).symm.trans H; rw [hy205]; with_reducible exact H2_) | (have H2_ := (Option.bind_some _ _).symm.trans H; with_reducible exact H2_) | with_reducible exact H | (rw [hy205]; exact H) | exact H
 have Ny205 := Aside0.mk hy205
 clear hy205
 obtain ⟨y208, hy208⟩ : ∃ y_ : List (List Int), y_ = (([y202, y205] : List (List Int))) := ⟨_, rfl⟩
 replace H : ((pivot_Choose.f 1 y199 3).bind fun bt211 => ((pivot_Choose.f 1 (([(([0] : List Int)), (([0] : List Int))] : List (List Int))) 2).bind fun bt224 => ((pivot_Cover.f k 1 y208 y199).bind fun bt228 => ((pivot_Nearest.f k 1 y208 (([6] : List Int))).bind fun bt233 => ((pivot_Shells.f 1 y208 (([(([4] : List Int)), (([6] : List Int))] : List (List Int)))).bind fun bt245 => ((pivot_Low.f 1 bt245.1 (([0, 10] : List Int))).bind fun bt252 => ((pivot_High.f 1 bt245.1 (([0, 10] : List Int))).bind fun bt257 => (if bt211.2 = 0 then (if bt224.2 = 0 then (if bt228.2 = 0 then (if bt233.2.2 = 0 then (if bt245.2 = 0 then (if bt252.2 = 0 then (l9_sanity.j0 k bt211.1 bt224.1 bt228.1 bt233.1 bt233.2.1 bt245.1 bt252.1 bt257.1 (bt257.2 == 0)) else (l9_sanity.j0 k bt211.1 bt224.1 bt228.1 bt233.1 bt233.2.1 bt245.1 bt252.1 bt257.1 false)) else (l9_sanity.j0 k bt211.1 bt224.1 bt228.1 bt233.1 bt233.2.1 bt245.1 bt252.1 bt257.1 false)) else (l9_sanity.j0 k bt211.1 bt224.1 bt228.1 bt233.1 bt233.2.1 bt245.1 bt252.1 bt257.1 false)) else (l9_sanity.j0 k bt211.1 bt224.1 bt228.1 bt233.1 bt233.2.1 bt245.1 bt252.1 bt257.1 false)) else (l9_sanity.j0 k bt211.1 bt224.1 bt228.1 bt233.1 bt233.2.1 bt245.1 bt252.1 bt257.1 false)) else (l9_sanity.j0 k bt211.1 bt224.1 bt228.1 bt233.1 bt233.2.1 bt245.1 bt252.1 bt257.1 false))))))))) = some r := by first | (rw [hy208]; with_reducible exact H) | (have H2_ := (Option.bind_some _ _).symm.trans H; rw [hy208]; with_reducible exact H2_) | (have H2_ := (Option.bind_some _ _).symm.trans H; with_reducible exact H2_) | with_reducible exact H | (rw [hy208]; exact H) | exact H
 have Ny208 := Aside0.mk hy208
 clear hy208
 replace H := Option.bind_eq_some_iff.mp H
 obtain ⟨⟨t211, t212⟩, A10, H⟩ := H
 replace H : ((pivot_Choose.f 1 (([(([0] : List Int)), (([0] : List Int))] : List (List Int))) 2).bind fun bt224 => ((pivot_Cover.f k 1 y208 y199).bind fun bt228 => ((pivot_Nearest.f k 1 y208 (([6] : List Int))).bind fun bt233 => ((pivot_Shells.f 1 y208 (([(([4] : List Int)), (([6] : List Int))] : List (List Int)))).bind fun bt245 => ((pivot_Low.f 1 bt245.1 (([0, 10] : List Int))).bind fun bt252 => ((pivot_High.f 1 bt245.1 (([0, 10] : List Int))).bind fun bt257 => (if t212 = 0 then (if bt224.2 = 0 then (if bt228.2 = 0 then (if bt233.2.2 = 0 then (if bt245.2 = 0 then (if bt252.2 = 0 then (l9_sanity.j0 k t211 bt224.1 bt228.1 bt233.1 bt233.2.1 bt245.1 bt252.1 bt257.1 (bt257.2 == 0)) else (l9_sanity.j0 k t211 bt224.1 bt228.1 bt233.1 bt233.2.1 bt245.1 bt252.1 bt257.1 false)) else (l9_sanity.j0 k t211 bt224.1 bt228.1 bt233.1 bt233.2.1 bt245.1 bt252.1 bt257.1 false)) else (l9_sanity.j0 k t211 bt224.1 bt228.1 bt233.1 bt233.2.1 bt245.1 bt252.1 bt257.1 false)) else (l9_sanity.j0 k t211 bt224.1 bt228.1 bt233.1 bt233.2.1 bt245.1 bt252.1 bt257.1 false)) else (l9_sanity.j0 k t211 bt224.1 bt228.1 bt233.1 bt233.2.1 bt245.1 bt252.1 bt257.1 false)) else (l9_sanity.j0 k t211 bt224.1 bt228.1 bt233.1 bt233.2.1 bt245.1 bt252.1 bt257.1 false)))))))) = some r := H
 have A1 := Aside0.mk A10
 clear A10
 obtain ⟨y215, hy215⟩ : ∃ y_ : List Int, y_ = (([0] : List Int)) := ⟨_, rfl⟩
 replace H : ((pivot_Choose.f 1 (([y215, (([0] : List Int))] : List (List Int))) 2).bind fun bt224 => ((pivot_Cover.f k 1 y208 y199).bind fun bt228 => ((pivot_Nearest.f k 1 y208 (([6] : List Int))).bind fun bt233 => ((pivot_Shells.f 1 y208 (([(([4] : List Int)), (([6] : List Int))] : List (List Int)))).bind fun bt245 => ((pivot_Low.f 1 bt245.1 (([0, 10] : List Int))).bind fun bt252 => ((pivot_High.f 1 bt245.1 (([0, 10] : List Int))).bind fun bt257 => (if t212 = 0 then (if bt224.2 = 0 then (if bt228.2 = 0 then (if bt233.2.2 = 0 then (if bt245.2 = 0 then (if bt252.2 = 0 then (l9_sanity.j0 k t211 bt224.1 bt228.1 bt233.1 bt233.2.1 bt245.1 bt252.1 bt257.1 (bt257.2 == 0)) else (l9_sanity.j0 k t211 bt224.1 bt228.1 bt233.1 bt233.2.1 bt245.1 bt252.1 bt257.1 false)) else (l9_sanity.j0 k t211 bt224.1 bt228.1 bt233.1 bt233.2.1 bt245.1 bt252.1 bt257.1 false)) else (l9_sanity.j0 k t211 bt224.1 bt228.1 bt233.1 bt233.2.1 bt245.1 bt252.1 bt257.1 false)) else (l9_sanity.j0 k t211 bt224.1 bt228.1 bt233.1 bt233.2.1 bt245.1 bt252.1 bt257.1 false)) else (l9_sanity.j0 k t211 bt224.1 bt228.1 bt233.1 bt233.2.1 bt245.1 bt252.1 bt257.1 false)) else (l9_sanity.j0 k t211 bt224.1 bt228.1 bt233.1 bt233.2.1 bt245.1 bt252.1 bt257.1 false)))))))) = some r := by first | (rw [hy215]; with_reducible exact H) | (have H2_ := (Option.bind_some _ _).symm.trans H; rw [hy215]; with_reducible exact H2_) | (have H2_ := (Option.bind_some _ _).symm.trans H; with_reducible exact H2_) | with_reducible exact H | (rw [hy215]; exact H) | exact H
 have Ny215 := Aside0.mk hy215
 clear hy215
 obtain ⟨y218, hy218⟩ : ∃ y_ : List Int, y_ = (([0] : List Int)) := ⟨_, rfl⟩
 replace H : ((pivot_Choose.f 1 (([y215, y218] : List (List Int))) 2).bind fun bt224 => ((pivot_Cover.f k 1 y208 y199).bind fun bt228 => ((pivot_Nearest.f k 1 y208 (([6] : List Int))).bind fun bt233 => ((pivot_Shells.f 1 y208 (([(([4] : List Int)), (([6] : List Int))] : List (List Int)))).bind fun bt245 => ((pivot_Low.f 1 bt245.1 (([0, 10] : List Int))).bind fun bt252 => ((pivot_High.f 1 bt245.1 (([0, 10] : List Int))).bind fun bt257 => (if t212 = 0 then (if bt224.2 = 0 then (if bt228.2 = 0 then (if bt233.2.2 = 0 then (if bt245.2 = 0 then (if bt252.2 = 0 then (l9_sanity.j0 k t211 bt224.1 bt228.1 bt233.1 bt233.2.1 bt245.1 bt252.1 bt257.1 (bt257.2 == 0)) else (l9_sanity.j0 k t211 bt224.1 bt228.1 bt233.1 bt233.2.1 bt245.1 bt252.1 bt257.1 false)) else (l9_sanity.j0 k t211 bt224.1 bt228.1 bt233.1 bt233.2.1 bt245.1 bt252.1 bt257.1 false)) else (l9_sanity.j0 k t211 bt224.1 bt228.1 bt233.1 bt233.2.1 bt245.1 bt252.1 bt257.1 false)) else (l9_sanity.j0 k t211 bt224.1 bt228.1 bt233.1 bt233.2.1 bt245.1 bt252.1 bt257.1 false)) else (l9_sanity.j0 k t211 bt224.1 bt228.1 bt233.1 bt233.2.1 bt245.1 bt252.1 bt257.1 false)) else (l9_sanity.j0 k t211 bt224.1 bt228.1 bt233.1 bt233.2.1 bt245.1 bt252.1 bt257.1 false)))))))) = some r := by first | (rw [hy218]; with_reducible exact H) | (have H2_ := (Option.bind_some _ _).symm.trans H; rw [hy218]; with_reducible exact H2_) | (have H2_ := (Option.bind_some _ _).symm.trans H; with_reducible exact H2_) | with_reducible exact H | (rw [hy218]; exact H) | exact H
 have Ny218 := Aside0.mk hy218
 clear hy218
 obtain ⟨y221, hy221⟩ : ∃ y_ : List (List Int), y_ = (([y215, y218] : List (List Int))) := ⟨_, rfl⟩
 replace H : ((pivot_Choose.f 1 y221 2).bind fun bt224 => ((pivot_Cover.f k 1 y208 y199).bind fun bt228 => ((pivot_Nearest.f k 1 y208 (([6] : List Int))).bind fun bt233 => ((pivot_Shells.f 1 y208 (([(([4] : List Int)), (([6] : List Int))] : List (List Int)))).bind fun bt245 => ((pivot_Low.f 1 bt245.1 (([0, 10] : List Int))).bind fun bt252 => ((pivot_High.f 1 bt245.1 (([0, 10] : List Int))).bind fun bt257 => (if t212 = 0 then (if bt224.2 = 0 then (if bt228.2 = 0 then (if bt233.2.2 = 0 then (if bt245.2 = 0 then (if bt252.2 = 0 then (l9_sanity.j0 k t211 bt224.1 bt228.1 bt233.1 bt233.2.1 bt245.1 bt252.1 bt257.1 (bt257.2 == 0)) else (l9_sanity.j0 k t211 bt224.1 bt228.1 bt233.1 bt233.2.1 bt245.1 bt252.1 bt257.1 false)) else (l9_sanity.j0 k t211 bt224.1 bt228.1 bt233.1 bt233.2.1 bt245.1 bt252.1 bt257.1 false)) else (l9_sanity.j0 k t211 bt224.1 bt228.1 bt233.1 bt233.2.1 bt245.1 bt252.1 bt257.1 false)) else (l9_sanity.j0 k t211 bt224.1 bt228.1 bt233.1 bt233.2.1 bt245.1 bt252.1 bt257.1 false)) else (l9_sanity.j0 k t211 bt224.1 bt228.1 bt233.1 bt233.2.1 bt245.1 bt252.1 bt257.1 false)) else (l9_sanity.j0 k t211 bt224.1 bt228.1 bt233.1 bt233.2.1 bt245.1 bt252.1 bt257.1 false)))))))) = some r := by first | (rw [hy221]; with_reducible exact H) | (have H2_ := (Option.bind_some _ _).symm.trans H; rw [hy221]; with_reducible exact H2_) | (have H2_ := (Option.bind_some _ _).symm.trans H; with_reducible exact H2_) | with_reducible exact H | (rw [hy221]; exact H) | exact H
 have Ny221 := Aside0.mk hy221
 clear hy221
 replace H := Option.bind_eq_some_iff.mp H
 obtain ⟨⟨t224, t225⟩, A20, H⟩ := H
 replace H : ((pivot_Cover.f k 1 y208 y199).bind fun bt228 => ((pivot_Nearest.f k 1 y208 (([6] : List Int))).bind fun bt233 => ((pivot_Shells.f 1 y208 (([(([4] : List Int)), (([6] : List Int))] : List (List Int)))).bind fun bt245 => ((pivot_Low.f 1 bt245.1 (([0, 10] : List Int))).bind fun bt252 => ((pivot_High.f 1 bt245.1 (([0, 10] : List Int))).bind fun bt257 => (if t212 = 0 then (if t225 = 0 then (if bt228.2 = 0 then (if bt233.2.2 = 0 then (if bt245.2 = 0 then (if bt252.2 = 0 then (l9_sanity.j0 k t211 t224 bt228.1 bt233.1 bt233.2.1 bt245.1 bt252.1 bt257.1 (bt257.2 == 0)) else (l9_sanity.j0 k t211 t224 bt228.1 bt233.1 bt233.2.1 bt245.1 bt252.1 bt257.1 false)) else (l9_sanity.j0 k t211 t224 bt228.1 bt233.1 bt233.2.1 bt245.1 bt252.1 bt257.1 false)) else (l9_sanity.j0 k t211 t224 bt228.1 bt233.1 bt233.2.1 bt245.1 bt252.1 bt257.1 false)) else (l9_sanity.j0 k t211 t224 bt228.1 bt233.1 bt233.2.1 bt245.1 bt252.1 bt257.1 false)) else (l9_sanity.j0 k t211 t224 bt228.1 bt233.1 bt233.2.1 bt245.1 bt252.1 bt257.1 false)) else (l9_sanity.j0 k t211 t224 bt228.1 bt233.1 bt233.2.1 bt245.1 bt252.1 bt257.1 false))))))) = some r := H
 have A2 := Aside0.mk A20
 clear A20
 replace H := Option.bind_eq_some_iff.mp H
 obtain ⟨⟨t228, t229⟩, A30, H⟩ := H
 replace H : ((pivot_Nearest.f k 1 y208 (([6] : List Int))).bind fun bt233 => ((pivot_Shells.f 1 y208 (([(([4] : List Int)), (([6] : List Int))] : List (List Int)))).bind fun bt245 => ((pivot_Low.f 1 bt245.1 (([0, 10] : List Int))).bind fun bt252 => ((pivot_High.f 1 bt245.1 (([0, 10] : List Int))).bind fun bt257 => (if t212 = 0 then (if t225 = 0 then (if t229 = 0 then (if bt233.2.2 = 0 then (if bt245.2 = 0 then (if bt252.2 = 0 then (l9_sanity.j0 k t211 t224 t228 bt233.1 bt233.2.1 bt245.1 bt252.1 bt257.1 (bt257.2 == 0)) else (l9_sanity.j0 k t211 t224 t228 bt233.1 bt233.2.1 bt245.1 bt252.1 bt257.1 false)) else (l9_sanity.j0 k t211 t224 t228 bt233.1 bt233.2.1 bt245.1 bt252.1 bt257.1 false)) else (l9_sanity.j0 k t211 t224 t228 bt233.1 bt233.2.1 bt245.1 bt252.1 bt257.1 false)) else (l9_sanity.j0 k t211 t224 t228 bt233.1 bt233.2.1 bt245.1 bt252.1 bt257.1 false)) else (l9_sanity.j0 k t211 t224 t228 bt233.1 bt233.2.1 bt245.1 bt252.1 bt257.1 false)) else (l9_sanity.j0 k t211 t224 t228 bt233.1 bt233.2.1 bt245.1 bt252.1 bt257.1 false)))))) = some r := H
 have A3 := Aside0.mk A30
 clear A30
 obtain ⟨y230, hy230⟩ : ∃ y_ : List Int, y_ = (([6] : List Int)) := ⟨_, rfl⟩
 replace H : ((pivot_Nearest.f k 1 y208 y230).bind fun bt233 => ((pivot_Shells.f 1 y208 (([(([4] : List Int)), (([6] : List Int))] : List (List Int)))).bind fun bt245 => ((pivot_Low.f 1 bt245.1 (([0, 10] : List Int))).bind fun bt252 => ((pivot_High.f 1 bt245.1 (([0, 10] : List Int))).bind fun bt257 => (if t212 = 0 then (if t225 = 0 then (if t229 = 0 then (if bt233.2.2 = 0 then (if bt245.2 = 0 then (if bt252.2 = 0 then (l9_sanity.j0 k t211 t224 t228 bt233.1 bt233.2.1 bt245.1 bt252.1 bt257.1 (bt257.2 == 0)) else (l9_sanity.j0 k t211 t224 t228 bt233.1 bt233.2.1 bt245.1 bt252.1 bt257.1 false)) else (l9_sanity.j0 k t211 t224 t228 bt233.1 bt233.2.1 bt245.1 bt252.1 bt257.1 false)) else (l9_sanity.j0 k t211 t224 t228 bt233.1 bt233.2.1 bt245.1 bt252.1 bt257.1 false)) else (l9_sanity.j0 k t211 t224 t228 bt233.1 bt233.2.1 bt245.1 bt252.1 bt257.1 false)) else (l9_sanity.j0 k t211 t224 t228 bt233.1 bt233.2.1 bt245.1 bt252.1 bt257.1 false)) else (l9_sanity.j0 k t211 t224 t228 bt233.1 bt233.2.1 bt245.1 bt252.1 bt257.1 false)))))) = some r := by first | (rw [hy230]; with_reducible exact H) | (have H2_ := (Option.bind_some _ _).symm.trans H; rw [hy230]; with_reducible exact H2_) | (have H2_ := (Option.bind_some _ _).symm.trans H; with_reducible exact H2_) | with_reducible exact H | (rw [hy230]; exact H) | exact H
 have Ny230 := Aside0.mk hy230
 clear hy230
 replace H := Option.bind_eq_some_iff.mp H
 obtain ⟨⟨t233, t234, t235⟩, A40, H⟩ := H
 replace H : ((pivot_Shells.f 1 y208 (([(([4] : List Int)), (([6] : List Int))] : List (List Int)))).bind fun bt245 => ((pivot_Low.f 1 bt245.1 (([0, 10] : List Int))).bind fun bt252 => ((pivot_High.f 1 bt245.1 (([0, 10] : List Int))).bind fun bt257 => (if t212 = 0 then (if t225 = 0 then (if t229 = 0 then (if t235 = 0 then (if bt245.2 = 0 then (if bt252.2 = 0 then (l9_sanity.j0 k t211 t224 t228 t233 t234 bt245.1 bt252.1 bt257.1 (bt257.2 == 0)) else (l9_sanity.j0 k t211 t224 t228 t233 t234 bt245.1 bt252.1 bt257.1 false)) else (l9_sanity.j0 k t211 t224 t228 t233 t234 bt245.1 bt252.1 bt257.1 false)) else (l9_sanity.j0 k t211 t224 t228 t233 t234 bt245.1 bt252.1 bt257.1 false)) else (l9_sanity.j0 k t211 t224 t228 t233 t234 bt245.1 bt252.1 bt257.1 false)) else (l9_sanity.j0 k t211 t224 t228 t233 t234 bt245.1 bt252.1 bt257.1 false)) else (l9_sanity.j0 k t211 t224 t228 t233 t234 bt245.1 bt252.1 bt257.1 false))))) = some r := H
 have A4 := Aside0.mk A40
 clear A40
 obtain ⟨y236, hy236⟩ : ∃ y_ : List Int, y_ = (([4] : List Int)) := ⟨_, rfl⟩
 replace H : ((pivot_Shells.f 1 y208 (([y236, (([6] : List Int))] : List (List Int)))).bind fun bt245 => ((pivot_Low.f 1 bt245.1 (([0, 10] : List Int))).bind fun bt252 => ((pivot_High.f 1 bt245.1 (([0, 10] : List Int))).bind fun bt257 => (if t212 = 0 then (if t225 = 0 then (if t229 = 0 then (if t235 = 0 then (if bt245.2 = 0 then (if bt252.2 = 0 then (l9_sanity.j0 k t211 t224 t228 t233 t234 bt245.1 bt252.1 bt257.1 (bt257.2 == 0)) else (l9_sanity.j0 k t211 t224 t228 t233 t234 bt245.1 bt252.1 bt257.1 false)) else (l9_sanity.j0 k t211 t224 t228 t233 t234 bt245.1 bt252.1 bt257.1 false)) else (l9_sanity.j0 k t211 t224 t228 t233 t234 bt245.1 bt252.1 bt257.1 false)) else (l9_sanity.j0 k t211 t224 t228 t233 t234 bt245.1 bt252.1 bt257.1 false)) else (l9_sanity.j0 k t211 t224 t228 t233 t234 bt245.1 bt252.1 bt257.1 false)) else (l9_sanity.j0 k t211 t224 t228 t233 t234 bt245.1 bt252.1 bt257.1 false))))) = some r := by first | (rw [hy236]; with_reducible exact H) | (have H2_ := (Option.bind_some _ _).symm.trans H; rw [hy236]; with_reducible exact H2_) | (have H2_ := (Option.bind_some _ _).symm.trans H; with_reducible exact H2_) | with_reducible exact H | (rw [hy236]; exact H) | exact H
 have Ny236 := Aside0.mk hy236
 clear hy236
 obtain ⟨y239, hy239⟩ : ∃ y_ : List Int, y_ = (([6] : List Int)) := ⟨_, rfl⟩
 replace H : ((pivot_Shells.f 1 y208 (([y236, y239] : List (List Int)))).bind fun bt245 => ((pivot_Low.f 1 bt245.1 (([0, 10] : List Int))).bind fun bt252 => ((pivot_High.f 1 bt245.1 (([0, 10] : List Int))).bind fun bt257 => (if t212 = 0 then (if t225 = 0 then (if t229 = 0 then (if t235 = 0 then (if bt245.2 = 0 then (if bt252.2 = 0 then (l9_sanity.j0 k t211 t224 t228 t233 t234 bt245.1 bt252.1 bt257.1 (bt257.2 == 0)) else (l9_sanity.j0 k t211 t224 t228 t233 t234 bt245.1 bt252.1 bt257.1 false)) else (l9_sanity.j0 k t211 t224 t228 t233 t234 bt245.1 bt252.1 bt257.1 false)) else (l9_sanity.j0 k t211 t224 t228 t233 t234 bt245.1 bt252.1 bt257.1 false)) else (l9_sanity.j0 k t211 t224 t228 t233 t234 bt245.1 bt252.1 bt257.1 false)) else (l9_sanity.j0 k t211 t224 t228 t233 t234 bt245.1 bt252.1 bt257.1 false)) else (l9_sanity.j0 k t211 t224 t228 t233 t234 bt245.1 bt252.1 bt257.1 false))))) = some r := by first | (rw [hy239]; with_reducible exact H) | (have H2_ := (Option.bind_some _ _).symm.trans H; rw [hy239]; with_reducible exact H2_) | (have H2_ := (Option.bind_some _ _).symm.trans H; with_reducible exact H2_) | with_reducible exact H | (rw [hy239]; exact H) | exact H
 have Ny239 := Aside0.mk hy239
 clear hy239
 obtain ⟨y242, hy242⟩ : ∃ y_ : List (List Int), y_ = (([y236, y239] : List (List Int))) := ⟨_, rfl⟩
 replace H : ((pivot_Shells.f 1 y208 y242).bind fun bt245 => ((pivot_Low.f 1 bt245.1 (([0, 10] : List Int))).bind fun bt252 => ((pivot_High.f 1 bt245.1 (([0, 10] : List Int))).bind fun bt257 => (if t212 = 0 then (if t225 = 0 then (if t229 = 0 then (if t235 = 0 then (if bt245.2 = 0 then (if bt252.2 = 0 then (l9_sanity.j0 k t211 t224 t228 t233 t234 bt245.1 bt252.1 bt257.1 (bt257.2 == 0)) else (l9_sanity.j0 k t211 t224 t228 t233 t234 bt245.1 bt252.1 bt257.1 false)) else (l9_sanity.j0 k t211 t224 t228 t233 t234 bt245.1 bt252.1 bt257.1 false)) else (l9_sanity.j0 k t211 t224 t228 t233 t234 bt245.1 bt252.1 bt257.1 false)) else (l9_sanity.j0 k t211 t224 t228 t233 t234 bt245.1 bt252.1 bt257.1 false)) else (l9_sanity.j0 k t211 t224 t228 t233 t234 bt245.1 bt252.1 bt257.1 false)) else (l9_sanity.j0 k t211 t224 t228 t233 t234 bt245.1 bt252.1 bt257.1 false))))) = some r := by first | (rw [hy242]; with_reducible exact H) | (have H2_ := (Option.bind_some _ _).symm.trans H; rw [hy242]; with_reducible exact H2_) | (have H2_ := (Option.bind_some _ _).symm.trans H; with_reducible exact H2_) | with_reducible exact H | (rw [hy242]; exact H) | exact H
 have Ny242 := Aside0.mk hy242
 clear hy242
 replace H := Option.bind_eq_some_iff.mp H
 obtain ⟨⟨t245, t246⟩, A50, H⟩ := H
 replace H : ((pivot_Low.f 1 t245 (([0, 10] : List Int))).bind fun bt252 => ((pivot_High.f 1 t245 (([0, 10] : List Int))).bind fun bt257 => (if t212 = 0 then (if t225 = 0 then (if t229 = 0 then (if t235 = 0 then (if t246 = 0 then (if bt252.2 = 0 then (l9_sanity.j0 k t211 t224 t228 t233 t234 t245 bt252.1 bt257.1 (bt257.2 == 0)) else (l9_sanity.j0 k t211 t224 t228 t233 t234 t245 bt252.1 bt257.1 false)) else (l9_sanity.j0 k t211 t224 t228 t233 t234 t245 bt252.1 bt257.1 false)) else (l9_sanity.j0 k t211 t224 t228 t233 t234 t245 bt252.1 bt257.1 false)) else (l9_sanity.j0 k t211 t224 t228 t233 t234 t245 bt252.1 bt257.1 false)) else (l9_sanity.j0 k t211 t224 t228 t233 t234 t245 bt252.1 bt257.1 false)) else (l9_sanity.j0 k t211 t224 t228 t233 t234 t245 bt252.1 bt257.1 false)))) = some r := H
 have A5 := Aside0.mk A50
 clear A50
 obtain ⟨y249, hy249⟩ : ∃ y_ : List Int, y_ = (([0, 10] : List Int)) := ⟨_, rfl⟩
 replace H : ((pivot_Low.f 1 t245 y249).bind fun bt252 => ((pivot_High.f 1 t245 (([0, 10] : List Int))).bind fun bt257 => (if t212 = 0 then (if t225 = 0 then (if t229 = 0 then (if t235 = 0 then (if t246 = 0 then (if bt252.2 = 0 then (l9_sanity.j0 k t211 t224 t228 t233 t234 t245 bt252.1 bt257.1 (bt257.2 == 0)) else (l9_sanity.j0 k t211 t224 t228 t233 t234 t245 bt252.1 bt257.1 false)) else (l9_sanity.j0 k t211 t224 t228 t233 t234 t245 bt252.1 bt257.1 false)) else (l9_sanity.j0 k t211 t224 t228 t233 t234 t245 bt252.1 bt257.1 false)) else (l9_sanity.j0 k t211 t224 t228 t233 t234 t245 bt252.1 bt257.1 false)) else (l9_sanity.j0 k t211 t224 t228 t233 t234 t245 bt252.1 bt257.1 false)) else (l9_sanity.j0 k t211 t224 t228 t233 t234 t245 bt252.1 bt257.1 false)))) = some r := by first | (rw [hy249]; with_reducible exact H) | (have H2_ := (Option.bind_some _ _).symm.trans H; rw [hy249]; with_reducible exact H2_) | (have H2_ := (Option.bind_some _ _).symm.trans H; with_reducible exact H2_) | with_reducible exact H | (rw [hy249]; exact H) | exact H
 have Ny249 := Aside0.mk hy249
 clear hy249
 replace H := Option.bind_eq_some_iff.mp H
 obtain ⟨⟨t252, t253⟩, A60, H⟩ := H
 replace H : ((pivot_High.f 1 t245 (([0, 10] : List Int))).bind fun bt257 => (if t212 = 0 then (if t225 = 0 then (if t229 = 0 then (if t235 = 0 then (if t246 = 0 then (if t253 = 0 then (l9_sanity.j0 k t211 t224 t228 t233 t234 t245 t252 bt257.1 (bt257.2 == 0)) else (l9_sanity.j0 k t211 t224 t228 t233 t234 t245 t252 bt257.1 false)) else (l9_sanity.j0 k t211 t224 t228 t233 t234 t245 t252 bt257.1 false)) else (l9_sanity.j0 k t211 t224 t228 t233 t234 t245 t252 bt257.1 false)) else (l9_sanity.j0 k t211 t224 t228 t233 t234 t245 t252 bt257.1 false)) else (l9_sanity.j0 k t211 t224 t228 t233 t234 t245 t252 bt257.1 false)) else (l9_sanity.j0 k t211 t224 t228 t233 t234 t245 t252 bt257.1 false))) = some r := H
 have A6 := Aside0.mk A60
 clear A60
 obtain ⟨y254, hy254⟩ : ∃ y_ : List Int, y_ = (([0, 10] : List Int)) := ⟨_, rfl⟩
 replace H : ((pivot_High.f 1 t245 y254).bind fun bt257 => (if t212 = 0 then (if t225 = 0 then (if t229 = 0 then (if t235 = 0 then (if t246 = 0 then (if t253 = 0 then (l9_sanity.j0 k t211 t224 t228 t233 t234 t245 t252 bt257.1 (bt257.2 == 0)) else (l9_sanity.j0 k t211 t224 t228 t233 t234 t245 t252 bt257.1 false)) else (l9_sanity.j0 k t211 t224 t228 t233 t234 t245 t252 bt257.1 false)) else (l9_sanity.j0 k t211 t224 t228 t233 t234 t245 t252 bt257.1 false)) else (l9_sanity.j0 k t211 t224 t228 t233 t234 t245 t252 bt257.1 false)) else (l9_sanity.j0 k t211 t224 t228 t233 t234 t245 t252 bt257.1 false)) else (l9_sanity.j0 k t211 t224 t228 t233 t234 t245 t252 bt257.1 false))) = some r := by first | (rw [hy254]; with_reducible exact H) | (have H2_ := (Option.bind_some _ _).symm.trans H; rw [hy254]; with_reducible exact H2_) | (have H2_ := (Option.bind_some _ _).symm.trans H; with_reducible exact H2_) | with_reducible exact H | (rw [hy254]; exact H) | exact H
 have Ny254 := Aside0.mk hy254
 clear hy254
 replace H := Option.bind_eq_some_iff.mp H
 obtain ⟨⟨t257, t258⟩, A70, H⟩ := H
 replace H : (if t212 = 0 then (if t225 = 0 then (if t229 = 0 then (if t235 = 0 then (if t246 = 0 then (if t253 = 0 then (l9_sanity.j0 k t211 t224 t228 t233 t234 t245 t252 t257 (t258 == 0)) else (l9_sanity.j0 k t211 t224 t228 t233 t234 t245 t252 t257 false)) else (l9_sanity.j0 k t211 t224 t228 t233 t234 t245 t252 t257 false)) else (l9_sanity.j0 k t211 t224 t228 t233 t234 t245 t252 t257 false)) else (l9_sanity.j0 k t211 t224 t228 t233 t234 t245 t252 t257 false)) else (l9_sanity.j0 k t211 t224 t228 t233 t234 t245 t252 t257 false)) else (l9_sanity.j0 k t211 t224 t228 t233 t234 t245 t252 t257 false)) = some r := H
 have A7 := Aside0.mk A70
 clear A70
 have HC8 := Aside0.mk H
 clear H
 go_enter Try.func10, Try.ntmps10
 go_upto_region 10 with (first | ((with_reducible refine gate_dst (N := 20) rfl ?_); (try (refine gate_guard (by rfl) ?_; dsimp only)); refine Kd.R_lit (Kd.int .i64) _ 3 ?hg (N := 20) ?hd (xs := ([0] : List Int)) (inner := [.int .i64 0]) (ok := fun _ => True) (okp := fun _ => True) ?hr ?hp (fun _ hk => hk) trivial (Below.refl _ _) (Nat.le_refl _) (by simp) ?_; (case hd => rfl); (case hg => rfl); (case hr => first | (go_simp; done) | (go_simp; rfl)); (case hp => exact (Reps.one (show Kd.M (Kd.int .i64) _ _ _ 0 [.int .i64 0] from rfl) (Reps.none _ _))); intro v185 w9 ho10 hb hg_ hnew_; clear hg_ hnew_; (first | rw [← Ny184.out] at ho10 | (simp only [Int.reduceToNat] at ho10; rw [← Ny184.out] at ho10)); have n0_ := Aside0.mk (Kd.R_lower ho10 (below_size (by repeat (first | (with_reducible first | exact HB.out | apply below_alloc | apply pw_below_drewN | apply below_drew1) | exact HB.out)))); have n1_ := Aside0.mk (below_step (by repeat (first | (with_reducible first | exact HB.out | apply below_alloc | apply pw_below_drewN | apply below_drew1) | exact HB.out)) hb); clear HB; have HO186 := n0_; have HB := n1_; clear n0_ n1_; clear hb ho10) | ((with_reducible refine gate_dst (N := 21) rfl ?_); (try (refine gate_guard (by rfl) ?_; dsimp only)); refine Kd.R_lit (Kd.int .i64) _ 3 ?hg (N := 21) ?hd (xs := ([10] : List Int)) (inner := [.int .i64 10]) (ok := fun _ => True) (okp := fun _ => True) ?hr ?hp (fun _ hk => hk) trivial (Below.refl _ _) (Nat.le_refl _) (by simp) ?_; (case hd => rfl); (case hg => rfl); (case hr => first | (go_simp; done) | (go_simp; rfl)); (case hp => exact (Reps.one (show Kd.M (Kd.int .i64) _ _ _ 10 [.int .i64 10] from rfl) (Reps.none _ _))); intro v188 w11 ho12 hb hg_ hnew_; clear hg_ hnew_; (first | rw [← Ny187.out] at ho12 | (simp only [Int.reduceToNat] at ho12; rw [← Ny187.out] at ho12)); have n0_ := Aside0.mk (Kd.R_elder' (by (with_reducible repeat (first | apply Kd.R_alloc | apply Kd.R_drewN | apply Kd.R_drew)); exact HO186.out) (Kd.R_base ho12) hb); have n1_ := Aside0.mk (Kd.R_lower (Kd.R_new' ho12 (Kd.R_lt (by (with_reducible repeat (first | apply Kd.R_alloc | apply Kd.R_drewN | apply Kd.R_drew)); exact HO186.out))) (below_size (by repeat (first | (with_reducible first | exact HB.out | apply below_alloc | apply pw_below_drewN | apply below_drew1) | exact HB.out)))); have n2_ := Aside0.mk (below_step (by repeat (first | (with_reducible first | exact HB.out | apply below_alloc | apply pw_below_drewN | apply below_drew1) | exact HB.out)) hb); clear HO186; clear HB; have HO186 := n0_; have HO189 := n1_; have HB := n2_; clear n0_ n1_ n2_; clear hb ho12) | ((with_reducible refine gate_dst (N := 22) rfl ?_); (try (refine gate_guard (by rfl) ?_; dsimp only)); refine Kd.R_lit (Kd.int .i64) _ 3 ?hg (N := 22) ?hd (xs := ([4] : List Int)) (inner := [.int .i64 4]) (ok := fun _ => True) (okp := fun _ => True) ?hr ?hp (fun _ hk => hk) trivial (Below.refl _ _) (Nat.le_refl _) (by simp) ?_; (case hd => rfl); (case hg => rfl); (case hr => first | (go_simp; done) | (go_simp; rfl)); (case hp => exact (Reps.one (show Kd.M (Kd.int .i64) _ _ _ 4 [.int .i64 4] from rfl) (Reps.none _ _))); intro v191 w13 ho14 hb hg_ hnew_; clear hg_ hnew_; (first | rw [← Ny190.out] at ho14 | (simp only [Int.reduceToNat] at ho14; rw [← Ny190.out] at ho14)); have n0_ := Aside0.mk (Kd.R_elder' (by (with_reducible repeat (first | apply Kd.R_alloc | apply Kd.R_drewN | apply Kd.R_drew)); exact HO186.out) (Kd.R_base ho14) hb); have n1_ := Aside0.mk (Kd.R_elder' (by (with_reducible repeat (first | apply Kd.R_alloc | apply Kd.R_drewN | apply Kd.R_drew)); exact HO189.out) (Kd.R_base ho14) hb); have n2_ := Aside0.mk (Kd.R_lower (Kd.R_new' (Kd.R_new' ho14 (Kd.R_lt (by (with_reducible repeat (first | apply Kd.R_alloc | apply Kd.R_drewN | apply Kd.R_drew)); exact HO186.out))) (Kd.R_lt (by (with_reducible repeat (first | apply Kd.R_alloc | apply Kd.R_drewN | apply Kd.R_drew)); exact HO189.out))) (below_size (by repeat (first | (with_reducible first | exact HB.out | apply below_alloc | apply pw_below_drewN | apply below_drew1) | exact HB.out)))); have n3_ := Aside0.mk (below_step (by repeat (first | (with_reducible first | exact HB.out | apply below_alloc | apply pw_below_drewN | apply below_drew1) | exact HB.out)) hb); clear HO186; clear HO189; clear HB; have HO186 := n0_; have HO189 := n1_; have HO192 := n2_; have HB := n3_; clear n0_ n1_ n2_ n3_; clear hb ho14) | ((with_reducible refine gate_dst (N := 23) rfl ?_); (try (refine gate_guard (by rfl) ?_; dsimp only)); refine Kd.R_lit (Kd.int .i64) _ 3 ?hg (N := 23) ?hd (xs := ([6] : List Int)) (inner := [.int .i64 6]) (ok := fun _ => True) (okp := fun _ => True) ?hr ?hp (fun _ hk => hk) trivial (Below.refl _ _) (Nat.le_refl _) (by simp) ?_; (case hd => rfl); (case hg => rfl); (case hr => first | (go_simp; done) | (go_simp; rfl)); (case hp => exact (Reps.one (show Kd.M (Kd.int .i64) _ _ _ 6 [.int .i64 6] from rfl) (Reps.none _ _))); intro v194 w15 ho16 hb hg_ hnew_; clear hg_ hnew_; (first | rw [← Ny193.out] at ho16 | (simp only [Int.reduceToNat] at ho16; rw [← Ny193.out] at ho16)); have n0_ := Aside0.mk (Kd.R_elder' (by (with_reducible repeat (first | apply Kd.R_alloc | apply Kd.R_drewN | apply Kd.R_drew)); exact HO186.out) (Kd.R_base ho16) hb); have n1_ := Aside0.mk (Kd.R_elder' (by (with_reducible repeat (first | apply Kd.R_alloc | apply Kd.R_drewN | apply Kd.R_drew)); exact HO189.out) (Kd.R_base ho16) hb); have n2_ := Aside0.mk (Kd.R_elder' (by (with_reducible repeat (first | apply Kd.R_alloc | apply Kd.R_drewN | apply Kd.R_drew)); exact HO192.out) (Kd.R_base ho16) hb); have n3_ := Aside0.mk (Kd.R_lower (Kd.R_new' (Kd.R_new' (Kd.R_new' ho16 (Kd.R_lt (by (with_reducible repeat (first | apply Kd.R_alloc | apply Kd.R_drewN | apply Kd.R_drew)); exact HO186.out))) (Kd.R_lt (by (with_reducible repeat (first | apply Kd.R_alloc | apply Kd.R_drewN | apply Kd.R_drew)); exact HO189.out))) (Kd.R_lt (by (with_reducible repeat (first | apply Kd.R_alloc | apply Kd.R_drewN | apply Kd.R_drew)); exact HO192.out))) (below_size (by repeat (first | (with_reducible first | exact HB.out | apply below_alloc | apply pw_below_drewN | apply below_drew1) | exact HB.out)))); have n4_ := Aside0.mk (below_step (by repeat (first | (with_reducible first | exact HB.out | apply below_alloc | apply pw_below_drewN | apply below_drew1) | exact HB.out)) hb); clear HO186; clear HO189; clear HO192; clear HB; have HO186 := n0_; have HO189 := n1_; have HO192 := n2_; have HO195 := n3_; have HB := n4_; clear n0_ n1_ n2_ n3_ n4_; clear hb ho16) | ((with_reducible refine gate_dst (N := 24) rfl ?_); (try (refine gate_guard (by rfl) ?_; dsimp only)); refine Kd.R_lit (Kd.int .i64) _ 3 ?hg (N := 24) ?hd (xs := ([10] : List Int)) (inner := [.int .i64 10]) (ok := fun _ => True) (okp := fun _ => True) ?hr ?hp (fun _ hk => hk) trivial (Below.refl _ _) (Nat.le_refl _) (by simp) ?_; (case hd => rfl); (case hg => rfl); (case hr => first | (go_simp; done) | (go_simp; rfl)); (case hp => exact (Reps.one (show Kd.M (Kd.int .i64) _ _ _ 10 [.int .i64 10] from rfl) (Reps.none _ _))); intro v197 w17 ho18 hb hg_ hnew_; clear hg_ hnew_; (first | rw [← Ny196.out] at ho18 | (simp only [Int.reduceToNat] at ho18; rw [← Ny196.out] at ho18)); have n0_ := Aside0.mk (Kd.R_elder' (by (with_reducible repeat (first | apply Kd.R_alloc | apply Kd.R_drewN | apply Kd.R_drew)); exact HO186.out) (Kd.R_base ho18) hb); have n1_ := Aside0.mk (Kd.R_elder' (by (with_reducible repeat (first | apply Kd.R_alloc | apply Kd.R_drewN | apply Kd.R_drew)); exact HO189.out) (Kd.R_base ho18) hb); have n2_ := Aside0.mk (Kd.R_elder' (by (with_reducible repeat (first | apply Kd.R_alloc | apply Kd.R_drewN | apply Kd.R_drew)); exact HO192.out) (Kd.R_base ho18) hb); have n3_ := Aside0.mk (Kd.R_elder' (by (with_reducible repeat (first | apply Kd.R_alloc | apply Kd.R_drewN | apply Kd.R_drew)); exact HO195.out) (Kd.R_base ho18) hb); have n4_ := Aside0.mk (Kd.R_lower (Kd.R_new' (Kd.R_new' (Kd.R_new' (Kd.R_new' ho18 (Kd.R_lt (by (with_reducible repeat (first | apply Kd.R_alloc | apply Kd.R_drewN | apply Kd.R_drew)); exact HO186.out))) (Kd.R_lt (by (with_reducible repeat (first | apply Kd.R_alloc | apply Kd.R_drewN | apply Kd.R_drew)); exact HO189.out))) (Kd.R_lt (by (with_reducible repeat (first | apply Kd.R_alloc | apply Kd.R_drewN | apply Kd.R_drew)); exact HO192.out))) (Kd.R_lt (by (with_reducible repeat (first | apply Kd.R_alloc | apply Kd.R_drewN | apply Kd.R_drew)); exact HO195.out))) (below_size (by repeat (first | (with_reducible first | exact HB.out | apply below_alloc | apply pw_below_drewN | apply below_drew1) | exact HB.out)))); have n5_ := Aside0.mk (below_step (by repeat (first | (with_reducible first | exact HB.out | apply below_alloc | apply pw_below_drewN | apply below_drew1) | exact HB.out)) hb); clear HO186; clear HO189; clear HO192; clear HO195; clear HB; have HO186 := n0_; have HO189 := n1_; have HO192 := n2_; have HO195 := n3_; have HO198 := n4_; have HB := n5_; clear n0_ n1_ n2_ n3_ n4_ n5_; clear hb ho18; obtain ⟨Ao19, co19, eo19⟩ := Kd.R_slice HO186.out; subst eo19; obtain ⟨Ao20, co20, eo20⟩ := Kd.R_slice HO189.out; subst eo20; obtain ⟨Ao21, co21, eo21⟩ := Kd.R_slice HO192.out; subst eo21; obtain ⟨Ao22, co22, eo22⟩ := Kd.R_slice HO195.out; subst eo22; obtain ⟨Ao23, co23, eo23⟩ := Kd.R_slice HO198.out; subst eo23) | ((with_reducible refine gate_dst (N := 25) rfl ?_); (try (refine gate_guard (by rfl) ?_; dsimp only)); refine Kd.N_lit (Kd.slice 3 (Kd.int .i64)) _ 23 ?hg (N' := 25) ?hd (xs := ([y184, y187, y190, y193, y196] : List (List Int))) (inner := [.slice Ao19 y184.length co19, .slice Ao20 y187.length co20, .slice Ao21 y190.length co21, .slice Ao22 y193.length co22, .slice Ao23 y196.length co23]) (ok := (fun _ => True)) (okp := (fun _ => True)) ?hr ?hp (fun _ hk => hk) ((show ∀ k_, w17.heap.size ≤ k_ → (fun _ => True) k_ from fun k_ hk => trivial) _ (Nat.le_refl _)) (Below.refl _ _) (Nat.le_refl _) (by simp) ?_; (case hd => rfl); (case hg => rfl); (case hr => first | (go_simp; done) | (go_simp; rfl)); (case hp => exact (Reps.one (show Kd.FK (Kd.slice 3 (Kd.int .i64)) _ _ y184 [.slice Ao19 y184.length co19] from (Kd.FK_slice_mk (Kd.R_reads' (Kd.R_mono (ok' := (fun _ => True)) (HO186.out) (fun k_ hk => trivial))).2.1 (Kd.R_F (Kd.R_mono (ok' := (fun _ => True)) (HO186.out) (fun k_ hk => trivial))))) (Reps.one (show Kd.FK (Kd.slice 3 (Kd.int .i64)) _ _ y187 [.slice Ao20 y187.length co20] from (Kd.FK_slice_mk (Kd.R_reads' (Kd.R_mono (ok' := (fun _ => True)) (HO189.out) (fun k_ hk => trivial))).2.1 (Kd.R_F (Kd.R_mono (ok' := (fun _ => True)) (HO189.out) (fun k_ hk => trivial))))) (Reps.one (show Kd.FK (Kd.slice 3 (Kd.int .i64)) _ _ y190 [.slice Ao21 y190.length co21] from (Kd.FK_slice_mk (Kd.R_reads' (Kd.R_mono (ok' := (fun _ => True)) (HO192.out) (fun k_ hk => trivial))).2.1 (Kd.R_F (Kd.R_mono (ok' := (fun _ => True)) (HO192.out) (fun k_ hk => trivial))))) (Reps.one (show Kd.FK (Kd.slice 3 (Kd.int .i64)) _ _ y193 [.slice Ao22 y193.length co22] from (Kd.FK_slice_mk (Kd.R_reads' (Kd.R_mono (ok' := (fun _ => True)) (HO195.out) (fun k_ hk => trivial))).2.1 (Kd.R_F (Kd.R_mono (ok' := (fun _ => True)) (HO195.out) (fun k_ hk => trivial))))) (Reps.one (show Kd.FK (Kd.slice 3 (Kd.int .i64)) _ _ y196 [.slice Ao23 y196.length co23] from (Kd.FK_slice_mk (Kd.R_reads' (Kd.R_mono (ok' := (fun _ => True)) (HO198.out) (fun k_ hk => trivial))).2.1 (Kd.R_F (Kd.R_mono (ok' := (fun _ => True)) (HO198.out) (fun k_ hk => trivial))))) (Reps.none _ _))))))); intro v200 w24 ho25 hb hg_ hnew_; clear hg_ hnew_; (first | rw [← Ny199.out] at ho25 | (simp only [Int.reduceToNat] at ho25; rw [← Ny199.out] at ho25)); have n0_ := Aside0.mk (Kd.N_lower ho25 (below_size (by repeat (first | (with_reducible first | exact HB.out | apply below_alloc | apply pw_below_drewN | apply below_drew1) | exact HB.out)))); have n1_ := Aside0.mk (below_step (by repeat (first | (with_reducible first | exact HB.out | apply below_alloc | apply pw_below_drewN | apply below_drew1) | exact HB.out)) hb); clear HB; clear HO186; clear HO189; clear HO192; clear HO195; clear HO198; have HO201 := n0_; have HB := n1_; clear n0_ n1_; clear hb ho25) | ((with_reducible refine gate_dst (N := 26) rfl ?_); (try (refine gate_guard (by rfl) ?_; dsimp only)); refine Kd.R_lit (Kd.int .i64) _ 3 ?hg (N := 26) ?hd (xs := ([0] : List Int)) (inner := [.int .i64 0]) (ok := fun _ => True) (okp := fun _ => True) ?hr ?hp (fun _ hk => hk) trivial (Below.refl _ _) (Nat.le_refl _) (by simp) ?_; (case hd => rfl); (case hg => rfl); (case hr => first | (go_simp; done) | (go_simp; rfl)); (case hp => exact (Reps.one (show Kd.M (Kd.int .i64) _ _ _ 0 [.int .i64 0] from rfl) (Reps.none _ _))); intro v203 w26 ho27 hb hg_ hnew_; clear hg_ hnew_; (first | rw [← Ny202.out] at ho27 | (simp only [Int.reduceToNat] at ho27; rw [← Ny202.out] at ho27)); have n0_ := Aside0.mk (Kd.N_elder' (by (with_reducible repeat (first | apply Kd.N_alloc | apply Kd.N_drewN | apply Kd.N_drew)); exact HO201.out) (Kd.R_base ho27) hb); have n1_ := Aside0.mk (Kd.R_lower ho27 (below_size (by repeat (first | (with_reducible first | exact HB.out | apply below_alloc | apply pw_below_drewN | apply below_drew1) | exact HB.out)))); have n2_ := Aside0.mk (below_step (by repeat (first | (with_reducible first | exact HB.out | apply below_alloc | apply pw_below_drewN | apply below_drew1) | exact HB.out)) hb); clear HO201; clear HB; have HO201 := n0_; have HO204 := n1_; have HB := n2_; clear n0_ n1_ n2_; clear hb ho27) | ((with_reducible refine gate_dst (N := 27) rfl ?_); (try (refine gate_guard (by rfl) ?_; dsimp only)); refine Kd.R_lit (Kd.int .i64) _ 3 ?hg (N := 27) ?hd (xs := ([10] : List Int)) (inner := [.int .i64 10]) (ok := fun _ => True) (okp := fun _ => True) ?hr ?hp (fun _ hk => hk) trivial (Below.refl _ _) (Nat.le_refl _) (by simp) ?_; (case hd => rfl); (case hg => rfl); (case hr => first | (go_simp; done) | (go_simp; rfl)); (case hp => exact (Reps.one (show Kd.M (Kd.int .i64) _ _ _ 10 [.int .i64 10] from rfl) (Reps.none _ _))); intro v206 w28 ho29 hb hg_ hnew_; clear hg_ hnew_; (first | rw [← Ny205.out] at ho29 | (simp only [Int.reduceToNat] at ho29; rw [← Ny205.out] at ho29)); have n0_ := Aside0.mk (Kd.N_elder' (by (with_reducible repeat (first | apply Kd.N_alloc | apply Kd.N_drewN | apply Kd.N_drew)); exact HO201.out) (Kd.R_base ho29) hb); have n1_ := Aside0.mk (Kd.R_elder' (by (with_reducible repeat (first | apply Kd.R_alloc | apply Kd.R_drewN | apply Kd.R_drew)); exact HO204.out) (Kd.R_base ho29) hb); have n2_ := Aside0.mk (Kd.R_lower (Kd.R_new' ho29 (Kd.R_lt (by (with_reducible repeat (first | apply Kd.R_alloc | apply Kd.R_drewN | apply Kd.R_drew)); exact HO204.out))) (below_size (by repeat (first | (with_reducible first | exact HB.out | apply below_alloc | apply pw_below_drewN | apply below_drew1) | exact HB.out)))); have n3_ := Aside0.mk (below_step (by repeat (first | (with_reducible first | exact HB.out | apply below_alloc | apply pw_below_drewN | apply below_drew1) | exact HB.out)) hb); clear HO201; clear HO204; clear HB; have HO201 := n0_; have HO204 := n1_; have HO207 := n2_; have HB := n3_; clear n0_ n1_ n2_ n3_; clear hb ho29; obtain ⟨Ao30, co30, eo30⟩ := Kd.R_slice HO204.out; subst eo30; obtain ⟨Ao31, co31, eo31⟩ := Kd.R_slice HO207.out; subst eo31) | ((with_reducible refine gate_dst (N := 28) rfl ?_); (try (refine gate_guard (by rfl) ?_; dsimp only)); refine Kd.N_lit (Kd.slice 3 (Kd.int .i64)) _ 23 ?hg (N' := 28) ?hd (xs := ([y202, y205] : List (List Int))) (inner := [.slice Ao30 y202.length co30, .slice Ao31 y205.length co31]) (ok := (fun k_ => some k_ ≠ (v200 : Value).ownBlock)) (okp := (fun k_ => some k_ ≠ (v200 : Value).ownBlock)) ?hr ?hp (fun _ hk => hk) ((show ∀ k_, w28.heap.size ≤ k_ → (fun k_ => some k_ ≠ (v200 : Value).ownBlock) k_ from fun k_ hk => Kd.fresh' (Kd.N_lt (by (with_reducible repeat (first | apply Kd.N_alloc | apply Kd.N_drewN | apply Kd.N_drew)); exact HO201.out)) k_ hk) _ (Nat.le_refl _)) (Below.refl _ _) (Nat.le_refl _) (by simp) ?_; (case hd => rfl); (case hg => rfl); (case hr => first | (go_simp; done) | (go_simp; rfl)); (case hp => exact (Reps.one (show Kd.FK (Kd.slice 3 (Kd.int .i64)) _ _ y202 [.slice Ao30 y202.length co30] from (Kd.FK_slice_mk (Kd.R_reads' (Kd.R_mono (ok' := (fun k_ => some k_ ≠ (v200 : Value).ownBlock)) (Kd.R_apart' (HO204.out) (Kd.N_typed HO201.out) (by decide)) (fun k_ hk => hk.2))).2.1 (Kd.R_F (Kd.R_mono (ok' := (fun k_ => some k_ ≠ (v200 : Value).ownBlock)) (Kd.R_apart' (HO204.out) (Kd.N_typed HO201.out) (by decide)) (fun k_ hk => hk.2))))) (Reps.one (show Kd.FK (Kd.slice 3 (Kd.int .i64)) _ _ y205 [.slice Ao31 y205.length co31] from (Kd.FK_slice_mk (Kd.R_reads' (Kd.R_mono (ok' := (fun k_ => some k_ ≠ (v200 : Value).ownBlock)) (Kd.R_apart' (HO207.out) (Kd.N_typed HO201.out) (by decide)) (fun k_ hk => hk.2))).2.1 (Kd.R_F (Kd.R_mono (ok' := (fun k_ => some k_ ≠ (v200 : Value).ownBlock)) (Kd.R_apart' (HO207.out) (Kd.N_typed HO201.out) (by decide)) (fun k_ hk => hk.2))))) (Reps.none _ _)))); intro v209 w32 ho33 hb hg_ hnew_; clear hg_ hnew_; (first | rw [← Ny208.out] at ho33 | (simp only [Int.reduceToNat] at ho33; rw [← Ny208.out] at ho33)); have n0_ := Aside0.mk (Kd.N_elder' (by (with_reducible repeat (first | apply Kd.N_alloc | apply Kd.N_drewN | apply Kd.N_drew)); exact HO201.out) (Kd.N_base ho33) hb); have n1_ := Aside0.mk (Kd.N_lower ho33 (below_size (by repeat (first | (with_reducible first | exact HB.out | apply below_alloc | apply pw_below_drewN | apply below_drew1) | exact HB.out)))); have n2_ := Aside0.mk (below_step (by repeat (first | (with_reducible first | exact HB.out | apply below_alloc | apply pw_below_drewN | apply below_drew1) | exact HB.out)) hb); clear HO201; clear HB; clear HO204; clear HO207; have HO201 := n0_; have HO210 := n1_; have HB := n2_; clear n0_ n1_ n2_; clear hb ho33; obtain ⟨Ao34, co34, eo34⟩ := Kd.N_slice HO201.out; subst eo34) | ((with_reducible refine gate_callee (f := 11) rfl ?_); refine goesL_ (some 31) rfl rfl Try.func11 (by kernel_rfl) rfl #[.int .i64 1, .slice Ao34 y199.length co34, .int .i64 3] rfl (by (try simp only [List.map_toArray, List.map_cons, List.map_nil]); first | done | rfl | (simp only [List.length_drop, List.length_take]; rfl)) ?_; (with_reducible refine (pivot_Choose.calls 1 _ _ y199 3 t211 t212 _ ?side1 ?side2 A1.out).mono ?_); (case side1 => repeat (first | exact (Kd.N_reads' HO201.out).2.2 | (with_reducible refine Kd.C_alloc ?_ _) | (with_reducible refine Kd.C_drewN ?_ _) | (with_reducible refine Kd.C_drew ?_))); (case side2 => exact (Kd.N_reads' HO201.out).2.1); rintro e w35 ⟨v213, rfl, ho0, hb⟩; refine ⟨_, rfl, ?_⟩; have n0_ := Aside0.mk (Kd.N_elder' (by (with_reducible repeat (first | apply Kd.N_alloc | apply Kd.N_drewN | apply Kd.N_drew)); exact HO201.out) (Kd.R_base ho0) hb); have n1_ := Aside0.mk (Kd.N_elder' (by (with_reducible repeat (first | apply Kd.N_alloc | apply Kd.N_drewN | apply Kd.N_drew)); exact HO210.out) (Kd.R_base ho0) hb); have n2_ := Aside0.mk (Kd.R_lower ho0 (below_size (by repeat (first | (with_reducible first | exact HB.out | apply below_alloc | apply pw_below_drewN | apply below_drew1) | exact HB.out)))); have n3_ := Aside0.mk (below_step (by repeat (first | (with_reducible first | exact HB.out | apply below_alloc | apply pw_below_drewN | apply below_drew1) | exact HB.out)) hb); clear HO201; clear HO210; clear HB; have HO201 := n0_; have HO210 := n1_; have HO214 := n2_; have HB := n3_; clear n0_ n1_ n2_ n3_; (try clear hb); (try clear hb2); (try clear hk); (try clear hi); (try clear ho0)) | ((with_reducible refine gate_dst (N := 35) rfl ?_); (try (refine gate_guard (by rfl) ?_; dsimp only)); refine Kd.R_lit (Kd.int .i64) _ 3 ?hg (N := 35) ?hd (xs := ([0] : List Int)) (inner := [.int .i64 0]) (ok := fun _ => True) (okp := fun _ => True) ?hr ?hp (fun _ hk => hk) trivial (Below.refl _ _) (Nat.le_refl _) (by simp) ?_; (case hd => rfl); (case hg => rfl); (case hr => first | (go_simp; done) | (go_simp; rfl)); (case hp => exact (Reps.one (show Kd.M (Kd.int .i64) _ _ _ 0 [.int .i64 0] from rfl) (Reps.none _ _))); intro v216 w36 ho37 hb hg_ hnew_; clear hg_ hnew_; (first | rw [← Ny215.out] at ho37 | (simp only [Int.reduceToNat] at ho37; rw [← Ny215.out] at ho37)); have n0_ := Aside0.mk (Kd.N_elder' (by (with_reducible repeat (first | apply Kd.N_alloc | apply Kd.N_drewN | apply Kd.N_drew)); exact HO201.out) (Kd.R_base ho37) hb); have n1_ := Aside0.mk (Kd.N_elder' (by (with_reducible repeat (first | apply Kd.N_alloc | apply Kd.N_drewN | apply Kd.N_drew)); exact HO210.out) (Kd.R_base ho37) hb); have n2_ := Aside0.mk (Kd.R_elder' (by (with_reducible repeat (first | apply Kd.R_alloc | apply Kd.R_drewN | apply Kd.R_drew)); exact HO214.out) (Kd.R_base ho37) hb); have n3_ := Aside0.mk (Kd.R_lower (Kd.R_new' ho37 (Kd.R_lt (by (with_reducible repeat (first | apply Kd.R_alloc | apply Kd.R_drewN | apply Kd.R_drew)); exact HO214.out))) (below_size (by repeat (first | (with_reducible first | exact HB.out | apply below_alloc | apply pw_below_drewN | apply below_drew1) | exact HB.out)))); have n4_ := Aside0.mk (below_step (by repeat (first | (with_reducible first | exact HB.out | apply below_alloc | apply pw_below_drewN | apply below_drew1) | exact HB.out)) hb); clear HO201; clear HO210; clear HO214; clear HB; have HO201 := n0_; have HO210 := n1_; have HO214 := n2_; have HO217 := n3_; have HB := n4_; clear n0_ n1_ n2_ n3_ n4_; clear hb ho37) | ((with_reducible refine gate_dst (N := 36) rfl ?_); (try (refine gate_guard (by rfl) ?_; dsimp only)); refine Kd.R_lit (Kd.int .i64) _ 3 ?hg (N := 36) ?hd (xs := ([0] : List Int)) (inner := [.int .i64 0]) (ok := fun _ => True) (okp := fun _ => True) ?hr ?hp (fun _ hk => hk) trivial (Below.refl _ _) (Nat.le_refl _) (by simp) ?_; (case hd => rfl); (case hg => rfl); (case hr => first | (go_simp; done) | (go_simp; rfl)); (case hp => exact (Reps.one (show Kd.M (Kd.int .i64) _ _ _ 0 [.int .i64 0] from rfl) (Reps.none _ _))); intro v219 w38 ho39 hb hg_ hnew_; clear hg_ hnew_; (first | rw [← Ny218.out] at ho39 | (simp only [Int.reduceToNat] at ho39; rw [← Ny218.out] at ho39)); have n0_ := Aside0.mk (Kd.N_elder' (by (with_reducible repeat (first | apply Kd.N_alloc | apply Kd.N_drewN | apply Kd.N_drew)); exact HO201.out) (Kd.R_base ho39) hb); have n1_ := Aside0.mk (Kd.N_elder' (by (with_reducible repeat (first | apply Kd.N_alloc | apply Kd.N_drewN | apply Kd.N_drew)); exact HO210.out) (Kd.R_base ho39) hb); have n2_ := Aside0.mk (Kd.R_elder' (by (with_reducible repeat (first | apply Kd.R_alloc | apply Kd.R_drewN | apply Kd.R_drew)); exact HO214.out) (Kd.R_base ho39) hb); have n3_ := Aside0.mk (Kd.R_elder' (by (with_reducible repeat (first | apply Kd.R_alloc | apply Kd.R_drewN | apply Kd.R_drew)); exact HO217.out) (Kd.R_base ho39) hb); have n4_ := Aside0.mk (Kd.R_lower (Kd.R_new' (Kd.R_new' ho39 (Kd.R_lt (by (with_reducible repeat (first | apply Kd.R_alloc | apply Kd.R_drewN | apply Kd.R_drew)); exact HO214.out))) (Kd.R_lt (by (with_reducible repeat (first | apply Kd.R_alloc | apply Kd.R_drewN | apply Kd.R_drew)); exact HO217.out))) (below_size (by repeat (first | (with_reducible first | exact HB.out | apply below_alloc | apply pw_below_drewN | apply below_drew1) | exact HB.out)))); have n5_ := Aside0.mk (below_step (by repeat (first | (with_reducible first | exact HB.out | apply below_alloc | apply pw_below_drewN | apply below_drew1) | exact HB.out)) hb); clear HO201; clear HO210; clear HO214; clear HO217; clear HB; have HO201 := n0_; have HO210 := n1_; have HO214 := n2_; have HO217 := n3_; have HO220 := n4_; have HB := n5_; clear n0_ n1_ n2_ n3_ n4_ n5_; clear hb ho39; obtain ⟨Ao40, co40, eo40⟩ := Kd.R_slice HO217.out; subst eo40; obtain ⟨Ao41, co41, eo41⟩ := Kd.R_slice HO220.out; subst eo41) | ((with_reducible refine gate_dst (N := 37) rfl ?_); (try (refine gate_guard (by rfl) ?_; dsimp only)); refine Kd.N_lit (Kd.slice 3 (Kd.int .i64)) _ 23 ?hg (N' := 37) ?hd (xs := ([y215, y218] : List (List Int))) (inner := [.slice Ao40 y215.length co40, .slice Ao41 y218.length co41]) (ok := (fun k_ => some k_ ≠ (.slice Ao34 y199.length co34 : Value).ownBlock ∧ some k_ ≠ (v209 : Value).ownBlock ∧ some k_ ≠ (v213 : Value).ownBlock)) (okp := (fun k_ => some k_ ≠ (.slice Ao34 y199.length co34 : Value).ownBlock ∧ some k_ ≠ (v209 : Value).ownBlock ∧ some k_ ≠ (v213 : Value).ownBlock)) ?hr ?hp (fun _ hk => hk) ((show ∀ k_, w38.heap.size ≤ k_ → (fun k_ => some k_ ≠ (.slice Ao34 y199.length co34 : Value).ownBlock ∧ some k_ ≠ (v209 : Value).ownBlock ∧ some k_ ≠ (v213 : Value).ownBlock) k_ from fun k_ hk => ⟨Kd.fresh' (Kd.N_lt (by (with_reducible repeat (first | apply Kd.N_alloc | apply Kd.N_drewN | apply Kd.N_drew)); exact HO201.out)) k_ hk, Kd.fresh' (Kd.N_lt (by (with_reducible repeat (first | apply Kd.N_alloc | apply Kd.N_drewN | apply Kd.N_drew)); exact HO210.out)) k_ hk, Kd.fresh' (Kd.R_lt (by (with_reducible repeat (first | apply Kd.R_alloc | apply Kd.R_drewN | apply Kd.R_drew)); exact HO214.out)) k_ hk⟩) _ (Nat.le_refl _)) (Below.refl _ _) (Nat.le_refl _) (by simp) ?_; (case hd => rfl); (case hg => rfl); (case hr => first | (go_simp; done) | (go_simp; rfl)); (case hp => exact (Reps.one (show Kd.FK (Kd.slice 3 (Kd.int .i64)) _ _ y215 [.slice Ao40 y215.length co40] from (Kd.FK_slice_mk (Kd.R_reads' (Kd.R_mono (ok' := (fun k_ => some k_ ≠ (.slice Ao34 y199.length co34 : Value).ownBlock ∧ some k_ ≠ (v209 : Value).ownBlock ∧ some k_ ≠ (v213 : Value).ownBlock)) (Kd.R_apart' (Kd.R_apart' (HO217.out) (Kd.N_typed HO201.out) (by decide)) (Kd.N_typed HO210.out) (by decide)) (fun k_ hk => ⟨hk.1.2, ⟨hk.2, hk.1.1.1.2⟩⟩))).2.1 (Kd.R_F (Kd.R_mono (ok' := (fun k_ => some k_ ≠ (.slice Ao34 y199.length co34 : Value).ownBlock ∧ some k_ ≠ (v209 : Value).ownBlock ∧ some k_ ≠ (v213 : Value).ownBlock)) (Kd.R_apart' (Kd.R_apart' (HO217.out) (Kd.N_typed HO201.out) (by decide)) (Kd.N_typed HO210.out) (by decide)) (fun k_ hk => ⟨hk.1.2, ⟨hk.2, hk.1.1.1.2⟩⟩))))) (Reps.one (show Kd.FK (Kd.slice 3 (Kd.int .i64)) _ _ y218 [.slice Ao41 y218.length co41] from (Kd.FK_slice_mk (Kd.R_reads' (Kd.R_mono (ok' := (fun k_ => some k_ ≠ (.slice Ao34 y199.length co34 : Value).ownBlock ∧ some k_ ≠ (v209 : Value).ownBlock ∧ some k_ ≠ (v213 : Value).ownBlock)) (Kd.R_apart' (Kd.R_apart' (HO220.out) (Kd.N_typed HO201.out) (by decide)) (Kd.N_typed HO210.out) (by decide)) (fun k_ hk => ⟨hk.1.2, ⟨hk.2, hk.1.1.1.2⟩⟩))).2.1 (Kd.R_F (Kd.R_mono (ok' := (fun k_ => some k_ ≠ (.slice Ao34 y199.length co34 : Value).ownBlock ∧ some k_ ≠ (v209 : Value).ownBlock ∧ some k_ ≠ (v213 : Value).ownBlock)) (Kd.R_apart' (Kd.R_apart' (HO220.out) (Kd.N_typed HO201.out) (by decide)) (Kd.N_typed HO210.out) (by decide)) (fun k_ hk => ⟨hk.1.2, ⟨hk.2, hk.1.1.1.2⟩⟩))))) (Reps.none _ _)))); intro v222 w42 ho43 hb hg_ hnew_; clear hg_ hnew_; (first | rw [← Ny221.out] at ho43 | (simp only [Int.reduceToNat] at ho43; rw [← Ny221.out] at ho43)); have n0_ := Aside0.mk (Kd.N_elder' (by (with_reducible repeat (first | apply Kd.N_alloc | apply Kd.N_drewN | apply Kd.N_drew)); exact HO201.out) (Kd.N_base ho43) hb); have n1_ := Aside0.mk (Kd.N_elder' (by (with_reducible repeat (first | apply Kd.N_alloc | apply Kd.N_drewN | apply Kd.N_drew)); exact HO210.out) (Kd.N_base ho43) hb); have n2_ := Aside0.mk (Kd.R_below (by (with_reducible repeat (first | apply Kd.R_alloc | apply Kd.R_drewN | apply Kd.R_drew)); exact HO214.out) hb); have n3_ := Aside0.mk (Kd.N_lower ho43 (below_size (by repeat (first | (with_reducible first | exact HB.out | apply below_alloc | apply pw_below_drewN | apply below_drew1) | exact HB.out)))); have n4_ := Aside0.mk (below_step (by repeat (first | (with_reducible first | exact HB.out | apply below_alloc | apply pw_below_drewN | apply below_drew1) | exact HB.out)) hb); clear HO201; clear HO210; clear HO214; clear HB; clear HO217; clear HO220; have HO201 := n0_; have HO210 := n1_; have HO214 := n2_; have HO223 := n3_; have HB := n4_; clear n0_ n1_ n2_ n3_ n4_; clear hb ho43; obtain ⟨Ao44, co44, eo44⟩ := Kd.N_slice HO223.out; subst eo44) | ((with_reducible refine gate_callee (f := 11) rfl ?_); refine goesL_ (some 38) rfl rfl Try.func11 (by kernel_rfl) rfl #[.int .i64 1, .slice Ao44 y221.length co44, .int .i64 2] rfl (by (try simp only [List.map_toArray, List.map_cons, List.map_nil]); first | done | rfl | (simp only [List.length_drop, List.length_take]; rfl)) ?_; (with_reducible refine (pivot_Choose.calls 1 _ _ y221 2 t224 t225 _ ?side1 ?side2 A2.out).mono ?_); (case side1 => repeat (first | exact (Kd.N_reads' HO223.out).2.2 | (with_reducible refine Kd.C_alloc ?_ _) | (with_reducible refine Kd.C_drewN ?_ _) | (with_reducible refine Kd.C_drew ?_))); (case side2 => exact (Kd.N_reads' HO223.out).2.1); rintro e w45 ⟨v226, rfl, ho0, hb⟩; refine ⟨_, rfl, ?_⟩; have n0_ := Aside0.mk (Kd.N_elder' (by (with_reducible repeat (first | apply Kd.N_alloc | apply Kd.N_drewN | apply Kd.N_drew)); exact HO201.out) (Kd.R_base ho0) hb); have n1_ := Aside0.mk (Kd.N_elder' (by (with_reducible repeat (first | apply Kd.N_alloc | apply Kd.N_drewN | apply Kd.N_drew)); exact HO210.out) (Kd.R_base ho0) hb); have n2_ := Aside0.mk (Kd.R_elder' (by (with_reducible repeat (first | apply Kd.R_alloc | apply Kd.R_drewN | apply Kd.R_drew)); exact HO214.out) (Kd.R_base ho0) hb); have n3_ := Aside0.mk (Kd.N_elder' (by (with_reducible repeat (first | apply Kd.N_alloc | apply Kd.N_drewN | apply Kd.N_drew)); exact HO223.out) (Kd.R_base ho0) hb); have n4_ := Aside0.mk (Kd.R_lower (Kd.R_new' ho0 (Kd.R_lt (by (with_reducible repeat (first | apply Kd.R_alloc | apply Kd.R_drewN | apply Kd.R_drew)); exact HO214.out))) (below_size (by repeat (first | (with_reducible first | exact HB.out | apply below_alloc | apply pw_below_drewN | apply below_drew1) | exact HB.out)))); have n5_ := Aside0.mk (below_step (by repeat (first | (with_reducible first | exact HB.out | apply below_alloc | apply pw_below_drewN | apply below_drew1) | exact HB.out)) hb); clear HO201; clear HO210; clear HO214; clear HO223; clear HB; have HO201 := n0_; have HO210 := n1_; have HO214 := n2_; have HO223 := n3_; have HO227 := n4_; have HB := n5_; clear n0_ n1_ n2_ n3_ n4_ n5_; (try clear hb); (try clear hb2); (try clear hk); (try clear hi); (try clear ho0); obtain ⟨Ao46, co46, eo46⟩ := Kd.N_slice HO210.out; subst eo46) | ((with_reducible refine gate_callee (f := 13) rfl ?_); refine goesL_ (some 44) rfl rfl Try.func13 (by kernel_rfl) rfl #[.int .i64 1, .slice Ao46 y208.length co46, .slice Ao34 y199.length co34] rfl (by (try simp only [List.map_toArray, List.map_cons, List.map_nil]); first | done | rfl | (simp only [List.length_drop, List.length_take]; rfl)) ?_; (with_reducible refine (pivot_Cover.calls k 1 _ _ y208 _ _ y199 t228 t229 _ ?side1 ?side2 ?side3 ?side4 A3.out).mono ?_); (case side1 => repeat (first | exact (Kd.N_reads' HO210.out).2.2 | (with_reducible refine Kd.C_alloc ?_ _) | (with_reducible refine Kd.C_drewN ?_ _) | (with_reducible refine Kd.C_drew ?_))); (case side2 => exact (Kd.N_reads' HO210.out).2.1); (case side3 => repeat (first | exact (Kd.N_reads' HO201.out).2.2 | (with_reducible refine Kd.C_alloc ?_ _) | (with_reducible refine Kd.C_drewN ?_ _) | (with_reducible refine Kd.C_drew ?_))); (case side4 => exact (Kd.N_reads' HO201.out).2.1); rintro e w47 ⟨rfl, hb⟩; refine ⟨_, rfl, ?_⟩; have n0_ := Aside0.mk (Kd.N_below (by (with_reducible repeat (first | apply Kd.N_alloc | apply Kd.N_drewN | apply Kd.N_drew)); exact HO201.out) hb); have n1_ := Aside0.mk (Kd.N_below (by (with_reducible repeat (first | apply Kd.N_alloc | apply Kd.N_drewN | apply Kd.N_drew)); exact HO210.out) hb); have n2_ := Aside0.mk (Kd.R_below (by (with_reducible repeat (first | apply Kd.R_alloc | apply Kd.R_drewN | apply Kd.R_drew)); exact HO214.out) hb); have n3_ := Aside0.mk (Kd.N_below (by (with_reducible repeat (first | apply Kd.N_alloc | apply Kd.N_drewN | apply Kd.N_drew)); exact HO223.out) hb); have n4_ := Aside0.mk (Kd.R_below (by (with_reducible repeat (first | apply Kd.R_alloc | apply Kd.R_drewN | apply Kd.R_drew)); exact HO227.out) hb); have n5_ := Aside0.mk (below_step (by repeat (first | (with_reducible first | exact HB.out | apply below_alloc | apply pw_below_drewN | apply below_drew1) | exact HB.out)) hb); clear HO201; clear HO210; clear HO214; clear HO223; clear HO227; clear HB; have HO201 := n0_; have HO210 := n1_; have HO214 := n2_; have HO223 := n3_; have HO227 := n4_; have HB := n5_; clear n0_ n1_ n2_ n3_ n4_ n5_; (try clear hb); (try clear hb2); (try clear hk); (try clear hi)) | ((with_reducible refine gate_dst (N := 49) rfl ?_); (try (refine gate_guard (by rfl) ?_; dsimp only)); refine Kd.R_lit (Kd.int .i64) _ 3 ?hg (N := 49) ?hd (xs := ([6] : List Int)) (inner := [.int .i64 6]) (ok := fun _ => True) (okp := fun _ => True) ?hr ?hp (fun _ hk => hk) trivial (Below.refl _ _) (Nat.le_refl _) (by simp) ?_; (case hd => rfl); (case hg => rfl); (case hr => first | (go_simp; done) | (go_simp; rfl)); (case hp => exact (Reps.one (show Kd.M (Kd.int .i64) _ _ _ 6 [.int .i64 6] from rfl) (Reps.none _ _))); intro v231 w48 ho49 hb hg_ hnew_; clear hg_ hnew_; (first | rw [← Ny230.out] at ho49 | (simp only [Int.reduceToNat] at ho49; rw [← Ny230.out] at ho49)); have n0_ := Aside0.mk (Kd.N_elder' (by (with_reducible repeat (first | apply Kd.N_alloc | apply Kd.N_drewN | apply Kd.N_drew)); exact HO201.out) (Kd.R_base ho49) hb); have n1_ := Aside0.mk (Kd.N_elder' (by (with_reducible repeat (first | apply Kd.N_alloc | apply Kd.N_drewN | apply Kd.N_drew)); exact HO210.out) (Kd.R_base ho49) hb); have n2_ := Aside0.mk (Kd.R_elder' (by (with_reducible repeat (first | apply Kd.R_alloc | apply Kd.R_drewN | apply Kd.R_drew)); exact HO214.out) (Kd.R_base ho49) hb); have n3_ := Aside0.mk (Kd.N_elder' (by (with_reducible repeat (first | apply Kd.N_alloc | apply Kd.N_drewN | apply Kd.N_drew)); exact HO223.out) (Kd.R_base ho49) hb); have n4_ := Aside0.mk (Kd.R_elder' (by (with_reducible repeat (first | apply Kd.R_alloc | apply Kd.R_drewN | apply Kd.R_drew)); exact HO227.out) (Kd.R_base ho49) hb); have n5_ := Aside0.mk (Kd.R_lower (Kd.R_new' (Kd.R_new' ho49 (Kd.R_lt (by (with_reducible repeat (first | apply Kd.R_alloc | apply Kd.R_drewN | apply Kd.R_drew)); exact HO214.out))) (Kd.R_lt (by (with_reducible repeat (first | apply Kd.R_alloc | apply Kd.R_drewN | apply Kd.R_drew)); exact HO227.out))) (below_size (by repeat (first | (with_reducible first | exact HB.out | apply below_alloc | apply pw_below_drewN | apply below_drew1) | exact HB.out)))); have n6_ := Aside0.mk (below_step (by repeat (first | (with_reducible first | exact HB.out | apply below_alloc | apply pw_below_drewN | apply below_drew1) | exact HB.out)) hb); clear HO201; clear HO210; clear HO214; clear HO223; clear HO227; clear HB; have HO201 := n0_; have HO210 := n1_; have HO214 := n2_; have HO223 := n3_; have HO227 := n4_; have HO232 := n5_; have HB := n6_; clear n0_ n1_ n2_ n3_ n4_ n5_ n6_; clear hb ho49; obtain ⟨Ao50, co50, eo50⟩ := Kd.R_slice HO232.out; subst eo50) | ((with_reducible refine gate_callee (f := 12) rfl ?_); refine goesL_ (some 50) rfl rfl Try.func12 (by kernel_rfl) rfl #[.int .i64 1, .slice Ao46 y208.length co46, .slice Ao50 y230.length co50] rfl (by (try simp only [List.map_toArray, List.map_cons, List.map_nil]); first | done | rfl | (simp only [List.length_drop, List.length_take]; rfl)) ?_; (with_reducible refine (pivot_Nearest.calls k 1 _ _ y208 _ _ y230 t233 t234 t235 _ ?side1 ?side2 ?side3 ?side4 A4.out).mono ?_); (case side1 => repeat (first | exact (Kd.N_reads' HO210.out).2.2 | (with_reducible refine Kd.C_alloc ?_ _) | (with_reducible refine Kd.C_drewN ?_ _) | (with_reducible refine Kd.C_drew ?_))); (case side2 => exact (Kd.N_reads' HO210.out).2.1); (case side3 => repeat (first | exact (Kd.R_reads' HO232.out).2.2 | (with_reducible refine Kd.C_alloc ?_ _) | (with_reducible refine Kd.C_drewN ?_ _) | (with_reducible refine Kd.C_drew ?_))); (case side4 => exact (Kd.R_reads' HO232.out).2.1); rintro e w51 ⟨rfl, hb⟩; refine ⟨_, rfl, ?_⟩; have n0_ := Aside0.mk (Kd.N_below (by (with_reducible repeat (first | apply Kd.N_alloc | apply Kd.N_drewN | apply Kd.N_drew)); exact HO201.out) hb); have n1_ := Aside0.mk (Kd.N_below (by (with_reducible repeat (first | apply Kd.N_alloc | apply Kd.N_drewN | apply Kd.N_drew)); exact HO210.out) hb); have n2_ := Aside0.mk (Kd.R_below (by (with_reducible repeat (first | apply Kd.R_alloc | apply Kd.R_drewN | apply Kd.R_drew)); exact HO214.out) hb); have n3_ := Aside0.mk (Kd.N_below (by (with_reducible repeat (first | apply Kd.N_alloc | apply Kd.N_drewN | apply Kd.N_drew)); exact HO223.out) hb); have n4_ := Aside0.mk (Kd.R_below (by (with_reducible repeat (first | apply Kd.R_alloc | apply Kd.R_drewN | apply Kd.R_drew)); exact HO227.out) hb); have n5_ := Aside0.mk (Kd.R_below (by (with_reducible repeat (first | apply Kd.R_alloc | apply Kd.R_drewN | apply Kd.R_drew)); exact HO232.out) hb); have n6_ := Aside0.mk (below_step (by repeat (first | (with_reducible first | exact HB.out | apply below_alloc | apply pw_below_drewN | apply below_drew1) | exact HB.out)) hb); clear HO201; clear HO210; clear HO214; clear HO223; clear HO227; clear HO232; clear HB; have HO201 := n0_; have HO210 := n1_; have HO214 := n2_; have HO223 := n3_; have HO227 := n4_; have HO232 := n5_; have HB := n6_; clear n0_ n1_ n2_ n3_ n4_ n5_ n6_; (try clear hb); (try clear hb2); (try clear hk); (try clear hi)) | ((with_reducible refine gate_dst (N := 56) rfl ?_); (try (refine gate_guard (by rfl) ?_; dsimp only)); refine Kd.R_lit (Kd.int .i64) _ 3 ?hg (N := 56) ?hd (xs := ([4] : List Int)) (inner := [.int .i64 4]) (ok := fun _ => True) (okp := fun _ => True) ?hr ?hp (fun _ hk => hk) trivial (Below.refl _ _) (Nat.le_refl _) (by simp) ?_; (case hd => rfl); (case hg => rfl); (case hr => first | (go_simp; done) | (go_simp; rfl)); (case hp => exact (Reps.one (show Kd.M (Kd.int .i64) _ _ _ 4 [.int .i64 4] from rfl) (Reps.none _ _))); intro v237 w52 ho53 hb hg_ hnew_; clear hg_ hnew_; (first | rw [← Ny236.out] at ho53 | (simp only [Int.reduceToNat] at ho53; rw [← Ny236.out] at ho53)); have n0_ := Aside0.mk (Kd.N_elder' (by (with_reducible repeat (first | apply Kd.N_alloc | apply Kd.N_drewN | apply Kd.N_drew)); exact HO201.out) (Kd.R_base ho53) hb); have n1_ := Aside0.mk (Kd.N_elder' (by (with_reducible repeat (first | apply Kd.N_alloc | apply Kd.N_drewN | apply Kd.N_drew)); exact HO210.out) (Kd.R_base ho53) hb); have n2_ := Aside0.mk (Kd.R_elder' (by (with_reducible repeat (first | apply Kd.R_alloc | apply Kd.R_drewN | apply Kd.R_drew)); exact HO214.out) (Kd.R_base ho53) hb); have n3_ := Aside0.mk (Kd.N_elder' (by (with_reducible repeat (first | apply Kd.N_alloc | apply Kd.N_drewN | apply Kd.N_drew)); exact HO223.out) (Kd.R_base ho53) hb); have n4_ := Aside0.mk (Kd.R_elder' (by (with_reducible repeat (first | apply Kd.R_alloc | apply Kd.R_drewN | apply Kd.R_drew)); exact HO227.out) (Kd.R_base ho53) hb); have n5_ := Aside0.mk (Kd.R_elder' (by (with_reducible repeat (first | apply Kd.R_alloc | apply Kd.R_drewN | apply Kd.R_drew)); exact HO232.out) (Kd.R_base ho53) hb); have n6_ := Aside0.mk (Kd.R_lower (Kd.R_new' (Kd.R_new' (Kd.R_new' ho53 (Kd.R_lt (by (with_reducible repeat (first | apply Kd.R_alloc | apply Kd.R_drewN | apply Kd.R_drew)); exact HO214.out))) (Kd.R_lt (by (with_reducible repeat (first | apply Kd.R_alloc | apply Kd.R_drewN | apply Kd.R_drew)); exact HO227.out))) (Kd.R_lt (by (with_reducible repeat (first | apply Kd.R_alloc | apply Kd.R_drewN | apply Kd.R_drew)); exact HO232.out))) (below_size (by repeat (first | (with_reducible first | exact HB.out | apply below_alloc | apply pw_below_drewN | apply below_drew1) | exact HB.out)))); have n7_ := Aside0.mk (below_step (by repeat (first | (with_reducible first | exact HB.out | apply below_alloc | apply pw_below_drewN | apply below_drew1) | exact HB.out)) hb); clear HO201; clear HO210; clear HO214; clear HO223; clear HO227; clear HO232; clear HB; have HO201 := n0_; have HO210 := n1_; have HO214 := n2_; have HO223 := n3_; have HO227 := n4_; have HO232 := n5_; have HO238 := n6_; have HB := n7_; clear n0_ n1_ n2_ n3_ n4_ n5_ n6_ n7_; clear hb ho53) | ((with_reducible refine gate_dst (N := 57) rfl ?_); (try (refine gate_guard (by rfl) ?_; dsimp only)); refine Kd.R_lit (Kd.int .i64) _ 3 ?hg (N := 57) ?hd (xs := ([6] : List Int)) (inner := [.int .i64 6]) (ok := fun _ => True) (okp := fun _ => True) ?hr ?hp (fun _ hk => hk) trivial (Below.refl _ _) (Nat.le_refl _) (by simp) ?_; (case hd => rfl); (case hg => rfl); (case hr => first | (go_simp; done) | (go_simp; rfl)); (case hp => exact (Reps.one (show Kd.M (Kd.int .i64) _ _ _ 6 [.int .i64 6] from rfl) (Reps.none _ _))); intro v240 w54 ho55 hb hg_ hnew_; clear hg_ hnew_; (first | rw [← Ny239.out] at ho55 | (simp only [Int.reduceToNat] at ho55; rw [← Ny239.out] at ho55)); have n0_ := Aside0.mk (Kd.N_elder' (by (with_reducible repeat (first | apply Kd.N_alloc | apply Kd.N_drewN | apply Kd.N_drew)); exact HO201.out) (Kd.R_base ho55) hb); have n1_ := Aside0.mk (Kd.N_elder' (by (with_reducible repeat (first | apply Kd.N_alloc | apply Kd.N_drewN | apply Kd.N_drew)); exact HO210.out) (Kd.R_base ho55) hb); have n2_ := Aside0.mk (Kd.R_elder' (by (with_reducible repeat (first | apply Kd.R_alloc | apply Kd.R_drewN | apply Kd.R_drew)); exact HO214.out) (Kd.R_base ho55) hb); have n3_ := Aside0.mk (Kd.N_elder' (by (with_reducible repeat (first | apply Kd.N_alloc | apply Kd.N_drewN | apply Kd.N_drew)); exact HO223.out) (Kd.R_base ho55) hb); have n4_ := Aside0.mk (Kd.R_elder' (by (with_reducible repeat (first | apply Kd.R_alloc | apply Kd.R_drewN | apply Kd.R_drew)); exact HO227.out) (Kd.R_base ho55) hb); have n5_ := Aside0.mk (Kd.R_elder' (by (with_reducible repeat (first | apply Kd.R_alloc | apply Kd.R_drewN | apply Kd.R_drew)); exact HO232.out) (Kd.R_base ho55) hb); have n6_ := Aside0.mk (Kd.R_elder' (by (with_reducible repeat (first | apply Kd.R_alloc | apply Kd.R_drewN | apply Kd.R_drew)); exact HO238.out) (Kd.R_base ho55) hb); have n7_ := Aside0.mk (Kd.R_lower (Kd.R_new' (Kd.R_new' (Kd.R_new' (Kd.R_new' ho55 (Kd.R_lt (by (with_reducible repeat (first | apply Kd.R_alloc | apply Kd.R_drewN | apply Kd.R_drew)); exact HO214.out))) (Kd.R_lt (by (with_reducible repeat (first | apply Kd.R_alloc | apply Kd.R_drewN | apply Kd.R_drew)); exact HO227.out))) (Kd.R_lt (by (with_reducible repeat (first | apply Kd.R_alloc | apply Kd.R_drewN | apply Kd.R_drew)); exact HO232.out))) (Kd.R_lt (by (with_reducible repeat (first | apply Kd.R_alloc | apply Kd.R_drewN | apply Kd.R_drew)); exact HO238.out))) (below_size (by repeat (first | (with_reducible first | exact HB.out | apply below_alloc | apply pw_below_drewN | apply below_drew1) | exact HB.out)))); have n8_ := Aside0.mk (below_step (by repeat (first | (with_reducible first | exact HB.out | apply below_alloc | apply pw_below_drewN | apply below_drew1) | exact HB.out)) hb); clear HO201; clear HO210; clear HO214; clear HO223; clear HO227; clear HO232; clear HO238; clear HB; have HO201 := n0_; have HO210 := n1_; have HO214 := n2_; have HO223 := n3_; have HO227 := n4_; have HO232 := n5_; have HO238 := n6_; have HO241 := n7_; have HB := n8_; clear n0_ n1_ n2_ n3_ n4_ n5_ n6_ n7_ n8_; clear hb ho55; obtain ⟨Ao56, co56, eo56⟩ := Kd.R_slice HO238.out; subst eo56; obtain ⟨Ao57, co57, eo57⟩ := Kd.R_slice HO241.out; subst eo57) | ((with_reducible refine gate_dst (N := 58) rfl ?_); (try (refine gate_guard (by rfl) ?_; dsimp only)); refine Kd.N_lit (Kd.slice 3 (Kd.int .i64)) _ 23 ?hg (N' := 58) ?hd (xs := ([y236, y239] : List (List Int))) (inner := [.slice Ao56 y236.length co56, .slice Ao57 y239.length co57]) (ok := (fun k_ => some k_ ≠ (.slice Ao34 y199.length co34 : Value).ownBlock ∧ some k_ ≠ (.slice Ao46 y208.length co46 : Value).ownBlock ∧ some k_ ≠ (v213 : Value).ownBlock ∧ some k_ ≠ (.slice Ao44 y221.length co44 : Value).ownBlock ∧ some k_ ≠ (v226 : Value).ownBlock ∧ some k_ ≠ (.slice Ao50 y230.length co50 : Value).ownBlock)) (okp := (fun k_ => some k_ ≠ (.slice Ao34 y199.length co34 : Value).ownBlock ∧ some k_ ≠ (.slice Ao46 y208.length co46 : Value).ownBlock ∧ some k_ ≠ (v213 : Value).ownBlock ∧ some k_ ≠ (.slice Ao44 y221.length co44 : Value).ownBlock ∧ some k_ ≠ (v226 : Value).ownBlock ∧ some k_ ≠ (.slice Ao50 y230.length co50 : Value).ownBlock)) ?hr ?hp (fun _ hk => hk) ((show ∀ k_, w54.heap.size ≤ k_ → (fun k_ => some k_ ≠ (.slice Ao34 y199.length co34 : Value).ownBlock ∧ some k_ ≠ (.slice Ao46 y208.length co46 : Value).ownBlock ∧ some k_ ≠ (v213 : Value).ownBlock ∧ some k_ ≠ (.slice Ao44 y221.length co44 : Value).ownBlock ∧ some k_ ≠ (v226 : Value).ownBlock ∧ some k_ ≠ (.slice Ao50 y230.length co50 : Value).ownBlock) k_ from fun k_ hk => ⟨Kd.fresh' (Kd.N_lt (by (with_reducible repeat (first | apply Kd.N_alloc | apply Kd.N_drewN | apply Kd.N_drew)); exact HO201.out)) k_ hk, Kd.fresh' (Kd.N_lt (by (with_reducible repeat (first | apply Kd.N_alloc | apply Kd.N_drewN | apply Kd.N_drew)); exact HO210.out)) k_ hk, Kd.fresh' (Kd.R_lt (by (with_reducible repeat (first | apply Kd.R_alloc | apply Kd.R_drewN | apply Kd.R_drew)); exact HO214.out)) k_ hk, Kd.fresh' (Kd.N_lt (by (with_reducible repeat (first | apply Kd.N_alloc | apply Kd.N_drewN | apply Kd.N_drew)); exact HO223.out)) k_ hk, Kd.fresh' (Kd.R_lt (by (with_reducible repeat (first | apply Kd.R_alloc | apply Kd.R_drewN | apply Kd.R_drew)); exact HO227.out)) k_ hk, Kd.fresh' (Kd.R_lt (by (with_reducible repeat (first | apply Kd.R_alloc | apply Kd.R_drewN | apply Kd.R_drew)); exact HO232.out)) k_ hk⟩) _ (Nat.le_refl _)) (Below.refl _ _) (Nat.le_refl _) (by simp) ?_; (case hd => rfl); (case hg => rfl); (case hr => first | (go_simp; done) | (go_simp; rfl)); (case hp => exact (Reps.one (show Kd.FK (Kd.slice 3 (Kd.int .i64)) _ _ y236 [.slice Ao56 y236.length co56] from (Kd.FK_slice_mk (Kd.R_reads' (Kd.R_mono (ok' := (fun k_ => some k_ ≠ (.slice Ao34 y199.length co34 : Value).ownBlock ∧ some k_ ≠ (.slice Ao46 y208.length co46 : Value).ownBlock ∧ some k_ ≠ (v213 : Value).ownBlock ∧ some k_ ≠ (.slice Ao44 y221.length co44 : Value).ownBlock ∧ some k_ ≠ (v226 : Value).ownBlock ∧ some k_ ≠ (.slice Ao50 y230.length co50 : Value).ownBlock)) (Kd.R_apart' (Kd.R_apart' (Kd.R_apart' (HO238.out) (Kd.N_typed HO201.out) (by decide)) (Kd.N_typed HO210.out) (by decide)) (Kd.N_typed HO223.out) (by decide)) (fun k_ hk => ⟨hk.1.1.2, ⟨hk.1.2, ⟨hk.1.1.1.1.1.1.2, ⟨hk.2, ⟨hk.1.1.1.1.1.2, hk.1.1.1.1.2⟩⟩⟩⟩⟩))).2.1 (Kd.R_F (Kd.R_mono (ok' := (fun k_ => some k_ ≠ (.slice Ao34 y199.length co34 : Value).ownBlock ∧ some k_ ≠ (.slice Ao46 y208.length co46 : Value).ownBlock ∧ some k_ ≠ (v213 : Value).ownBlock ∧ some k_ ≠ (.slice Ao44 y221.length co44 : Value).ownBlock ∧ some k_ ≠ (v226 : Value).ownBlock ∧ some k_ ≠ (.slice Ao50 y230.length co50 : Value).ownBlock)) (Kd.R_apart' (Kd.R_apart' (Kd.R_apart' (HO238.out) (Kd.N_typed HO201.out) (by decide)) (Kd.N_typed HO210.out) (by decide)) (Kd.N_typed HO223.out) (by decide)) (fun k_ hk => ⟨hk.1.1.2, ⟨hk.1.2, ⟨hk.1.1.1.1.1.1.2, ⟨hk.2, ⟨hk.1.1.1.1.1.2, hk.1.1.1.1.2⟩⟩⟩⟩⟩))))) (Reps.one (show Kd.FK (Kd.slice 3 (Kd.int .i64)) _ _ y239 [.slice Ao57 y239.length co57] from (Kd.FK_slice_mk (Kd.R_reads' (Kd.R_mono (ok' := (fun k_ => some k_ ≠ (.slice Ao34 y199.length co34 : Value).ownBlock ∧ some k_ ≠ (.slice Ao46 y208.length co46 : Value).ownBlock ∧ some k_ ≠ (v213 : Value).ownBlock ∧ some k_ ≠ (.slice Ao44 y221.length co44 : Value).ownBlock ∧ some k_ ≠ (v226 : Value).ownBlock ∧ some k_ ≠ (.slice Ao50 y230.length co50 : Value).ownBlock)) (Kd.R_apart' (Kd.R_apart' (Kd.R_apart' (HO241.out) (Kd.N_typed HO201.out) (by decide)) (Kd.N_typed HO210.out) (by decide)) (Kd.N_typed HO223.out) (by decide)) (fun k_ hk => ⟨hk.1.1.2, ⟨hk.1.2, ⟨hk.1.1.1.1.1.1.2, ⟨hk.2, ⟨hk.1.1.1.1.1.2, hk.1.1.1.1.2⟩⟩⟩⟩⟩))).2.1 (Kd.R_F (Kd.R_mono (ok' := (fun k_ => some k_ ≠ (.slice Ao34 y199.length co34 : Value).ownBlock ∧ some k_ ≠ (.slice Ao46 y208.length co46 : Value).ownBlock ∧ some k_ ≠ (v213 : Value).ownBlock ∧ some k_ ≠ (.slice Ao44 y221.length co44 : Value).ownBlock ∧ some k_ ≠ (v226 : Value).ownBlock ∧ some k_ ≠ (.slice Ao50 y230.length co50 : Value).ownBlock)) (Kd.R_apart' (Kd.R_apart' (Kd.R_apart' (HO241.out) (Kd.N_typed HO201.out) (by decide)) (Kd.N_typed HO210.out) (by decide)) (Kd.N_typed HO223.out) (by decide)) (fun k_ hk => ⟨hk.1.1.2, ⟨hk.1.2, ⟨hk.1.1.1.1.1.1.2, ⟨hk.2, ⟨hk.1.1.1.1.1.2, hk.1.1.1.1.2⟩⟩⟩⟩⟩))))) (Reps.none _ _)))); intro v243 w58 ho59 hb hg_ hnew_; clear hg_ hnew_; (first | rw [← Ny242.out] at ho59 | (simp only [Int.reduceToNat] at ho59; rw [← Ny242.out] at ho59)); have n0_ := Aside0.mk (Kd.N_elder' (by (with_reducible repeat (first | apply Kd.N_alloc | apply Kd.N_drewN | apply Kd.N_drew)); exact HO201.out) (Kd.N_base ho59) hb); have n1_ := Aside0.mk (Kd.N_elder' (by (with_reducible repeat (first | apply Kd.N_alloc | apply Kd.N_drewN | apply Kd.N_drew)); exact HO210.out) (Kd.N_base ho59) hb); have n2_ := Aside0.mk (Kd.R_below (by (with_reducible repeat (first | apply Kd.R_alloc | apply Kd.R_drewN | apply Kd.R_drew)); exact HO214.out) hb); have n3_ := Aside0.mk (Kd.N_elder' (by (with_reducible repeat (first | apply Kd.N_alloc | apply Kd.N_drewN | apply Kd.N_drew)); exact HO223.out) (Kd.N_base ho59) hb); have n4_ := Aside0.mk (Kd.R_below (by (with_reducible repeat (first | apply Kd.R_alloc | apply Kd.R_drewN | apply Kd.R_drew)); exact HO227.out) hb); have n5_ := Aside0.mk (Kd.R_below (by (with_reducible repeat (first | apply Kd.R_alloc | apply Kd.R_drewN | apply Kd.R_drew)); exact HO232.out) hb); have n6_ := Aside0.mk (Kd.N_lower ho59 (below_size (by repeat (first | (with_reducible first | exact HB.out | apply below_alloc | apply pw_below_drewN | apply below_drew1) | exact HB.out)))); have n7_ := Aside0.mk (below_step (by repeat (first | (with_reducible first | exact HB.out | apply below_alloc | apply pw_below_drewN | apply below_drew1) | exact HB.out)) hb); clear HO201; clear HO210; clear HO214; clear HO223; clear HO227; clear HO232; clear HB; clear HO238; clear HO241; have HO201 := n0_; have HO210 := n1_; have HO214 := n2_; have HO223 := n3_; have HO227 := n4_; have HO232 := n5_; have HO244 := n6_; have HB := n7_; clear n0_ n1_ n2_ n3_ n4_ n5_ n6_ n7_; clear hb ho59; obtain ⟨Ao60, co60, eo60⟩ := Kd.N_slice HO244.out; subst eo60) | ((with_reducible refine gate_callee (f := 23) rfl ?_); refine goesL_ (some 59) rfl rfl Try.func23 (by kernel_rfl) rfl #[.int .i64 1, .slice Ao46 y208.length co46, .slice Ao60 y242.length co60] rfl (by (try simp only [List.map_toArray, List.map_cons, List.map_nil]); first | done | rfl | (simp only [List.length_drop, List.length_take]; rfl)) ?_; (with_reducible refine (pivot_Shells.calls 1 _ _ y208 _ _ y242 t245 t246 _ ?side1 ?side2 ?side3 ?side4 A5.out).mono ?_); (case side1 => repeat (first | exact (Kd.N_reads' HO210.out).2.2 | (with_reducible refine Kd.C_alloc ?_ _) | (with_reducible refine Kd.C_drewN ?_ _) | (with_reducible refine Kd.C_drew ?_))); (case side2 => exact (Kd.N_reads' HO210.out).2.1); (case side3 => repeat (first | exact (Kd.N_reads' HO244.out).2.2 | (with_reducible refine Kd.C_alloc ?_ _) | (with_reducible refine Kd.C_drewN ?_ _) | (with_reducible refine Kd.C_drew ?_))); (case side4 => exact (Kd.N_reads' HO244.out).2.1); rintro e w61 ⟨v247, rfl, ho0, hb⟩; refine ⟨_, rfl, ?_⟩; have n0_ := Aside0.mk (Kd.N_elder' (by (with_reducible repeat (first | apply Kd.N_alloc | apply Kd.N_drewN | apply Kd.N_drew)); exact HO201.out) (Kd.R_base ho0) hb); have n1_ := Aside0.mk (Kd.N_elder' (by (with_reducible repeat (first | apply Kd.N_alloc | apply Kd.N_drewN | apply Kd.N_drew)); exact HO210.out) (Kd.R_base ho0) hb); have n2_ := Aside0.mk (Kd.R_below (by (with_reducible repeat (first | apply Kd.R_alloc | apply Kd.R_drewN | apply Kd.R_drew)); exact HO214.out) hb); have n3_ := Aside0.mk (Kd.N_elder' (by (with_reducible repeat (first | apply Kd.N_alloc | apply Kd.N_drewN | apply Kd.N_drew)); exact HO223.out) (Kd.R_base ho0) hb); have n4_ := Aside0.mk (Kd.R_below (by (with_reducible repeat (first | apply Kd.R_alloc | apply Kd.R_drewN | apply Kd.R_drew)); exact HO227.out) hb); have n5_ := Aside0.mk (Kd.R_below (by (with_reducible repeat (first | apply Kd.R_alloc | apply Kd.R_drewN | apply Kd.R_drew)); exact HO232.out) hb); have n6_ := Aside0.mk (Kd.N_elder' (by (with_reducible repeat (first | apply Kd.N_alloc | apply Kd.N_drewN | apply Kd.N_drew)); exact HO244.out) (Kd.R_base ho0) hb); have n7_ := Aside0.mk (Kd.R_lower ho0 (below_size (by repeat (first | (with_reducible first | exact HB.out | apply below_alloc | apply pw_below_drewN | apply below_drew1) | exact HB.out)))); have n8_ := Aside0.mk (below_step (by repeat (first | (with_reducible first | exact HB.out | apply below_alloc | apply pw_below_drewN | apply below_drew1) | exact HB.out)) hb); clear HO201; clear HO210; clear HO214; clear HO223; clear HO227; clear HO232; clear HO244; clear HB; have HO201 := n0_; have HO210 := n1_; have HO214 := n2_; have HO223 := n3_; have HO227 := n4_; have HO232 := n5_; have HO244 := n6_; have HO248 := n7_; have HB := n8_; clear n0_ n1_ n2_ n3_ n4_ n5_ n6_ n7_ n8_; (try clear hb); (try clear hb2); (try clear hk); (try clear hi); (try clear ho0)) | ((with_reducible refine gate_dst (N := 64) rfl ?_); (try (refine gate_guard (by rfl) ?_; dsimp only)); refine Kd.R_lit (Kd.int .i64) _ 3 ?hg (N := 64) ?hd (xs := ([0, 10] : List Int)) (inner := [.int .i64 0, .int .i64 10]) (ok := fun _ => True) (okp := fun _ => True) ?hr ?hp (fun _ hk => hk) trivial (Below.refl _ _) (Nat.le_refl _) (by simp) ?_; (case hd => rfl); (case hg => rfl); (case hr => first | (go_simp; done) | (go_simp; rfl)); (case hp => exact (Reps.one (show Kd.M (Kd.int .i64) _ _ _ 0 [.int .i64 0] from rfl) (Reps.one (show Kd.M (Kd.int .i64) _ _ _ 10 [.int .i64 10] from rfl) (Reps.none _ _)))); intro v250 w62 ho63 hb hg_ hnew_; clear hg_ hnew_; (first | rw [← Ny249.out] at ho63 | (simp only [Int.reduceToNat] at ho63; rw [← Ny249.out] at ho63)); have n0_ := Aside0.mk (Kd.N_elder' (by (with_reducible repeat (first | apply Kd.N_alloc | apply Kd.N_drewN | apply Kd.N_drew)); exact HO201.out) (Kd.R_base ho63) hb); have n1_ := Aside0.mk (Kd.N_elder' (by (with_reducible repeat (first | apply Kd.N_alloc | apply Kd.N_drewN | apply Kd.N_drew)); exact HO210.out) (Kd.R_base ho63) hb); have n2_ := Aside0.mk (Kd.R_elder' (by (with_reducible repeat (first | apply Kd.R_alloc | apply Kd.R_drewN | apply Kd.R_drew)); exact HO214.out) (Kd.R_base ho63) hb); have n3_ := Aside0.mk (Kd.N_elder' (by (with_reducible repeat (first | apply Kd.N_alloc | apply Kd.N_drewN | apply Kd.N_drew)); exact HO223.out) (Kd.R_base ho63) hb); have n4_ := Aside0.mk (Kd.R_elder' (by (with_reducible repeat (first | apply Kd.R_alloc | apply Kd.R_drewN | apply Kd.R_drew)); exact HO227.out) (Kd.R_base ho63) hb); have n5_ := Aside0.mk (Kd.R_elder' (by (with_reducible repeat (first | apply Kd.R_alloc | apply Kd.R_drewN | apply Kd.R_drew)); exact HO232.out) (Kd.R_base ho63) hb); have n6_ := Aside0.mk (Kd.N_elder' (by (with_reducible repeat (first | apply Kd.N_alloc | apply Kd.N_drewN | apply Kd.N_drew)); exact HO244.out) (Kd.R_base ho63) hb); have n7_ := Aside0.mk (Kd.R_below (by (with_reducible repeat (first | apply Kd.R_alloc | apply Kd.R_drewN | apply Kd.R_drew)); exact HO248.out) hb); have n8_ := Aside0.mk (Kd.R_lower (Kd.R_new' (Kd.R_new' (Kd.R_new' ho63 (Kd.R_lt (by (with_reducible repeat (first | apply Kd.R_alloc | apply Kd.R_drewN | apply Kd.R_drew)); exact HO214.out))) (Kd.R_lt (by (with_reducible repeat (first | apply Kd.R_alloc | apply Kd.R_drewN | apply Kd.R_drew)); exact HO227.out))) (Kd.R_lt (by (with_reducible repeat (first | apply Kd.R_alloc | apply Kd.R_drewN | apply Kd.R_drew)); exact HO232.out))) (below_size (by repeat (first | (with_reducible first | exact HB.out | apply below_alloc | apply pw_below_drewN | apply below_drew1) | exact HB.out)))); have n9_ := Aside0.mk (below_step (by repeat (first | (with_reducible first | exact HB.out | apply below_alloc | apply pw_below_drewN | apply below_drew1) | exact HB.out)) hb); clear HO201; clear HO210; clear HO214; clear HO223; clear HO227; clear HO232; clear HO244; clear HO248; clear HB; have HO201 := n0_; have HO210 := n1_; have HO214 := n2_; have HO223 := n3_; have HO227 := n4_; have HO232 := n5_; have HO244 := n6_; have HO248 := n7_; have HO251 := n8_; have HB := n9_; clear n0_ n1_ n2_ n3_ n4_ n5_ n6_ n7_ n8_ n9_; clear hb ho63; obtain ⟨Ao64, co64, eo64⟩ := Kd.R_slice HO248.out; subst eo64; obtain ⟨Ao65, co65, eo65⟩ := Kd.R_slice HO251.out; subst eo65) | ((with_reducible refine gate_callee (f := 25) rfl ?_); refine goesL_ (some 65) rfl rfl Try.func25 (by kernel_rfl) rfl #[.int .i64 1, .slice Ao64 t245.length co64, .slice Ao65 y249.length co65] rfl (by (try simp only [List.map_toArray, List.map_cons, List.map_nil]); first | done | rfl | (simp only [List.length_drop, List.length_take]; rfl)) ?_; (with_reducible refine (pivot_Low.calls 1 _ _ t245 _ _ y249 t252 t253 _ ?side1 ?side2 ?side3 ?side4 A6.out).mono ?_); (case side1 => repeat (first | exact (Kd.R_reads' HO248.out).2.2 | (with_reducible refine Kd.C_alloc ?_ _) | (with_reducible refine Kd.C_drewN ?_ _) | (with_reducible refine Kd.C_drew ?_))); (case side2 => exact (Kd.R_reads' HO248.out).2.1); (case side3 => repeat (first | exact (Kd.R_reads' HO251.out).2.2 | (with_reducible refine Kd.C_alloc ?_ _) | (with_reducible refine Kd.C_drewN ?_ _) | (with_reducible refine Kd.C_drew ?_))); (case side4 => exact (Kd.R_reads' HO251.out).2.1); rintro e w66 ⟨rfl, hb⟩; refine ⟨_, rfl, ?_⟩; have n0_ := Aside0.mk (Kd.N_below (by (with_reducible repeat (first | apply Kd.N_alloc | apply Kd.N_drewN | apply Kd.N_drew)); exact HO201.out) hb); have n1_ := Aside0.mk (Kd.N_below (by (with_reducible repeat (first | apply Kd.N_alloc | apply Kd.N_drewN | apply Kd.N_drew)); exact HO210.out) hb); have n2_ := Aside0.mk (Kd.R_below (by (with_reducible repeat (first | apply Kd.R_alloc | apply Kd.R_drewN | apply Kd.R_drew)); exact HO214.out) hb); have n3_ := Aside0.mk (Kd.N_below (by (with_reducible repeat (first | apply Kd.N_alloc | apply Kd.N_drewN | apply Kd.N_drew)); exact HO223.out) hb); have n4_ := Aside0.mk (Kd.R_below (by (with_reducible repeat (first | apply Kd.R_alloc | apply Kd.R_drewN | apply Kd.R_drew)); exact HO227.out) hb); have n5_ := Aside0.mk (Kd.R_below (by (with_reducible repeat (first | apply Kd.R_alloc | apply Kd.R_drewN | apply Kd.R_drew)); exact HO232.out) hb); have n6_ := Aside0.mk (Kd.N_below (by (with_reducible repeat (first | apply Kd.N_alloc | apply Kd.N_drewN | apply Kd.N_drew)); exact HO244.out) hb); have n7_ := Aside0.mk (Kd.R_below (by (with_reducible repeat (first | apply Kd.R_alloc | apply Kd.R_drewN | apply Kd.R_drew)); exact HO248.out) hb); have n8_ := Aside0.mk (Kd.R_below (by (with_reducible repeat (first | apply Kd.R_alloc | apply Kd.R_drewN | apply Kd.R_drew)); exact HO251.out) hb); have n9_ := Aside0.mk (below_step (by repeat (first | (with_reducible first | exact HB.out | apply below_alloc | apply pw_below_drewN | apply below_drew1) | exact HB.out)) hb); clear HO201; clear HO210; clear HO214; clear HO223; clear HO227; clear HO232; clear HO244; clear HO248; clear HO251; clear HB; have HO201 := n0_; have HO210 := n1_; have HO214 := n2_; have HO223 := n3_; have HO227 := n4_; have HO232 := n5_; have HO244 := n6_; have HO248 := n7_; have HO251 := n8_; have HB := n9_; clear n0_ n1_ n2_ n3_ n4_ n5_ n6_ n7_ n8_ n9_; (try clear hb); (try clear hb2); (try clear hk); (try clear hi)) | ((with_reducible refine gate_dst (N := 70) rfl ?_); (try (refine gate_guard (by rfl) ?_; dsimp only)); refine Kd.R_lit (Kd.int .i64) _ 3 ?hg (N := 70) ?hd (xs := ([0, 10] : List Int)) (inner := [.int .i64 0, .int .i64 10]) (ok := fun _ => True) (okp := fun _ => True) ?hr ?hp (fun _ hk => hk) trivial (Below.refl _ _) (Nat.le_refl _) (by simp) ?_; (case hd => rfl); (case hg => rfl); (case hr => first | (go_simp; done) | (go_simp; rfl)); (case hp => exact (Reps.one (show Kd.M (Kd.int .i64) _ _ _ 0 [.int .i64 0] from rfl) (Reps.one (show Kd.M (Kd.int .i64) _ _ _ 10 [.int .i64 10] from rfl) (Reps.none _ _)))); intro v255 w67 ho68 hb hg_ hnew_; clear hg_ hnew_; (first | rw [← Ny254.out] at ho68 | (simp only [Int.reduceToNat] at ho68; rw [← Ny254.out] at ho68)); have n0_ := Aside0.mk (Kd.N_elder' (by (with_reducible repeat (first | apply Kd.N_alloc | apply Kd.N_drewN | apply Kd.N_drew)); exact HO201.out) (Kd.R_base ho68) hb); have n1_ := Aside0.mk (Kd.N_elder' (by (with_reducible repeat (first | apply Kd.N_alloc | apply Kd.N_drewN | apply Kd.N_drew)); exact HO210.out) (Kd.R_base ho68) hb); have n2_ := Aside0.mk (Kd.R_elder' (by (with_reducible repeat (first | apply Kd.R_alloc | apply Kd.R_drewN | apply Kd.R_drew)); exact HO214.out) (Kd.R_base ho68) hb); have n3_ := Aside0.mk (Kd.N_elder' (by (with_reducible repeat (first | apply Kd.N_alloc | apply Kd.N_drewN | apply Kd.N_drew)); exact HO223.out) (Kd.R_base ho68) hb); have n4_ := Aside0.mk (Kd.R_elder' (by (with_reducible repeat (first | apply Kd.R_alloc | apply Kd.R_drewN | apply Kd.R_drew)); exact HO227.out) (Kd.R_base ho68) hb); have n5_ := Aside0.mk (Kd.R_elder' (by (with_reducible repeat (first | apply Kd.R_alloc | apply Kd.R_drewN | apply Kd.R_drew)); exact HO232.out) (Kd.R_base ho68) hb); have n6_ := Aside0.mk (Kd.N_elder' (by (with_reducible repeat (first | apply Kd.N_alloc | apply Kd.N_drewN | apply Kd.N_drew)); exact HO244.out) (Kd.R_base ho68) hb); have n7_ := Aside0.mk (Kd.R_below (by (with_reducible repeat (first | apply Kd.R_alloc | apply Kd.R_drewN | apply Kd.R_drew)); exact HO248.out) hb); have n8_ := Aside0.mk (Kd.R_elder' (by (with_reducible repeat (first | apply Kd.R_alloc | apply Kd.R_drewN | apply Kd.R_drew)); exact HO251.out) (Kd.R_base ho68) hb); have n9_ := Aside0.mk (Kd.R_lower (Kd.R_new' (Kd.R_new' (Kd.R_new' (Kd.R_new' ho68 (Kd.R_lt (by (with_reducible repeat (first | apply Kd.R_alloc | apply Kd.R_drewN | apply Kd.R_drew)); exact HO214.out))) (Kd.R_lt (by (with_reducible repeat (first | apply Kd.R_alloc | apply Kd.R_drewN | apply Kd.R_drew)); exact HO227.out))) (Kd.R_lt (by (with_reducible repeat (first | apply Kd.R_alloc | apply Kd.R_drewN | apply Kd.R_drew)); exact HO232.out))) (Kd.R_lt (by (with_reducible repeat (first | apply Kd.R_alloc | apply Kd.R_drewN | apply Kd.R_drew)); exact HO251.out))) (below_size (by repeat (first | (with_reducible first | exact HB.out | apply below_alloc | apply pw_below_drewN | apply below_drew1) | exact HB.out)))); have n10_ := Aside0.mk (below_step (by repeat (first | (with_reducible first | exact HB.out | apply below_alloc | apply pw_below_drewN | apply below_drew1) | exact HB.out)) hb); clear HO201; clear HO210; clear HO214; clear HO223; clear HO227; clear HO232; clear HO244; clear HO248; clear HO251; clear HB; have HO201 := n0_; have HO210 := n1_; have HO214 := n2_; have HO223 := n3_; have HO227 := n4_; have HO232 := n5_; have HO244 := n6_; have HO248 := n7_; have HO251 := n8_; have HO256 := n9_; have HB := n10_; clear n0_ n1_ n2_ n3_ n4_ n5_ n6_ n7_ n8_ n9_ n10_; clear hb ho68; obtain ⟨Ao69, co69, eo69⟩ := Kd.R_slice HO256.out; subst eo69) | ((with_reducible refine gate_callee (f := 26) rfl ?_); refine goesL_ (some 71) rfl rfl Try.func26 (by kernel_rfl) rfl #[.int .i64 1, .slice Ao64 t245.length co64, .slice Ao69 y254.length co69] rfl (by (try simp only [List.map_toArray, List.map_cons, List.map_nil]); first | done | rfl | (simp only [List.length_drop, List.length_take]; rfl)) ?_; (with_reducible refine (pivot_High.calls 1 _ _ t245 _ _ y254 t257 t258 _ ?side1 ?side2 ?side3 ?side4 A7.out).mono ?_); (case side1 => repeat (first | exact (Kd.R_reads' HO248.out).2.2 | (with_reducible refine Kd.C_alloc ?_ _) | (with_reducible refine Kd.C_drewN ?_ _) | (with_reducible refine Kd.C_drew ?_))); (case side2 => exact (Kd.R_reads' HO248.out).2.1); (case side3 => repeat (first | exact (Kd.R_reads' HO256.out).2.2 | (with_reducible refine Kd.C_alloc ?_ _) | (with_reducible refine Kd.C_drewN ?_ _) | (with_reducible refine Kd.C_drew ?_))); (case side4 => exact (Kd.R_reads' HO256.out).2.1); rintro e w70 ⟨rfl, hb⟩; refine ⟨_, rfl, ?_⟩; have n0_ := Aside0.mk (Kd.N_below (by (with_reducible repeat (first | apply Kd.N_alloc | apply Kd.N_drewN | apply Kd.N_drew)); exact HO201.out) hb); have n1_ := Aside0.mk (Kd.N_below (by (with_reducible repeat (first | apply Kd.N_alloc | apply Kd.N_drewN | apply Kd.N_drew)); exact HO210.out) hb); have n2_ := Aside0.mk (Kd.R_below (by (with_reducible repeat (first | apply Kd.R_alloc | apply Kd.R_drewN | apply Kd.R_drew)); exact HO214.out) hb); have n3_ := Aside0.mk (Kd.N_below (by (with_reducible repeat (first | apply Kd.N_alloc | apply Kd.N_drewN | apply Kd.N_drew)); exact HO223.out) hb); have n4_ := Aside0.mk (Kd.R_below (by (with_reducible repeat (first | apply Kd.R_alloc | apply Kd.R_drewN | apply Kd.R_drew)); exact HO227.out) hb); have n5_ := Aside0.mk (Kd.R_below (by (with_reducible repeat (first | apply Kd.R_alloc | apply Kd.R_drewN | apply Kd.R_drew)); exact HO232.out) hb); have n6_ := Aside0.mk (Kd.N_below (by (with_reducible repeat (first | apply Kd.N_alloc | apply Kd.N_drewN | apply Kd.N_drew)); exact HO244.out) hb); have n7_ := Aside0.mk (Kd.R_below (by (with_reducible repeat (first | apply Kd.R_alloc | apply Kd.R_drewN | apply Kd.R_drew)); exact HO248.out) hb); have n8_ := Aside0.mk (Kd.R_below (by (with_reducible repeat (first | apply Kd.R_alloc | apply Kd.R_drewN | apply Kd.R_drew)); exact HO251.out) hb); have n9_ := Aside0.mk (Kd.R_below (by (with_reducible repeat (first | apply Kd.R_alloc | apply Kd.R_drewN | apply Kd.R_drew)); exact HO256.out) hb); have n10_ := Aside0.mk (below_step (by repeat (first | (with_reducible first | exact HB.out | apply below_alloc | apply pw_below_drewN | apply below_drew1) | exact HB.out)) hb); clear HO201; clear HO210; clear HO214; clear HO223; clear HO227; clear HO232; clear HO244; clear HO248; clear HO251; clear HO256; clear HB; have HO201 := n0_; have HO210 := n1_; have HO214 := n2_; have HO223 := n3_; have HO227 := n4_; have HO232 := n5_; have HO244 := n6_; have HO248 := n7_; have HO251 := n8_; have HO256 := n9_; have HB := n10_; clear n0_ n1_ n2_ n3_ n4_ n5_ n6_ n7_ n8_ n9_ n10_; (try clear hb); (try clear hb2); (try clear hk); (try clear hi)))
 (try simp only [Act.put, List.setIfInBounds_toArray, List.set_cons_zero, List.set_cons_succ])
 go_cut [18] (fun v18 wc => ∃ (kq : Nat) (x18_7 : Bool), v18 = .bool x18_7 ∧ Aside0 (l9_sanity.j0 kq t211 t224 t228 t233 t234 t245 t252 t257 x18_7 = some r) ∧ Aside0 (kq ≤ k) ∧ Aside0 (Kd.R (Kd.int .i64) 3 wc w.heap.size (fun k_ => some k_ ≠ (v226 : Value).ownBlock) v213 t211) ∧ Aside0 (Kd.R (Kd.int .i64) 3 wc w.heap.size (fun k_ => some k_ ≠ (v213 : Value).ownBlock) v226 t224) ∧ Aside0 (Kd.R k57 57 wc w.heap.size (fun _ => True) (.slice Ao64 t245.length co64) t245) ∧ Aside0 (Below w.heap.size w wc))
 case first =>
  have H := HC8.out
  clear HC8
  by_cases c71 : t212 = 0
  ·rw [if_pos c71] at H
   have c71b0 : (t212 == 0) = true := beq_iff_eq.mpr c71
   have c71b1 : (t212 != 0) = false := bne_eq_false_iff_eq.mpr c71
   clear c71
   (first | rw [c71b0] | (simp only [i64_w, i32_w]; rw [c71b0]) | skip)
   by_cases c72 : t225 = 0
   ·rw [if_pos c72] at H
    have c72b0 : (t225 == 0) = true := beq_iff_eq.mpr c72
    have c72b1 : (t225 != 0) = false := bne_eq_false_iff_eq.mpr c72
    clear c72
    by_cases c73 : t229 = 0
    ·rw [if_pos c73] at H
     have c73b0 : (t229 == 0) = true := beq_iff_eq.mpr c73
     have c73b1 : (t229 != 0) = false := bne_eq_false_iff_eq.mpr c73
     clear c73
     by_cases c74 : t235 = 0
     ·rw [if_pos c74] at H
      have c74b0 : (t235 == 0) = true := beq_iff_eq.mpr c74
      have c74b1 : (t235 != 0) = false := bne_eq_false_iff_eq.mpr c74
      clear c74
      by_cases c75 : t246 = 0
      ·rw [if_pos c75] at H
       have c75b0 : (t246 == 0) = true := beq_iff_eq.mpr c75
       have c75b1 : (t246 != 0) = false := bne_eq_false_iff_eq.mpr c75
       clear c75
       by_cases c76 : t253 = 0
       ·rw [if_pos c76] at H
        have c76b0 : (t253 == 0) = true := beq_iff_eq.mpr c76
        have c76b1 : (t253 != 0) = false := bne_eq_false_iff_eq.mpr c76
        clear c76
        have H' := Aside0.mk H
        clear H
        go_wp2
        go_meet
        case rel => exact ⟨_, ((t258 == 0)), (by first | rfl | (simp; done) | (simp [*]; done)), H', ⟨by first | omega | exact Nat.le_refl _⟩, ⟨by (with_reducible repeat (first | apply Kd.R_alloc | apply Kd.R_drewN | apply Kd.R_drew)); exact Kd.R_mono HO214.out (fun _ hk => hk.1.1.1.1.1.2)⟩, ⟨by (with_reducible repeat (first | apply Kd.R_alloc | apply Kd.R_drewN | apply Kd.R_drew)); exact Kd.R_mono HO227.out (fun _ hk => hk.1.1.1.1.1.2)⟩, ⟨by (with_reducible repeat (first | apply Kd.R_alloc | apply Kd.R_drewN | apply Kd.R_drew)); exact HO248.out⟩, ⟨by repeat (first | (with_reducible first | exact HB.out | apply below_alloc | apply pw_below_drewN | apply below_drew1) | exact HB.out)⟩⟩
       ·rw [if_neg c76] at H
        have c76b0 : (t253 == 0) = false := beq_eq_false_iff_ne.mpr c76
        have c76b1 : (t253 != 0) = true := bne_iff_ne.mpr c76
        have H' := Aside0.mk H
        clear H
        go_wp2
        go_meet
        case rel => exact ⟨_, (false), (by first | rfl | (simp; done) | (simp [*]; done)), H', ⟨by first | omega | exact Nat.le_refl _⟩, ⟨by (with_reducible repeat (first | apply Kd.R_alloc | apply Kd.R_drewN | apply Kd.R_drew)); exact Kd.R_mono HO214.out (fun _ hk => hk.1.1.1.1.1.2)⟩, ⟨by (with_reducible repeat (first | apply Kd.R_alloc | apply Kd.R_drewN | apply Kd.R_drew)); exact Kd.R_mono HO227.out (fun _ hk => hk.1.1.1.1.1.2)⟩, ⟨by (with_reducible repeat (first | apply Kd.R_alloc | apply Kd.R_drewN | apply Kd.R_drew)); exact HO248.out⟩, ⟨by repeat (first | (with_reducible first | exact HB.out | apply below_alloc | apply pw_below_drewN | apply below_drew1) | exact HB.out)⟩⟩
      ·rw [if_neg c75] at H
       have c75b0 : (t246 == 0) = false := beq_eq_false_iff_ne.mpr c75
       have c75b1 : (t246 != 0) = true := bne_iff_ne.mpr c75
       have H' := Aside0.mk H
       clear H
       go_wp2
       go_meet
       case rel => exact ⟨_, (false), (by first | rfl | (simp; done) | (simp [*]; done)), H', ⟨by first | omega | exact Nat.le_refl _⟩, ⟨by (with_reducible repeat (first | apply Kd.R_alloc | apply Kd.R_drewN | apply Kd.R_drew)); exact Kd.R_mono HO214.out (fun _ hk => hk.1.1.1.1.1.2)⟩, ⟨by (with_reducible repeat (first | apply Kd.R_alloc | apply Kd.R_drewN | apply Kd.R_drew)); exact Kd.R_mono HO227.out (fun _ hk => hk.1.1.1.1.1.2)⟩, ⟨by (with_reducible repeat (first | apply Kd.R_alloc | apply Kd.R_drewN | apply Kd.R_drew)); exact HO248.out⟩, ⟨by repeat (first | (with_reducible first | exact HB.out | apply below_alloc | apply pw_below_drewN | apply below_drew1) | exact HB.out)⟩⟩
     ·rw [if_neg c74] at H
      have c74b0 : (t235 == 0) = false := beq_eq_false_iff_ne.mpr c74
      have c74b1 : (t235 != 0) = true := bne_iff_ne.mpr c74
      have H' := Aside0.mk H
      clear H
      go_wp2
      go_meet
      case rel => exact ⟨_, (false), (by first | rfl | (simp; done) | (simp [*]; done)), H', ⟨by first | omega | exact Nat.le_refl _⟩, ⟨by (with_reducible repeat (first | apply Kd.R_alloc | apply Kd.R_drewN | apply Kd.R_drew)); exact Kd.R_mono HO214.out (fun _ hk => hk.1.1.1.1.1.2)⟩, ⟨by (with_reducible repeat (first | apply Kd.R_alloc | apply Kd.R_drewN | apply Kd.R_drew)); exact Kd.R_mono HO227.out (fun _ hk => hk.1.1.1.1.1.2)⟩, ⟨by (with_reducible repeat (first | apply Kd.R_alloc | apply Kd.R_drewN | apply Kd.R_drew)); exact HO248.out⟩, ⟨by repeat (first | (with_reducible first | exact HB.out | apply below_alloc | apply pw_below_drewN | apply below_drew1) | exact HB.out)⟩⟩
    ·rw [if_neg c73] at H
     have c73b0 : (t229 == 0) = false := beq_eq_false_iff_ne.mpr c73
     have c73b1 : (t229 != 0) = true := bne_iff_ne.mpr c73
     have H' := Aside0.mk H
     clear H
     go_wp2
     go_meet
     case rel => exact ⟨_, (false), (by first | rfl | (simp; done) | (simp [*]; done)), H', ⟨by first | omega | exact Nat.le_refl _⟩, ⟨by (with_reducible repeat (first | apply Kd.R_alloc | apply Kd.R_drewN | apply Kd.R_drew)); exact Kd.R_mono HO214.out (fun _ hk => hk.1.1.1.1.1.2)⟩, ⟨by (with_reducible repeat (first | apply Kd.R_alloc | apply Kd.R_drewN | apply Kd.R_drew)); exact Kd.R_mono HO227.out (fun _ hk => hk.1.1.1.1.1.2)⟩, ⟨by (with_reducible repeat (first | apply Kd.R_alloc | apply Kd.R_drewN | apply Kd.R_drew)); exact HO248.out⟩, ⟨by repeat (first | (with_reducible first | exact HB.out | apply below_alloc | apply pw_below_drewN | apply below_drew1) | exact HB.out)⟩⟩
   ·rw [if_neg c72] at H
    have c72b0 : (t225 == 0) = false := beq_eq_false_iff_ne.mpr c72
    have c72b1 : (t225 != 0) = true := bne_iff_ne.mpr c72
    have H' := Aside0.mk H
    clear H
    go_wp2
    go_meet
    case rel => exact ⟨_, (false), (by first | rfl | (simp; done) | (simp [*]; done)), H', ⟨by first | omega | exact Nat.le_refl _⟩, ⟨by (with_reducible repeat (first | apply Kd.R_alloc | apply Kd.R_drewN | apply Kd.R_drew)); exact Kd.R_mono HO214.out (fun _ hk => hk.1.1.1.1.1.2)⟩, ⟨by (with_reducible repeat (first | apply Kd.R_alloc | apply Kd.R_drewN | apply Kd.R_drew)); exact Kd.R_mono HO227.out (fun _ hk => hk.1.1.1.1.1.2)⟩, ⟨by (with_reducible repeat (first | apply Kd.R_alloc | apply Kd.R_drewN | apply Kd.R_drew)); exact HO248.out⟩, ⟨by repeat (first | (with_reducible first | exact HB.out | apply below_alloc | apply pw_below_drewN | apply below_drew1) | exact HB.out)⟩⟩
  ·rw [if_neg c71] at H
   have c71b0 : (t212 == 0) = false := beq_eq_false_iff_ne.mpr c71
   have c71b1 : (t212 != 0) = true := bne_iff_ne.mpr c71
   (first | rw [c71b0] | (simp only [i64_w, i32_w]; rw [c71b0]) | skip)
   have H' := Aside0.mk H
   clear H
   go_wp2
   go_meet
   case rel => exact ⟨_, (false), (by first | rfl | (simp; done) | (simp [*]; done)), H', ⟨by first | omega | exact Nat.le_refl _⟩, ⟨by (with_reducible repeat (first | apply Kd.R_alloc | apply Kd.R_drewN | apply Kd.R_drew)); exact Kd.R_mono HO214.out (fun _ hk => hk.1.1.1.1.1.2)⟩, ⟨by (with_reducible repeat (first | apply Kd.R_alloc | apply Kd.R_drewN | apply Kd.R_drew)); exact Kd.R_mono HO227.out (fun _ hk => hk.1.1.1.1.1.2)⟩, ⟨by (with_reducible repeat (first | apply Kd.R_alloc | apply Kd.R_drewN | apply Kd.R_drew)); exact HO248.out⟩, ⟨by repeat (first | (with_reducible first | exact HB.out | apply below_alloc | apply pw_below_drewN | apply below_drew1) | exact HB.out)⟩⟩
 case rest =>
  clear HC8
  try clear c1
  try clear c2
  try clear p2
  try clear c7
  try clear c10
  try clear c11
  try clear c12
  try clear c13
  try clear c23
  try clear c25
  try clear c26
  try clear c71
  try clear c71b0
  try clear c71b1
  try clear c72
  try clear c72b0
  try clear c72b1
  try clear c73
  try clear c73b0
  try clear c73b1
  try clear c74
  try clear c74b0
  try clear c74b1
  try clear c75
  try clear c75b0
  try clear c75b1
  try clear c76
  try clear c76b0
  try clear c76b1
  obtain ⟨kq, x18_7, rfl, HA, HJ7, HO_3, HO_5, HO_12, HB⟩ := hcut
  cases kq with
  | zero => exact absurd HA.out (by simp [l9_sanity.j0])
  | succ kj7 =>
   have H := HA.out
   clear HA
   simp only [l9_sanity.j0] at H
   obtain ⟨y259, hy259⟩ : ∃ y_ : List Int, y_ = (([0, 1, 2] : List Int)) := ⟨_, rfl⟩
   replace H : ((r9_Same.f kj7 t211 y259).bind fun t262 => (if t262 = true then ((r9_Same.f kj7 t224 (([0] : List Int))).bind fun t266 => (if t266 = true then (if t228 = 4 then (if t233 = 1 then (if x18_7 = true then (if t234 = 4 then ((r9_SameShells.f kj7 t245 (([(⟨4, 6⟩ : S57), (⟨4, 6⟩ : S57)] : List (S57)))).bind fun t270 => (if t270 = true then (if t252 = 4 then (if t257 = 6 then ((pivot_In.f kj7 t245 (([5, 5] : List Int))).bind fun t274 => (some t274)) else (some false)) else (some false)) else (some false))) else (some false)) else (some false)) else (if x18_7 = true then (some false) else (some false))) else (if x18_7 = true then (some false) else (some false))) else (if x18_7 = true then (some false) else (some false)))) else (if x18_7 = true then (some false) else (some false)))) = some r := by first | (rw [hy259]; with_reducible exact H) | (have H2_ := (Option.bind_some _ _).symm.trans H; rw [hy259]; with_reducible exact H2_) | (have H2_ := (Option.bind_some _ _).symm.trans H; with_reducible exact H2_) | with_reducible exact H | (rw [hy259]; exact H) | exact H
   have Ny259 := Aside0.mk hy259
   clear hy259
   replace H := Option.bind_eq_some_iff.mp H
   obtain ⟨t262, A770, H⟩ := H
   replace H : (if t262 = true then ((r9_Same.f kj7 t224 (([0] : List Int))).bind fun t266 => (if t266 = true then (if t228 = 4 then (if t233 = 1 then (if x18_7 = true then (if t234 = 4 then ((r9_SameShells.f kj7 t245 (([(⟨4, 6⟩ : S57), (⟨4, 6⟩ : S57)] : List (S57)))).bind fun t270 => (if t270 = true then (if t252 = 4 then (if t257 = 6 then ((pivot_In.f kj7 t245 (([5, 5] : List Int))).bind fun t274 => (some t274)) else (some false)) else (some false)) else (some false))) else (some false)) else (some false)) else (if x18_7 = true then (some false) else (some false))) else (if x18_7 = true then (some false) else (some false))) else (if x18_7 = true then (some false) else (some false)))) else (if x18_7 = true then (some false) else (some false))) = some r := H
   have A77 := Aside0.mk A770
   clear A770
   by_cases c78 : t262 = true
   ·subst c78
    have H1 : ((r9_Same.f kj7 t224 (([0] : List Int))).bind fun t266 => (if t266 = true then (if t228 = 4 then (if t233 = 1 then (if x18_7 = true then (if t234 = 4 then ((r9_SameShells.f kj7 t245 (([(⟨4, 6⟩ : S57), (⟨4, 6⟩ : S57)] : List (S57)))).bind fun t270 => (if t270 = true then (if t252 = 4 then (if t257 = 6 then ((pivot_In.f kj7 t245 (([5, 5] : List Int))).bind fun t274 => (some t274)) else (some false)) else (some false)) else (some false))) else (some false)) else (some false)) else (if x18_7 = true then (some false) else (some false))) else (if x18_7 = true then (some false) else (some false))) else (if x18_7 = true then (some false) else (some false)))) = some r := by rw [if_pos rfl] at H; exact H
    clear H
    have H := H1
    clear H1
    obtain ⟨y263, hy263⟩ : ∃ y_ : List Int, y_ = (([0] : List Int)) := ⟨_, rfl⟩
    replace H : ((r9_Same.f kj7 t224 y263).bind fun t266 => (if t266 = true then (if t228 = 4 then (if t233 = 1 then (if x18_7 = true then (if t234 = 4 then ((r9_SameShells.f kj7 t245 (([(⟨4, 6⟩ : S57), (⟨4, 6⟩ : S57)] : List (S57)))).bind fun t270 => (if t270 = true then (if t252 = 4 then (if t257 = 6 then ((pivot_In.f kj7 t245 (([5, 5] : List Int))).bind fun t274 => (some t274)) else (some false)) else (some false)) else (some false))) else (some false)) else (some false)) else (if x18_7 = true then (some false) else (some false))) else (if x18_7 = true then (some false) else (some false))) else (if x18_7 = true then (some false) else (some false)))) = some r := by first | (rw [hy263]; with_reducible exact H) | (have H2_ := (Option.bind_some _ _).symm.trans H; rw [hy263]; with_reducible exact H2_) | (have H2_ := (Option.bind_some _ _).symm.trans H; with_reducible exact H2_) | with_reducible exact H | (rw [hy263]; exact H) | exact H
    have Ny263 := Aside0.mk hy263
    clear hy263
    replace H := Option.bind_eq_some_iff.mp H
    obtain ⟨t266, A790, H⟩ := H
    replace H : (if t266 = true then (if t228 = 4 then (if t233 = 1 then (if x18_7 = true then (if t234 = 4 then ((r9_SameShells.f kj7 t245 (([(⟨4, 6⟩ : S57), (⟨4, 6⟩ : S57)] : List (S57)))).bind fun t270 => (if t270 = true then (if t252 = 4 then (if t257 = 6 then ((pivot_In.f kj7 t245 (([5, 5] : List Int))).bind fun t274 => (some t274)) else (some false)) else (some false)) else (some false))) else (some false)) else (some false)) else (if x18_7 = true then (some false) else (some false))) else (if x18_7 = true then (some false) else (some false))) else (if x18_7 = true then (some false) else (some false))) = some r := H
    have A79 := Aside0.mk A790
    clear A790
    by_cases c80 : t266 = true
    ·subst c80
     have H1 : (if t228 = 4 then (if t233 = 1 then (if x18_7 = true then (if t234 = 4 then ((r9_SameShells.f kj7 t245 (([(⟨4, 6⟩ : S57), (⟨4, 6⟩ : S57)] : List (S57)))).bind fun t270 => (if t270 = true then (if t252 = 4 then (if t257 = 6 then ((pivot_In.f kj7 t245 (([5, 5] : List Int))).bind fun t274 => (some t274)) else (some false)) else (some false)) else (some false))) else (some false)) else (some false)) else (if x18_7 = true then (some false) else (some false))) else (if x18_7 = true then (some false) else (some false))) = some r := by rw [if_pos rfl] at H; exact H
     clear H
     have H := H1
     clear H1
     by_cases c81 : t228 = 4
     ·rw [if_pos c81] at H
      have c81b0 : (t228 == 4) = true := beq_iff_eq.mpr c81
      have c81b1 : (t228 != 4) = false := bne_eq_false_iff_eq.mpr c81
      clear c81
      by_cases c82 : t233 = 1
      ·rw [if_pos c82] at H
       have c82b0 : (t233 == 1) = true := beq_iff_eq.mpr c82
       have c82b1 : (t233 != 1) = false := bne_eq_false_iff_eq.mpr c82
       clear c82
       by_cases c83 : x18_7 = true
       ·subst c83
        have H1 : (if t234 = 4 then ((r9_SameShells.f kj7 t245 (([(⟨4, 6⟩ : S57), (⟨4, 6⟩ : S57)] : List (S57)))).bind fun t270 => (if t270 = true then (if t252 = 4 then (if t257 = 6 then ((pivot_In.f kj7 t245 (([5, 5] : List Int))).bind fun t274 => (some t274)) else (some false)) else (some false)) else (some false))) else (some false)) = some r := by rw [if_pos rfl] at H; exact H
        clear H
        have H := H1
        clear H1
        by_cases c84 : t234 = 4
        ·rw [if_pos c84] at H
         have c84b0 : (t234 == 4) = true := beq_iff_eq.mpr c84
         have c84b1 : (t234 != 4) = false := bne_eq_false_iff_eq.mpr c84
         clear c84
         obtain ⟨y267, hy267⟩ : ∃ y_ : List (S57), y_ = (([(⟨4, 6⟩ : S57), (⟨4, 6⟩ : S57)] : List (S57))) := ⟨_, rfl⟩
         replace H : ((r9_SameShells.f kj7 t245 y267).bind fun t270 => (if t270 = true then (if t252 = 4 then (if t257 = 6 then ((pivot_In.f kj7 t245 (([5, 5] : List Int))).bind fun t274 => (some t274)) else (some false)) else (some false)) else (some false))) = some r := by first | (rw [hy267]; with_reducible exact H) | (have H2_ := (Option.bind_some _ _).symm.trans H; rw [hy267]; with_reducible exact H2_) | (have H2_ := (Option.bind_some _ _).symm.trans H; with_reducible exact H2_) | with_reducible exact H | (rw [hy267]; exact H) | exact H
         have Ny267 := Aside0.mk hy267
         clear hy267
         replace H := Option.bind_eq_some_iff.mp H
         obtain ⟨t270, A850, H⟩ := H
         replace H : (if t270 = true then (if t252 = 4 then (if t257 = 6 then ((pivot_In.f kj7 t245 (([5, 5] : List Int))).bind fun t274 => (some t274)) else (some false)) else (some false)) else (some false)) = some r := H
         have A85 := Aside0.mk A850
         clear A850
         by_cases c86 : t270 = true
         ·subst c86
          have H1 : (if t252 = 4 then (if t257 = 6 then ((pivot_In.f kj7 t245 (([5, 5] : List Int))).bind fun t274 => (some t274)) else (some false)) else (some false)) = some r := by rw [if_pos rfl] at H; exact H
          clear H
          have H := H1
          clear H1
          by_cases c87 : t252 = 4
          ·rw [if_pos c87] at H
           have c87b0 : (t252 == 4) = true := beq_iff_eq.mpr c87
           have c87b1 : (t252 != 4) = false := bne_eq_false_iff_eq.mpr c87
           clear c87
           by_cases c88 : t257 = 6
           ·rw [if_pos c88] at H
            have c88b0 : (t257 == 6) = true := beq_iff_eq.mpr c88
            have c88b1 : (t257 != 6) = false := bne_eq_false_iff_eq.mpr c88
            clear c88
            obtain ⟨y271, hy271⟩ : ∃ y_ : List Int, y_ = (([5, 5] : List Int)) := ⟨_, rfl⟩
            replace H : ((pivot_In.f kj7 t245 y271).bind fun t274 => (some t274)) = some r := by first | (rw [hy271]; with_reducible exact H) | (have H2_ := (Option.bind_some _ _).symm.trans H; rw [hy271]; with_reducible exact H2_) | (have H2_ := (Option.bind_some _ _).symm.trans H; with_reducible exact H2_) | with_reducible exact H | (rw [hy271]; exact H) | exact H
            have Ny271 := Aside0.mk hy271
            clear hy271
            replace H := Option.bind_eq_some_iff.mp H
            obtain ⟨t274, A890, H⟩ := H
            replace H : (some t274) = some r := H
            have A89 := Aside0.mk A890
            clear A890
            obtain rfl := Option.some.inj H
            go_wp2_with (first | ((with_reducible refine gate_dst (N := 101) rfl ?_); (try (refine gate_guard (by rfl) ?_; dsimp only)); refine Kd.R_lit (Kd.int .i64) _ 3 ?hg (N := 101) ?hd (xs := ([0, 1, 2] : List Int)) (inner := [.int .i64 0, .int .i64 1, .int .i64 2]) (ok := fun _ => True) (okp := fun _ => True) ?hr ?hp (fun _ hk => hk) trivial (Below.refl _ _) (Nat.le_refl _) (by simp) ?_; (case hd => rfl); (case hg => rfl); (case hr => first | (go_simp; done) | (go_simp; rfl)); (case hp => exact (Reps.one (show Kd.M (Kd.int .i64) _ _ _ 0 [.int .i64 0] from rfl) (Reps.one (show Kd.M (Kd.int .i64) _ _ _ 1 [.int .i64 1] from rfl) (Reps.one (show Kd.M (Kd.int .i64) _ _ _ 2 [.int .i64 2] from rfl) (Reps.none _ _))))); intro v260 w90 ho91 hb hg_ hnew_; clear hg_ hnew_; (first | rw [← Ny259.out] at ho91 | (simp only [Int.reduceToNat] at ho91; rw [← Ny259.out] at ho91)); have n0_ := Aside0.mk (Kd.R_elder' (by (with_reducible repeat (first | apply Kd.R_alloc | apply Kd.R_drewN | apply Kd.R_drew)); exact HO_3.out) (Kd.R_base ho91) hb); have n1_ := Aside0.mk (Kd.R_elder' (by (with_reducible repeat (first | apply Kd.R_alloc | apply Kd.R_drewN | apply Kd.R_drew)); exact HO_5.out) (Kd.R_base ho91) hb); have n2_ := Aside0.mk (Kd.R_below (by (with_reducible repeat (first | apply Kd.R_alloc | apply Kd.R_drewN | apply Kd.R_drew)); exact HO_12.out) hb); have n3_ := Aside0.mk (Kd.R_lower (Kd.R_new' (Kd.R_new' ho91 (Kd.R_lt (by (with_reducible repeat (first | apply Kd.R_alloc | apply Kd.R_drewN | apply Kd.R_drew)); exact HO_3.out))) (Kd.R_lt (by (with_reducible repeat (first | apply Kd.R_alloc | apply Kd.R_drewN | apply Kd.R_drew)); exact HO_5.out))) (below_size (by repeat (first | (with_reducible first | exact HB.out | apply below_alloc | apply pw_below_drewN | apply below_drew1) | exact HB.out)))); have n4_ := Aside0.mk (below_step (by repeat (first | (with_reducible first | exact HB.out | apply below_alloc | apply pw_below_drewN | apply below_drew1) | exact HB.out)) hb); clear HO_3; clear HO_5; clear HO_12; clear HB; have HO_3 := n0_; have HO_5 := n1_; have HO_12 := n2_; have HO261 := n3_; have HB := n4_; clear n0_ n1_ n2_ n3_ n4_; clear hb ho91; obtain ⟨Ao92, co92, eo92⟩ := Kd.R_slice HO_3.out; subst eo92; obtain ⟨Ao93, co93, eo93⟩ := Kd.R_slice HO261.out; subst eo93) | ((with_reducible refine gate_callee (f := 19) rfl ?_); refine goesL_ (some 102) rfl rfl Try.func19 (by kernel_rfl) rfl #[.slice Ao92 t211.length co92, .slice Ao93 y259.length co93] rfl (by (try simp only [List.map_toArray, List.map_cons, List.map_nil]); first | done | rfl | (simp only [List.length_drop, List.length_take]; rfl)) ?_; (with_reducible refine (r9_Same.calls kj7 _ _ t211 _ _ y259 true _ ?side1 ?side2 ?side3 ?side4 A77.out).mono ?_); (case side1 => repeat (first | exact (Kd.R_reads' HO_3.out).2.2 | (with_reducible refine Kd.C_alloc ?_ _) | (with_reducible refine Kd.C_drewN ?_ _) | (with_reducible refine Kd.C_drew ?_))); (case side2 => exact (Kd.R_reads' HO_3.out).2.1); (case side3 => repeat (first | exact (Kd.R_reads' HO261.out).2.2 | (with_reducible refine Kd.C_alloc ?_ _) | (with_reducible refine Kd.C_drewN ?_ _) | (with_reducible refine Kd.C_drew ?_))); (case side4 => exact (Kd.R_reads' HO261.out).2.1); rintro e w' ⟨rfl, ⟨nd, rfl⟩⟩; refine ⟨_, rfl, ?_⟩) | ((with_reducible refine gate_dst (N := 105) rfl ?_); (try (refine gate_guard (by rfl) ?_; dsimp only)); refine Kd.R_lit (Kd.int .i64) _ 3 ?hg (N := 105) ?hd (xs := ([0] : List Int)) (inner := [.int .i64 0]) (ok := fun _ => True) (okp := fun _ => True) ?hr ?hp (fun _ hk => hk) trivial (Below.refl _ _) (Nat.le_refl _) (by simp) ?_; (case hd => rfl); (case hg => rfl); (case hr => first | (go_simp; done) | (go_simp; rfl)); (case hp => exact (Reps.one (show Kd.M (Kd.int .i64) _ _ _ 0 [.int .i64 0] from rfl) (Reps.none _ _))); intro v264 w94 ho95 hb hg_ hnew_; clear hg_ hnew_; (first | rw [← Ny263.out] at ho95 | (simp only [Int.reduceToNat] at ho95; rw [← Ny263.out] at ho95)); have n0_ := Aside0.mk (Kd.R_elder' (by (with_reducible repeat (first | apply Kd.R_alloc | apply Kd.R_drewN | apply Kd.R_drew)); exact HO_3.out) (Kd.R_base ho95) hb); have n1_ := Aside0.mk (Kd.R_elder' (by (with_reducible repeat (first | apply Kd.R_alloc | apply Kd.R_drewN | apply Kd.R_drew)); exact HO_5.out) (Kd.R_base ho95) hb); have n2_ := Aside0.mk (Kd.R_below (by (with_reducible repeat (first | apply Kd.R_alloc | apply Kd.R_drewN | apply Kd.R_drew)); exact HO_12.out) hb); have n3_ := Aside0.mk (Kd.R_elder' (by (with_reducible repeat (first | apply Kd.R_alloc | apply Kd.R_drewN | apply Kd.R_drew)); exact HO261.out) (Kd.R_base ho95) hb); have n4_ := Aside0.mk (Kd.R_lower (Kd.R_new' (Kd.R_new' (Kd.R_new' ho95 (Kd.R_lt (by (with_reducible repeat (first | apply Kd.R_alloc | apply Kd.R_drewN | apply Kd.R_drew)); exact HO_3.out))) (Kd.R_lt (by (with_reducible repeat (first | apply Kd.R_alloc | apply Kd.R_drewN | apply Kd.R_drew)); exact HO_5.out))) (Kd.R_lt (by (with_reducible repeat (first | apply Kd.R_alloc | apply Kd.R_drewN | apply Kd.R_drew)); exact HO261.out))) (below_size (by repeat (first | (with_reducible first | exact HB.out | apply below_alloc | apply pw_below_drewN | apply below_drew1) | exact HB.out)))); have n5_ := Aside0.mk (below_step (by repeat (first | (with_reducible first | exact HB.out | apply below_alloc | apply pw_below_drewN | apply below_drew1) | exact HB.out)) hb); clear HO_3; clear HO_5; clear HO_12; clear HO261; clear HB; have HO_3 := n0_; have HO_5 := n1_; have HO_12 := n2_; have HO261 := n3_; have HO265 := n4_; have HB := n5_; clear n0_ n1_ n2_ n3_ n4_ n5_; clear hb ho95; obtain ⟨Ao96, co96, eo96⟩ := Kd.R_slice HO_5.out; subst eo96; obtain ⟨Ao97, co97, eo97⟩ := Kd.R_slice HO265.out; subst eo97) | (go_at_call 19; (with_reducible refine (r9_Same.calls kj7 _ _ t224 _ _ y263 true _ ?side1 ?side2 ?side3 ?side4 A79.out).mono ?_); (case side1 => repeat (first | exact (Kd.R_reads' HO_5.out).2.2 | (with_reducible refine Kd.C_alloc ?_ _) | (with_reducible refine Kd.C_drewN ?_ _) | (with_reducible refine Kd.C_drew ?_))); (case side2 => exact (Kd.R_reads' HO_5.out).2.1); (case side3 => repeat (first | exact (Kd.R_reads' HO265.out).2.2 | (with_reducible refine Kd.C_alloc ?_ _) | (with_reducible refine Kd.C_drewN ?_ _) | (with_reducible refine Kd.C_drew ?_))); (case side4 => exact (Kd.R_reads' HO265.out).2.1); rintro e w' ⟨rfl, ⟨nd, rfl⟩⟩) | ((with_reducible refine gate_dst (N := 128) rfl ?_); (try (refine gate_guard (by rfl) ?_; dsimp only)); refine Kd.R_lit k57 _ 57 ?hg (N := 128) ?hd (xs := ([(⟨4, 6⟩ : S57), (⟨4, 6⟩ : S57)] : List (S57))) (inner := [.int .i64 4, .int .i64 6, .int .i64 4, .int .i64 6]) (ok := fun _ => True) (okp := fun _ => True) ?hr ?hp (fun _ hk => hk) trivial (Below.refl _ _) (Nat.le_refl _) (by simp) ?_; (case hd => rfl); (case hg => rfl); (case hr => first | (go_simp; done) | (go_simp; rfl)); (case hp => exact (Reps.c2 (show Kd.M k57 _ _ _ (⟨4, 6⟩ : S57) [.int .i64 4, .int .i64 6] from (k57_mkM _ _ _ (⟨4, 6⟩ : S57) )) (Reps.c2 (show Kd.M k57 _ _ _ (⟨4, 6⟩ : S57) [.int .i64 4, .int .i64 6] from (k57_mkM _ _ _ (⟨4, 6⟩ : S57) )) (Reps.none _ _)))); intro v268 w98 ho99 hb hg_ hnew_; clear hg_ hnew_; (first | rw [← Ny267.out] at ho99 | (simp only [Int.reduceToNat] at ho99; rw [← Ny267.out] at ho99)); have n0_ := Aside0.mk (Kd.R_below (by (with_reducible repeat (first | apply Kd.R_alloc | apply Kd.R_drewN | apply Kd.R_drew)); exact HO_3.out) hb); have n1_ := Aside0.mk (Kd.R_below (by (with_reducible repeat (first | apply Kd.R_alloc | apply Kd.R_drewN | apply Kd.R_drew)); exact HO_5.out) hb); have n2_ := Aside0.mk (Kd.R_elder' (by (with_reducible repeat (first | apply Kd.R_alloc | apply Kd.R_drewN | apply Kd.R_drew)); exact HO_12.out) (Kd.R_base ho99) hb); have n3_ := Aside0.mk (Kd.R_below (by (with_reducible repeat (first | apply Kd.R_alloc | apply Kd.R_drewN | apply Kd.R_drew)); exact HO261.out) hb); have n4_ := Aside0.mk (Kd.R_below (by (with_reducible repeat (first | apply Kd.R_alloc | apply Kd.R_drewN | apply Kd.R_drew)); exact HO265.out) hb); have n5_ := Aside0.mk (Kd.R_lower (Kd.R_new' ho99 (Kd.R_lt (by (with_reducible repeat (first | apply Kd.R_alloc | apply Kd.R_drewN | apply Kd.R_drew)); exact HO_12.out))) (below_size (by repeat (first | (with_reducible first | exact HB.out | apply below_alloc | apply pw_below_drewN | apply below_drew1) | exact HB.out)))); have n6_ := Aside0.mk (below_step (by repeat (first | (with_reducible first | exact HB.out | apply below_alloc | apply pw_below_drewN | apply below_drew1) | exact HB.out)) hb); clear HO_3; clear HO_5; clear HO_12; clear HO261; clear HO265; clear HB; have HO_3 := n0_; have HO_5 := n1_; have HO_12 := n2_; have HO261 := n3_; have HO265 := n4_; have HO269 := n5_; have HB := n6_; clear n0_ n1_ n2_ n3_ n4_ n5_ n6_; clear hb ho99; obtain ⟨Ao100, co100, eo100⟩ := Kd.R_slice HO269.out; subst eo100) | (go_at_call 38; (with_reducible refine (r9_SameShells.calls kj7 _ _ t245 _ _ y267 true _ ?side1 ?side2 ?side3 ?side4 A85.out).mono ?_); (case side1 => repeat (first | exact (Kd.R_reads' HO_12.out).2.2 | (with_reducible refine Kd.C_alloc ?_ _) | (with_reducible refine Kd.C_drewN ?_ _) | (with_reducible refine Kd.C_drew ?_))); (case side2 => exact (Kd.R_reads' HO_12.out).2.1); (case side3 => repeat (first | exact (Kd.R_reads' HO269.out).2.2 | (with_reducible refine Kd.C_alloc ?_ _) | (with_reducible refine Kd.C_drewN ?_ _) | (with_reducible refine Kd.C_drew ?_))); (case side4 => exact (Kd.R_reads' HO269.out).2.1); rintro e w' ⟨rfl, ⟨nd, rfl⟩⟩) | ((with_reducible refine gate_dst (N := 141) rfl ?_); (try (refine gate_guard (by rfl) ?_; dsimp only)); refine Kd.R_lit (Kd.int .i64) _ 3 ?hg (N := 141) ?hd (xs := ([5, 5] : List Int)) (inner := [.int .i64 5, .int .i64 5]) (ok := fun _ => True) (okp := fun _ => True) ?hr ?hp (fun _ hk => hk) trivial (Below.refl _ _) (Nat.le_refl _) (by simp) ?_; (case hd => rfl); (case hg => rfl); (case hr => first | (go_simp; done) | (go_simp; rfl)); (case hp => exact (Reps.one (show Kd.M (Kd.int .i64) _ _ _ 5 [.int .i64 5] from rfl) (Reps.one (show Kd.M (Kd.int .i64) _ _ _ 5 [.int .i64 5] from rfl) (Reps.none _ _)))); intro v272 w101 ho102 hb hg_ hnew_; clear hg_ hnew_; (first | rw [← Ny271.out] at ho102 | (simp only [Int.reduceToNat] at ho102; rw [← Ny271.out] at ho102)); have n0_ := Aside0.mk (Kd.R_elder' (by (with_reducible repeat (first | apply Kd.R_alloc | apply Kd.R_drewN | apply Kd.R_drew)); exact HO_3.out) (Kd.R_base ho102) hb); have n1_ := Aside0.mk (Kd.R_elder' (by (with_reducible repeat (first | apply Kd.R_alloc | apply Kd.R_drewN | apply Kd.R_drew)); exact HO_5.out) (Kd.R_base ho102) hb); have n2_ := Aside0.mk (Kd.R_below (by (with_reducible repeat (first | apply Kd.R_alloc | apply Kd.R_drewN | apply Kd.R_drew)); exact HO_12.out) hb); have n3_ := Aside0.mk (Kd.R_elder' (by (with_reducible repeat (first | apply Kd.R_alloc | apply Kd.R_drewN | apply Kd.R_drew)); exact HO261.out) (Kd.R_base ho102) hb); have n4_ := Aside0.mk (Kd.R_elder' (by (with_reducible repeat (first | apply Kd.R_alloc | apply Kd.R_drewN | apply Kd.R_drew)); exact HO265.out) (Kd.R_base ho102) hb); have n5_ := Aside0.mk (Kd.R_below (by (with_reducible repeat (first | apply Kd.R_alloc | apply Kd.R_drewN | apply Kd.R_drew)); exact HO269.out) hb); have n6_ := Aside0.mk (Kd.R_lower (Kd.R_new' (Kd.R_new' (Kd.R_new' (Kd.R_new' ho102 (Kd.R_lt (by (with_reducible repeat (first | apply Kd.R_alloc | apply Kd.R_drewN | apply Kd.R_drew)); exact HO_3.out))) (Kd.R_lt (by (with_reducible repeat (first | apply Kd.R_alloc | apply Kd.R_drewN | apply Kd.R_drew)); exact HO_5.out))) (Kd.R_lt (by (with_reducible repeat (first | apply Kd.R_alloc | apply Kd.R_drewN | apply Kd.R_drew)); exact HO261.out))) (Kd.R_lt (by (with_reducible repeat (first | apply Kd.R_alloc | apply Kd.R_drewN | apply Kd.R_drew)); exact HO265.out))) (below_size (by repeat (first | (with_reducible first | exact HB.out | apply below_alloc | apply pw_below_drewN | apply below_drew1) | exact HB.out)))); have n7_ := Aside0.mk (below_step (by repeat (first | (with_reducible first | exact HB.out | apply below_alloc | apply pw_below_drewN | apply below_drew1) | exact HB.out)) hb); clear HO_3; clear HO_5; clear HO_12; clear HO261; clear HO265; clear HO269; clear HB; have HO_3 := n0_; have HO_5 := n1_; have HO_12 := n2_; have HO261 := n3_; have HO265 := n4_; have HO269 := n5_; have HO273 := n6_; have HB := n7_; clear n0_ n1_ n2_ n3_ n4_ n5_ n6_ n7_; clear hb ho102; obtain ⟨Ao103, co103, eo103⟩ := Kd.R_slice HO273.out; subst eo103) | (go_at_call 28; (with_reducible refine (pivot_In.calls kj7 _ _ t245 _ _ y271 t274 _ ?side1 ?side2 ?side3 ?side4 A89.out).mono ?_); (case side1 => repeat (first | exact (Kd.R_reads' HO_12.out).2.2 | (with_reducible refine Kd.C_alloc ?_ _) | (with_reducible refine Kd.C_drewN ?_ _) | (with_reducible refine Kd.C_drew ?_))); (case side2 => exact (Kd.R_reads' HO_12.out).2.1); (case side3 => repeat (first | exact (Kd.R_reads' HO273.out).2.2 | (with_reducible refine Kd.C_alloc ?_ _) | (with_reducible refine Kd.C_drewN ?_ _) | (with_reducible refine Kd.C_drew ?_))); (case side4 => exact (Kd.R_reads' HO273.out).2.1); rintro e w104 ⟨rfl, hb⟩; have n0_ := Aside0.mk (Kd.R_below (by (with_reducible repeat (first | apply Kd.R_alloc | apply Kd.R_drewN | apply Kd.R_drew)); exact HO_3.out) hb); have n1_ := Aside0.mk (Kd.R_below (by (with_reducible repeat (first | apply Kd.R_alloc | apply Kd.R_drewN | apply Kd.R_drew)); exact HO_5.out) hb); have n2_ := Aside0.mk (Kd.R_below (by (with_reducible repeat (first | apply Kd.R_alloc | apply Kd.R_drewN | apply Kd.R_drew)); exact HO_12.out) hb); have n3_ := Aside0.mk (Kd.R_below (by (with_reducible repeat (first | apply Kd.R_alloc | apply Kd.R_drewN | apply Kd.R_drew)); exact HO261.out) hb); have n4_ := Aside0.mk (Kd.R_below (by (with_reducible repeat (first | apply Kd.R_alloc | apply Kd.R_drewN | apply Kd.R_drew)); exact HO265.out) hb); have n5_ := Aside0.mk (Kd.R_below (by (with_reducible repeat (first | apply Kd.R_alloc | apply Kd.R_drewN | apply Kd.R_drew)); exact HO269.out) hb); have n6_ := Aside0.mk (Kd.R_below (by (with_reducible repeat (first | apply Kd.R_alloc | apply Kd.R_drewN | apply Kd.R_drew)); exact HO273.out) hb); have n7_ := Aside0.mk (below_step (by repeat (first | (with_reducible first | exact HB.out | apply below_alloc | apply pw_below_drewN | apply below_drew1) | exact HB.out)) hb); clear HO_3; clear HO_5; clear HO_12; clear HO261; clear HO265; clear HO269; clear HO273; clear HB; have HO_3 := n0_; have HO_5 := n1_; have HO_12 := n2_; have HO261 := n3_; have HO265 := n4_; have HO269 := n5_; have HO273 := n6_; have HB := n7_; clear n0_ n1_ n2_ n3_ n4_ n5_ n6_ n7_; (try clear hb); (try clear hb2); (try clear hk); (try clear hi)))
            go_ret
            exact ⟨by first | rfl | (simp [errW_none, errW_some] <;> rfl) | (simp [*, errW_none, errW_some] <;> rfl), by repeat (first | (with_reducible first | exact HB.out | apply below_alloc | apply pw_below_drewN | apply below_drew1) | exact HB.out)⟩
           ·rw [if_neg c88] at H
            have c88b0 : (t257 == 6) = false := beq_eq_false_iff_ne.mpr c88
            have c88b1 : (t257 != 6) = true := bne_iff_ne.mpr c88
            exact absurd (Option.some.inj H) (by rw [HT.out]; decide)
          ·rw [if_neg c87] at H
           have c87b0 : (t252 == 4) = false := beq_eq_false_iff_ne.mpr c87
           have c87b1 : (t252 != 4) = true := bne_iff_ne.mpr c87
           exact absurd (Option.some.inj H) (by rw [HT.out]; decide)
         ·replace c86 := Bool.eq_false_iff.mpr c86
          subst c86
          have H1 : (some false) = some r := by rw [if_neg (show ¬ (false = true) by decide)] at H; exact H
          clear H
          have H := H1
          clear H1
          exact absurd (Option.some.inj H) (by rw [HT.out]; decide)
        ·rw [if_neg c84] at H
         have c84b0 : (t234 == 4) = false := beq_eq_false_iff_ne.mpr c84
         have c84b1 : (t234 != 4) = true := bne_iff_ne.mpr c84
         exact absurd (Option.some.inj H) (by rw [HT.out]; decide)
       ·replace c83 := Bool.eq_false_iff.mpr c83
        subst c83
        have H1 : (some false) = some r := by rw [if_neg (show ¬ (false = true) by decide)] at H; exact H
        clear H
        have H := H1
        clear H1
        exact absurd (Option.some.inj H) (by rw [HT.out]; decide)
      ·rw [if_neg c82] at H
       have c82b0 : (t233 == 1) = false := beq_eq_false_iff_ne.mpr c82
       have c82b1 : (t233 != 1) = true := bne_iff_ne.mpr c82
       by_cases c154 : x18_7 = true
       ·subst c154
        have H1 : (some false) = some r := by rw [if_pos rfl] at H; exact H
        clear H
        have H := H1
        clear H1
        exact absurd (Option.some.inj H) (by rw [HT.out]; decide)
       ·replace c154 := Bool.eq_false_iff.mpr c154
        subst c154
        have H1 : (some false) = some r := by rw [if_neg (show ¬ (false = true) by decide)] at H; exact H
        clear H
        have H := H1
        clear H1
        exact absurd (Option.some.inj H) (by rw [HT.out]; decide)
     ·rw [if_neg c81] at H
      have c81b0 : (t228 == 4) = false := beq_eq_false_iff_ne.mpr c81
      have c81b1 : (t228 != 4) = true := bne_iff_ne.mpr c81
      by_cases c171 : x18_7 = true
      ·subst c171
       have H1 : (some false) = some r := by rw [if_pos rfl] at H; exact H
       clear H
       have H := H1
       clear H1
       exact absurd (Option.some.inj H) (by rw [HT.out]; decide)
      ·replace c171 := Bool.eq_false_iff.mpr c171
       subst c171
       have H1 : (some false) = some r := by rw [if_neg (show ¬ (false = true) by decide)] at H; exact H
       clear H
       have H := H1
       clear H1
       exact absurd (Option.some.inj H) (by rw [HT.out]; decide)
    ·replace c80 := Bool.eq_false_iff.mpr c80
     subst c80
     have H1 : (if x18_7 = true then (some false) else (some false)) = some r := by rw [if_neg (show ¬ (false = true) by decide)] at H; exact H
     clear H
     have H := H1
     clear H1
     by_cases c188 : x18_7 = true
     ·subst c188
      have H1 : (some false) = some r := by rw [if_pos rfl] at H; exact H
      clear H
      have H := H1
      clear H1
      exact absurd (Option.some.inj H) (by rw [HT.out]; decide)
     ·replace c188 := Bool.eq_false_iff.mpr c188
      subst c188
      have H1 : (some false) = some r := by rw [if_neg (show ¬ (false = true) by decide)] at H; exact H
      clear H
      have H := H1
      clear H1
      exact absurd (Option.some.inj H) (by rw [HT.out]; decide)
   ·replace c78 := Bool.eq_false_iff.mpr c78
    subst c78
    have H1 : (if x18_7 = true then (some false) else (some false)) = some r := by rw [if_neg (show ¬ (false = true) by decide)] at H; exact H
    clear H
    have H := H1
    clear H1
    by_cases c205 : x18_7 = true
    ·subst c205
     have H1 : (some false) = some r := by rw [if_pos rfl] at H; exact H
     clear H
     have H := H1
     clear H1
     exact absurd (Option.some.inj H) (by rw [HT.out]; decide)
    ·replace c205 := Bool.eq_false_iff.mpr c205
     subst c205
     have H1 : (some false) = some r := by rw [if_neg (show ¬ (false = true) by decide)] at H; exact H
     clear H
     have H := H1
     clear H1
     exact absurd (Option.some.inj H) (by rw [HT.out]; decide)
def r9_Metric.f (a0 : Int) : Option (Bool) := if a0 ≥ 1 then (some (decide (a0 ≤ 3))) else (some false)
set_option maxHeartbeats 8000000 in
set_option maxRecDepth 100000 in
theorem r9_Metric.calls (a0 : Int) (r : Bool) (w : World) (h : r9_Metric.f a0 = some r) :
  Calls Try.prog 29 #[.int .i64 a0] w fun e w' => e = .returned (.bool r) ∧ Drawn0 w w' := by
 have H : (if a0 ≥ 1 then (some (decide (a0 ≤ 3))) else (some false)) = some r := h
 clear h
 by_cases c2 : a0 ≥ 1
 ·rw [if_pos c2] at H
  have c2b0 : decide (1 ≤ a0) = true := decide_eq_true c2
  clear c2
  obtain rfl := Option.some.inj H
  go_enter Try.func29, Try.ntmps29
  go_wp2
  go_ret
  exact ⟨by first | rfl | (simp; done) | (simp [*]; done), by repeat (first | exact Drawn0.refl _ | apply Drawn0.step)⟩
 ·rw [if_neg c2] at H
  have c2b0 : decide (1 ≤ a0) = false := decide_eq_false c2
  clear c2
  obtain rfl := Option.some.inj H
  go_enter Try.func29, Try.ntmps29
  go_wp2
  go_ret
  exact ⟨by first | rfl | (simp; done) | (simp [*]; done), by repeat (first | exact Drawn0.refl _ | apply Drawn0.step)⟩
def r4_Valid.l0 : Nat → List Int → Int → Option (Bool)
 | 0, _, _ => none
 | k + 1, x0, x3 => if x3 < (x0.length : Int) then (if 0 ≤ x3 then (if (rd x0 x3) < (-1000) then (some false) else (if (rd x0 x3) > 1000 then (some false) else (r4_Valid.l0 k x0 (wrap64 (x3 + 1))))) else (none)) else (if (x0.length : Int) ≥ 1 then (some (decide ((x0.length : Int) ≤ 32))) else (some false))
def r4_Valid.f (k : Nat) (l0 : List Int) : Option (Bool) := r4_Valid.l0 k l0 0
set_option maxHeartbeats 8000000 in
set_option maxRecDepth 100000 in
theorem r4_Valid.calls (k : Nat) (A0 : Option Addr) (c0 : Nat) (l0 : List Int) (r : Bool) (w : World) (hr0 : Kd.C (Kd.int .i64) w A0 l0.length l0) (hc0 : l0.length ≤ c0) (h : r4_Valid.f k l0 = some r) :
  Calls Try.prog 66 #[.slice A0 l0.length c0] w fun e w' => e = .returned (.bool r) ∧ Drawn0 w w' := by
 have HR0 := Aside0.mk hr0
 have HC0 := Aside0.mk hc0
 clear hr0 hc0
 have H : (r4_Valid.l0 k l0 0) = some r := h
 clear h
 have H' := Aside0.mk H
 clear H
 go_enter Try.func66, Try.ntmps66
 go_wp2
 go_loopg [3] k (fun kq v3 w' => ∃ (x3_1 : Int), v3 = .int .i64 x3_1 ∧ Aside0 (r4_Valid.l0 kq l0 x3_1 = some r) ∧ Aside0 (kq ≤ k) ∧ Drawn0 w w')
 case atStart => exact ⟨(0), (by first | rfl | (simp; done) | (simp [*]; done)), H', ⟨Nat.le_refl _⟩, by repeat (first | exact Drawn0.refl _ | apply Drawn0.step)⟩
 case round =>
  clear H'
  obtain ⟨x3_1, rfl, HA, HK1, ⟨m1, rfl⟩⟩ := hrel
  cases gk with
  | zero => exact absurd HA.out (by simp [r4_Valid.l0])
  | succ k1 =>
   have H := HA.out
   clear HA
   simp only [r4_Valid.l0] at H
   by_cases c2 : x3_1 < (l0.length : Int)
   ·rw [if_pos c2] at H
    have c2b0 : decide (x3_1 < (l0.length : Int)) = true := decide_eq_true c2
    clear c2
    by_cases c3 : 0 ≤ x3_1
    ·rw [if_pos c3] at H
     have c3b0 : decide (0 ≤ x3_1) = true := decide_eq_true c3
     clear c3
     by_cases c4 : (rd l0 x3_1) < (-1000)
     ·rw [if_pos c4] at H
      have c4b0 : decide ((rd l0 x3_1) < (-1000)) = true := decide_eq_true c4
      clear c4
      obtain rfl := Option.some.inj H
      have p275 : 0 ≤ (x3_1 : Int) := of_decide_eq_true (by first | (with_reducible assumption) | assumption)
      have q275 : x3_1 < (l0.length : Int) := of_decide_eq_true (by first | (with_reducible assumption) | assumption)
      obtain ⟨ad275, e275, hx275_0⟩ := Kd.at_int HR0.out x3_1 p275 q275
      cases e275
      replace p275 := eq_true p275
      replace q275 := eq_true q275
      go_wp2
      go_ret
      exact ⟨by first | rfl | (simp; done) | (simp [*]; done), by repeat (first | exact Drawn0.refl _ | apply Drawn0.step)⟩
     ·rw [if_neg c4] at H
      have c4b0 : decide ((rd l0 x3_1) < (-1000)) = false := decide_eq_false c4
      clear c4
      by_cases c5 : (rd l0 x3_1) > 1000
      ·rw [if_pos c5] at H
       have c5b0 : decide (1000 < (rd l0 x3_1)) = true := decide_eq_true c5
       clear c5
       obtain rfl := Option.some.inj H
       have p275 : 0 ≤ (x3_1 : Int) := of_decide_eq_true (by first | (with_reducible assumption) | assumption)
       have q275 : x3_1 < (l0.length : Int) := of_decide_eq_true (by first | (with_reducible assumption) | assumption)
       obtain ⟨ad275, e275, hx275_0⟩ := Kd.at_int HR0.out x3_1 p275 q275
       cases e275
       replace p275 := eq_true p275
       replace q275 := eq_true q275
       have p276 : 0 ≤ (x3_1 : Int) := of_decide_eq_true (by first | (with_reducible assumption) | assumption)
       have q276 : x3_1 < (l0.length : Int) := of_decide_eq_true (by first | (with_reducible assumption) | assumption)
       obtain ⟨ad276, e276, hx276_0⟩ := Kd.at_int HR0.out x3_1 p276 q276
       obtain rfl : ad275 = ad276 := (by injection e276)
       replace p276 := eq_true p276
       replace q276 := eq_true q276
       go_wp2
       go_ret
       exact ⟨by first | rfl | (simp; done) | (simp [*]; done), by repeat (first | exact Drawn0.refl _ | apply Drawn0.step)⟩
      ·rw [if_neg c5] at H
       have c5b0 : decide (1000 < (rd l0 x3_1)) = false := decide_eq_false c5
       clear c5
       have H' := Aside0.mk H
       clear H
       have p275 : 0 ≤ (x3_1 : Int) := of_decide_eq_true (by first | (with_reducible assumption) | assumption)
       have q275 : x3_1 < (l0.length : Int) := of_decide_eq_true (by first | (with_reducible assumption) | assumption)
       obtain ⟨ad275, e275, hx275_0⟩ := Kd.at_int HR0.out x3_1 p275 q275
       cases e275
       replace p275 := eq_true p275
       replace q275 := eq_true q275
       have p276 : 0 ≤ (x3_1 : Int) := of_decide_eq_true (by first | (with_reducible assumption) | assumption)
       have q276 : x3_1 < (l0.length : Int) := of_decide_eq_true (by first | (with_reducible assumption) | assumption)
       obtain ⟨ad276, e276, hx276_0⟩ := Kd.at_int HR0.out x3_1 p276 q276
       obtain rfl : ad275 = ad276 := (by injection e276)
       replace p276 := eq_true p276
       replace q276 := eq_true q276
       go_wp2
       go_roundg k1
       case measure => have := HK1.out; omega
       case rel => exact ⟨(wrap64 (x3_1 + 1)), (by first | rfl | (simp; done) | (simp [*]; done)), H', ⟨by have := HK1.out; omega⟩, by repeat (first | exact Drawn0.refl _ | apply Drawn0.step)⟩
    ·rw [if_neg c3] at H
     exact absurd H (by simp)
   ·rw [if_neg c2] at H
    have c2b0 : decide (x3_1 < (l0.length : Int)) = false := decide_eq_false c2
    clear c2
    by_cases c6 : (l0.length : Int) ≥ 1
    ·rw [if_pos c6] at H
     have c6b0 : decide (1 ≤ (l0.length : Int)) = true := decide_eq_true c6
     have c6b1 : decide (1 ≤ l0.length) = true := decide_eq_true (by omega)
     clear c6
     obtain rfl := Option.some.inj H
     go_wp2
     go_ret
     exact ⟨by first | rfl | (simp; done) | (simp [*]; done), by repeat (first | exact Drawn0.refl _ | apply Drawn0.step)⟩
    ·rw [if_neg c6] at H
     have c6b0 : decide (1 ≤ (l0.length : Int)) = false := decide_eq_false c6
     have c6b1 : decide (1 ≤ l0.length) = false := decide_eq_false (by omega)
     clear c6
     obtain rfl := Option.some.inj H
     go_wp2
     go_ret
     exact ⟨by first | rfl | (simp; done) | (simp [*]; done), by repeat (first | exact Drawn0.refl _ | apply Drawn0.step)⟩
def r9_Fit.l0 : Nat → List (List Int) → Int → Option (Bool)
 | 0, _, _ => none
 | k + 1, x0, x3 => if x3 < (x0.length : Int) then (if 0 ≤ x3 then ((r4_Valid.f k (rd_L1 x0 x3)).bind fun t278 => (if t278 = true then (if 0 < (x0.length : Int) then (if ((rd_L1 x0 x3).length : Int) = ((rd_L1 x0 0).length : Int) then (r9_Fit.l0 k x0 (wrap64 (x3 + 1))) else (some false)) else (none)) else (some false))) else (none)) else (if (x0.length : Int) ≥ 1 then (some (decide ((x0.length : Int) ≤ 4096))) else (some false))
def r9_Fit.f (k : Nat) (l0 : List (List Int)) : Option (Bool) := r9_Fit.l0 k l0 0
set_option maxHeartbeats 8000000 in
set_option maxRecDepth 100000 in
theorem r9_Fit.calls (k : Nat) (A0 : Option Addr) (c0 : Nat) (l0 : List (List Int)) (r : Bool) (w : World) (hr0 : Kd.C (Kd.slice 3 (Kd.int .i64)) w A0 l0.length l0) (hc0 : l0.length ≤ c0) (h : r9_Fit.f k l0 = some r) :
  Calls Try.prog 30 #[.slice A0 l0.length c0] w fun e w' => e = .returned (.bool r) ∧ Drawn0 w w' := by
 have HR0 := Aside0.mk hr0
 have HC0 := Aside0.mk hc0
 clear hr0 hc0
 have H : (r9_Fit.l0 k l0 0) = some r := h
 clear h
 have H' := Aside0.mk H
 clear H
 go_enter Try.func30, Try.ntmps30
 go_wp2
 repeat (go_quiet (fail); try go_wp2)
 go_loopg [3] k (fun kq v3 w' => ∃ (x3_1 : Int), v3 = .int .i64 x3_1 ∧ Aside0 (r9_Fit.l0 kq l0 x3_1 = some r) ∧ Aside0 (kq ≤ k) ∧ Drawn0 w w')
 case atStart => exact ⟨(0), (by first | rfl | (simp; done) | (simp [*]; done)), H', ⟨Nat.le_refl _⟩, by repeat (first | exact Drawn0.refl _ | apply Drawn0.step)⟩
 case round =>
  clear H'
  obtain ⟨x3_1, rfl, HA, HK1, ⟨m1, rfl⟩⟩ := hrel
  cases gk with
  | zero => exact absurd HA.out (by simp [r9_Fit.l0])
  | succ k1 =>
   have H := HA.out
   clear HA
   simp only [r9_Fit.l0] at H
   by_cases c2 : x3_1 < (l0.length : Int)
   ·rw [if_pos c2] at H
    have c2b0 : decide (x3_1 < (l0.length : Int)) = true := decide_eq_true c2
    clear c2
    by_cases c3 : 0 ≤ x3_1
    ·rw [if_pos c3] at H
     have c3b0 : decide (0 ≤ x3_1) = true := decide_eq_true c3
     clear c3
     replace H := Option.bind_eq_some_iff.mp H
     obtain ⟨t278, A40, H⟩ := H
     replace H : (if t278 = true then (if 0 < (l0.length : Int) then (if ((rd_L1 l0 x3_1).length : Int) = ((rd_L1 l0 0).length : Int) then (r9_Fit.l0 k1 l0 (wrap64 (x3_1 + 1))) else (some false)) else (none)) else (some false)) = some r := H
     have A4 := Aside0.mk A40
     clear A40
     by_cases c5 : t278 = true
     ·subst c5
      have H1 : (if 0 < (l0.length : Int) then (if ((rd_L1 l0 x3_1).length : Int) = ((rd_L1 l0 0).length : Int) then (r9_Fit.l0 k1 l0 (wrap64 (x3_1 + 1))) else (some false)) else (none)) = some r := by rw [if_pos rfl] at H; exact H
      clear H
      have H := H1
      clear H1
      by_cases c6 : 0 < (l0.length : Int)
      ·rw [if_pos c6] at H
       have c6b0 : decide (0 < (l0.length : Int)) = true := decide_eq_true c6
       have c6b1 : decide (0 < l0.length) = true := decide_eq_true (by omega)
       clear c6
       by_cases c7 : ((rd_L1 l0 x3_1).length : Int) = ((rd_L1 l0 0).length : Int)
       ·rw [if_pos c7] at H
        have c7b0 : (((rd_L1 l0 x3_1).length : Int) == ((rd_L1 l0 0).length : Int)) = true := beq_iff_eq.mpr c7
        have c7b1 : (((rd_L1 l0 x3_1).length : Int) != ((rd_L1 l0 0).length : Int)) = false := bne_eq_false_iff_eq.mpr c7
        have c7b2 : ((rd_L1 l0 x3_1).length == (rd_L1 l0 0).length) = true := by first | simpa using c7 | (simp at c7 ⊢; omega)
        clear c7
        have H' := Aside0.mk H
        clear H
        have p277 : 0 ≤ (x3_1 : Int) := of_decide_eq_true (by first | (with_reducible assumption) | assumption)
        have q277 : x3_1 < (l0.length : Int) := of_decide_eq_true (by first | (with_reducible assumption) | assumption)
        obtain ⟨ad277, A277_0, c277_0, e277, hx277_0, hl277_0, hi277_0⟩ := at_L1 HR0.out x3_1 p277 q277
        cases e277
        have HR277_0 := Aside0.mk hi277_0
        have HC277_0 := Aside0.mk hl277_0
        clear hi277_0 hl277_0
        replace p277 := eq_true p277
        replace q277 := eq_true q277
        go_wp2_with (first | (go_at_call 66; (with_reducible refine (r4_Valid.calls k1 _ _ (rd_L1 l0 x3_1) true _ ?side1 ?side2 A4.out).mono ?_); (case side1 => repeat (first | exact HR277_0.out | (with_reducible refine Kd.C_alloc ?_ _) | (with_reducible refine Kd.C_drewN ?_ _) | (with_reducible refine Kd.C_drew ?_))); (case side2 => exact HC277_0.out); rintro e w' ⟨rfl, ⟨nd, rfl⟩⟩; (try first | exact ⟨rfl, _, World.drewN_drewN _ _ _⟩ | exact ⟨rfl, _, Eq.trans (World.drewN_drewN _ _ _) (congrArg (World.drewN _) (Nat.add_assoc _ _ _))⟩); have p279 : 0 ≤ (x3_1 : Int) := of_decide_eq_true (by first | (with_reducible assumption) | assumption); have q279 : x3_1 < (l0.length : Int) := of_decide_eq_true (by first | (with_reducible assumption) | assumption); obtain ⟨ad279, A279_0, c279_0, e279, hx279_0, hl279_0, hi279_0⟩ := at_L1 HR0.out x3_1 p279 q279; obtain rfl : ad277 = ad279 := (by injection e279); have HR279_0 := Aside0.mk hi279_0; have HC279_0 := Aside0.mk hl279_0; clear hi279_0 hl279_0; replace p279 := eq_true p279; replace q279 := eq_true q279; have ea_ := Option.some.inj (hx277_0.symm.trans hx279_0); injection ea_ with ea_ en_ ec_; subst ea_; subst ec_; clear en_; have p280 : 0 ≤ (0 : Int) := (by omega); have q280 : 0 < (l0.length : Int) := of_decide_eq_true (by first | (with_reducible assumption) | assumption); obtain ⟨ad280, A280_0, c280_0, e280, hx280_0, hl280_0, hi280_0⟩ := at_L1 HR0.out 0 p280 q280; obtain rfl : ad277 = ad280 := (by injection e280); have qi280 : (0 < l0.length) = True := eq_true (by omega); (try rw [show ((0 : Int)).toNat = 0 from rfl] at hx280_0); (try rw [Addr.add_zero'] at hx280_0); have HR280_0 := Aside0.mk hi280_0; have HC280_0 := Aside0.mk hl280_0; clear hi280_0 hl280_0; replace p280 := eq_true p280; replace q280 := eq_true q280))
        repeat (go_quiet (first | (go_at_call 66; (with_reducible refine (r4_Valid.calls k1 _ _ (rd_L1 l0 x3_1) true _ ?side1 ?side2 A4.out).mono ?_); (case side1 => repeat (first | exact HR277_0.out | (with_reducible refine Kd.C_alloc ?_ _) | (with_reducible refine Kd.C_drewN ?_ _) | (with_reducible refine Kd.C_drew ?_))); (case side2 => exact HC277_0.out); rintro e w' ⟨rfl, ⟨nd, rfl⟩⟩; (try first | exact ⟨rfl, _, World.drewN_drewN _ _ _⟩ | exact ⟨rfl, _, Eq.trans (World.drewN_drewN _ _ _) (congrArg (World.drewN _) (Nat.add_assoc _ _ _))⟩); have p279 : 0 ≤ (x3_1 : Int) := of_decide_eq_true (by first | (with_reducible assumption) | assumption); have q279 : x3_1 < (l0.length : Int) := of_decide_eq_true (by first | (with_reducible assumption) | assumption); obtain ⟨ad279, A279_0, c279_0, e279, hx279_0, hl279_0, hi279_0⟩ := at_L1 HR0.out x3_1 p279 q279; obtain rfl : ad277 = ad279 := (by injection e279); have HR279_0 := Aside0.mk hi279_0; have HC279_0 := Aside0.mk hl279_0; clear hi279_0 hl279_0; replace p279 := eq_true p279; replace q279 := eq_true q279; have ea_ := Option.some.inj (hx277_0.symm.trans hx279_0); injection ea_ with ea_ en_ ec_; subst ea_; subst ec_; clear en_; have p280 : 0 ≤ (0 : Int) := (by omega); have q280 : 0 < (l0.length : Int) := of_decide_eq_true (by first | (with_reducible assumption) | assumption); obtain ⟨ad280, A280_0, c280_0, e280, hx280_0, hl280_0, hi280_0⟩ := at_L1 HR0.out 0 p280 q280; obtain rfl : ad277 = ad280 := (by injection e280); have qi280 : (0 < l0.length) = True := eq_true (by omega); (try rw [show ((0 : Int)).toNat = 0 from rfl] at hx280_0); (try rw [Addr.add_zero'] at hx280_0); have HR280_0 := Aside0.mk hi280_0; have HC280_0 := Aside0.mk hl280_0; clear hi280_0 hl280_0; replace p280 := eq_true p280; replace q280 := eq_true q280)); try go_wp2_with (first | (go_at_call 66; (with_reducible refine (r4_Valid.calls k1 _ _ (rd_L1 l0 x3_1) true _ ?side1 ?side2 A4.out).mono ?_); (case side1 => repeat (first | exact HR277_0.out | (with_reducible refine Kd.C_alloc ?_ _) | (with_reducible refine Kd.C_drewN ?_ _) | (with_reducible refine Kd.C_drew ?_))); (case side2 => exact HC277_0.out); rintro e w' ⟨rfl, ⟨nd, rfl⟩⟩; (try first | exact ⟨rfl, _, World.drewN_drewN _ _ _⟩ | exact ⟨rfl, _, Eq.trans (World.drewN_drewN _ _ _) (congrArg (World.drewN _) (Nat.add_assoc _ _ _))⟩); have p279 : 0 ≤ (x3_1 : Int) := of_decide_eq_true (by first | (with_reducible assumption) | assumption); have q279 : x3_1 < (l0.length : Int) := of_decide_eq_true (by first | (with_reducible assumption) | assumption); obtain ⟨ad279, A279_0, c279_0, e279, hx279_0, hl279_0, hi279_0⟩ := at_L1 HR0.out x3_1 p279 q279; obtain rfl : ad277 = ad279 := (by injection e279); have HR279_0 := Aside0.mk hi279_0; have HC279_0 := Aside0.mk hl279_0; clear hi279_0 hl279_0; replace p279 := eq_true p279; replace q279 := eq_true q279; have ea_ := Option.some.inj (hx277_0.symm.trans hx279_0); injection ea_ with ea_ en_ ec_; subst ea_; subst ec_; clear en_; have p280 : 0 ≤ (0 : Int) := (by omega); have q280 : 0 < (l0.length : Int) := of_decide_eq_true (by first | (with_reducible assumption) | assumption); obtain ⟨ad280, A280_0, c280_0, e280, hx280_0, hl280_0, hi280_0⟩ := at_L1 HR0.out 0 p280 q280; obtain rfl : ad277 = ad280 := (by injection e280); have qi280 : (0 < l0.length) = True := eq_true (by omega); (try rw [show ((0 : Int)).toNat = 0 from rfl] at hx280_0); (try rw [Addr.add_zero'] at hx280_0); have HR280_0 := Aside0.mk hi280_0; have HC280_0 := Aside0.mk hl280_0; clear hi280_0 hl280_0; replace p280 := eq_true p280; replace q280 := eq_true q280)))
        go_roundg k1
        case measure => have := HK1.out; omega
        case rel => exact ⟨(wrap64 (x3_1 + 1)), (by first | rfl | (simp; done) | (simp [*]; done)), H', ⟨by have := HK1.out; omega⟩, by repeat (first | exact Drawn0.refl _ | apply Drawn0.step)⟩
       ·rw [if_neg c7] at H
        have c7b0 : (((rd_L1 l0 x3_1).length : Int) == ((rd_L1 l0 0).length : Int)) = false := beq_eq_false_iff_ne.mpr c7
        have c7b1 : (((rd_L1 l0 x3_1).length : Int) != ((rd_L1 l0 0).length : Int)) = true := bne_iff_ne.mpr c7
        have c7b2 : ((rd_L1 l0 x3_1).length == (rd_L1 l0 0).length) = false := by first | simpa using c7 | (simp at c7 ⊢; omega)
        obtain rfl := Option.some.inj H
        have p277 : 0 ≤ (x3_1 : Int) := of_decide_eq_true (by first | (with_reducible assumption) | assumption)
        have q277 : x3_1 < (l0.length : Int) := of_decide_eq_true (by first | (with_reducible assumption) | assumption)
        obtain ⟨ad277, A277_0, c277_0, e277, hx277_0, hl277_0, hi277_0⟩ := at_L1 HR0.out x3_1 p277 q277
        cases e277
        have HR277_0 := Aside0.mk hi277_0
        have HC277_0 := Aside0.mk hl277_0
        clear hi277_0 hl277_0
        replace p277 := eq_true p277
        replace q277 := eq_true q277
        go_wp2_with (first | (go_at_call 66; (with_reducible refine (r4_Valid.calls k1 _ _ (rd_L1 l0 x3_1) true _ ?side1 ?side2 A4.out).mono ?_); (case side1 => repeat (first | exact HR277_0.out | (with_reducible refine Kd.C_alloc ?_ _) | (with_reducible refine Kd.C_drewN ?_ _) | (with_reducible refine Kd.C_drew ?_))); (case side2 => exact HC277_0.out); rintro e w' ⟨rfl, ⟨nd, rfl⟩⟩; (try first | exact ⟨rfl, _, World.drewN_drewN _ _ _⟩ | exact ⟨rfl, _, Eq.trans (World.drewN_drewN _ _ _) (congrArg (World.drewN _) (Nat.add_assoc _ _ _))⟩); have p279 : 0 ≤ (x3_1 : Int) := of_decide_eq_true (by first | (with_reducible assumption) | assumption); have q279 : x3_1 < (l0.length : Int) := of_decide_eq_true (by first | (with_reducible assumption) | assumption); obtain ⟨ad279, A279_0, c279_0, e279, hx279_0, hl279_0, hi279_0⟩ := at_L1 HR0.out x3_1 p279 q279; obtain rfl : ad277 = ad279 := (by injection e279); have HR279_0 := Aside0.mk hi279_0; have HC279_0 := Aside0.mk hl279_0; clear hi279_0 hl279_0; replace p279 := eq_true p279; replace q279 := eq_true q279; have ea_ := Option.some.inj (hx277_0.symm.trans hx279_0); injection ea_ with ea_ en_ ec_; subst ea_; subst ec_; clear en_; have p280 : 0 ≤ (0 : Int) := (by omega); have q280 : 0 < (l0.length : Int) := of_decide_eq_true (by first | (with_reducible assumption) | assumption); obtain ⟨ad280, A280_0, c280_0, e280, hx280_0, hl280_0, hi280_0⟩ := at_L1 HR0.out 0 p280 q280; obtain rfl : ad277 = ad280 := (by injection e280); have qi280 : (0 < l0.length) = True := eq_true (by omega); (try rw [show ((0 : Int)).toNat = 0 from rfl] at hx280_0); (try rw [Addr.add_zero'] at hx280_0); have HR280_0 := Aside0.mk hi280_0; have HC280_0 := Aside0.mk hl280_0; clear hi280_0 hl280_0; replace p280 := eq_true p280; replace q280 := eq_true q280))
        repeat (go_quiet (first | (go_at_call 66; (with_reducible refine (r4_Valid.calls k1 _ _ (rd_L1 l0 x3_1) true _ ?side1 ?side2 A4.out).mono ?_); (case side1 => repeat (first | exact HR277_0.out | (with_reducible refine Kd.C_alloc ?_ _) | (with_reducible refine Kd.C_drewN ?_ _) | (with_reducible refine Kd.C_drew ?_))); (case side2 => exact HC277_0.out); rintro e w' ⟨rfl, ⟨nd, rfl⟩⟩; (try first | exact ⟨rfl, _, World.drewN_drewN _ _ _⟩ | exact ⟨rfl, _, Eq.trans (World.drewN_drewN _ _ _) (congrArg (World.drewN _) (Nat.add_assoc _ _ _))⟩); have p279 : 0 ≤ (x3_1 : Int) := of_decide_eq_true (by first | (with_reducible assumption) | assumption); have q279 : x3_1 < (l0.length : Int) := of_decide_eq_true (by first | (with_reducible assumption) | assumption); obtain ⟨ad279, A279_0, c279_0, e279, hx279_0, hl279_0, hi279_0⟩ := at_L1 HR0.out x3_1 p279 q279; obtain rfl : ad277 = ad279 := (by injection e279); have HR279_0 := Aside0.mk hi279_0; have HC279_0 := Aside0.mk hl279_0; clear hi279_0 hl279_0; replace p279 := eq_true p279; replace q279 := eq_true q279; have ea_ := Option.some.inj (hx277_0.symm.trans hx279_0); injection ea_ with ea_ en_ ec_; subst ea_; subst ec_; clear en_; have p280 : 0 ≤ (0 : Int) := (by omega); have q280 : 0 < (l0.length : Int) := of_decide_eq_true (by first | (with_reducible assumption) | assumption); obtain ⟨ad280, A280_0, c280_0, e280, hx280_0, hl280_0, hi280_0⟩ := at_L1 HR0.out 0 p280 q280; obtain rfl : ad277 = ad280 := (by injection e280); have qi280 : (0 < l0.length) = True := eq_true (by omega); (try rw [show ((0 : Int)).toNat = 0 from rfl] at hx280_0); (try rw [Addr.add_zero'] at hx280_0); have HR280_0 := Aside0.mk hi280_0; have HC280_0 := Aside0.mk hl280_0; clear hi280_0 hl280_0; replace p280 := eq_true p280; replace q280 := eq_true q280)); try go_wp2_with (first | (go_at_call 66; (with_reducible refine (r4_Valid.calls k1 _ _ (rd_L1 l0 x3_1) true _ ?side1 ?side2 A4.out).mono ?_); (case side1 => repeat (first | exact HR277_0.out | (with_reducible refine Kd.C_alloc ?_ _) | (with_reducible refine Kd.C_drewN ?_ _) | (with_reducible refine Kd.C_drew ?_))); (case side2 => exact HC277_0.out); rintro e w' ⟨rfl, ⟨nd, rfl⟩⟩; (try first | exact ⟨rfl, _, World.drewN_drewN _ _ _⟩ | exact ⟨rfl, _, Eq.trans (World.drewN_drewN _ _ _) (congrArg (World.drewN _) (Nat.add_assoc _ _ _))⟩); have p279 : 0 ≤ (x3_1 : Int) := of_decide_eq_true (by first | (with_reducible assumption) | assumption); have q279 : x3_1 < (l0.length : Int) := of_decide_eq_true (by first | (with_reducible assumption) | assumption); obtain ⟨ad279, A279_0, c279_0, e279, hx279_0, hl279_0, hi279_0⟩ := at_L1 HR0.out x3_1 p279 q279; obtain rfl : ad277 = ad279 := (by injection e279); have HR279_0 := Aside0.mk hi279_0; have HC279_0 := Aside0.mk hl279_0; clear hi279_0 hl279_0; replace p279 := eq_true p279; replace q279 := eq_true q279; have ea_ := Option.some.inj (hx277_0.symm.trans hx279_0); injection ea_ with ea_ en_ ec_; subst ea_; subst ec_; clear en_; have p280 : 0 ≤ (0 : Int) := (by omega); have q280 : 0 < (l0.length : Int) := of_decide_eq_true (by first | (with_reducible assumption) | assumption); obtain ⟨ad280, A280_0, c280_0, e280, hx280_0, hl280_0, hi280_0⟩ := at_L1 HR0.out 0 p280 q280; obtain rfl : ad277 = ad280 := (by injection e280); have qi280 : (0 < l0.length) = True := eq_true (by omega); (try rw [show ((0 : Int)).toNat = 0 from rfl] at hx280_0); (try rw [Addr.add_zero'] at hx280_0); have HR280_0 := Aside0.mk hi280_0; have HC280_0 := Aside0.mk hl280_0; clear hi280_0 hl280_0; replace p280 := eq_true p280; replace q280 := eq_true q280)))
        go_ret
        exact ⟨by first | rfl | (simp; done) | (simp [*]; done), by repeat (first | exact Drawn0.refl _ | apply Drawn0.step)⟩
      ·rw [if_neg c6] at H
       exact absurd H (by simp)
     ·replace c5 := Bool.eq_false_iff.mpr c5
      subst c5
      have H1 : (some false) = some r := by rw [if_neg (show ¬ (false = true) by decide)] at H; exact H
      clear H
      have H := H1
      clear H1
      obtain rfl := Option.some.inj H
      have p277 : 0 ≤ (x3_1 : Int) := of_decide_eq_true (by first | (with_reducible assumption) | assumption)
      have q277 : x3_1 < (l0.length : Int) := of_decide_eq_true (by first | (with_reducible assumption) | assumption)
      obtain ⟨ad277, A277_0, c277_0, e277, hx277_0, hl277_0, hi277_0⟩ := at_L1 HR0.out x3_1 p277 q277
      cases e277
      have HR277_0 := Aside0.mk hi277_0
      have HC277_0 := Aside0.mk hl277_0
      clear hi277_0 hl277_0
      replace p277 := eq_true p277
      replace q277 := eq_true q277
      go_wp2_with (first | (go_at_call 66; (with_reducible refine (r4_Valid.calls k1 _ _ (rd_L1 l0 x3_1) false _ ?side1 ?side2 A4.out).mono ?_); (case side1 => repeat (first | exact HR277_0.out | (with_reducible refine Kd.C_alloc ?_ _) | (with_reducible refine Kd.C_drewN ?_ _) | (with_reducible refine Kd.C_drew ?_))); (case side2 => exact HC277_0.out); rintro e w' ⟨rfl, ⟨nd, rfl⟩⟩; (try first | exact ⟨rfl, _, World.drewN_drewN _ _ _⟩ | exact ⟨rfl, _, Eq.trans (World.drewN_drewN _ _ _) (congrArg (World.drewN _) (Nat.add_assoc _ _ _))⟩)))
      repeat (go_quiet (first | (go_at_call 66; (with_reducible refine (r4_Valid.calls k1 _ _ (rd_L1 l0 x3_1) false _ ?side1 ?side2 A4.out).mono ?_); (case side1 => repeat (first | exact HR277_0.out | (with_reducible refine Kd.C_alloc ?_ _) | (with_reducible refine Kd.C_drewN ?_ _) | (with_reducible refine Kd.C_drew ?_))); (case side2 => exact HC277_0.out); rintro e w' ⟨rfl, ⟨nd, rfl⟩⟩; (try first | exact ⟨rfl, _, World.drewN_drewN _ _ _⟩ | exact ⟨rfl, _, Eq.trans (World.drewN_drewN _ _ _) (congrArg (World.drewN _) (Nat.add_assoc _ _ _))⟩))); try go_wp2_with (first | (go_at_call 66; (with_reducible refine (r4_Valid.calls k1 _ _ (rd_L1 l0 x3_1) false _ ?side1 ?side2 A4.out).mono ?_); (case side1 => repeat (first | exact HR277_0.out | (with_reducible refine Kd.C_alloc ?_ _) | (with_reducible refine Kd.C_drewN ?_ _) | (with_reducible refine Kd.C_drew ?_))); (case side2 => exact HC277_0.out); rintro e w' ⟨rfl, ⟨nd, rfl⟩⟩; (try first | exact ⟨rfl, _, World.drewN_drewN _ _ _⟩ | exact ⟨rfl, _, Eq.trans (World.drewN_drewN _ _ _) (congrArg (World.drewN _) (Nat.add_assoc _ _ _))⟩))))
      go_ret
      exact ⟨by first | rfl | (simp; done) | (simp [*]; done), by repeat (first | exact Drawn0.refl _ | apply Drawn0.step)⟩
    ·rw [if_neg c3] at H
     exact absurd H (by simp)
   ·rw [if_neg c2] at H
    have c2b0 : decide (x3_1 < (l0.length : Int)) = false := decide_eq_false c2
    clear c2
    by_cases c8 : (l0.length : Int) ≥ 1
    ·rw [if_pos c8] at H
     have c8b0 : decide (1 ≤ (l0.length : Int)) = true := decide_eq_true c8
     have c8b1 : decide (1 ≤ l0.length) = true := decide_eq_true (by omega)
     clear c8
     obtain rfl := Option.some.inj H
     go_wp2
     repeat (go_quiet (fail); try go_wp2)
     go_ret
     exact ⟨by first | rfl | (simp; done) | (simp [*]; done), by repeat (first | exact Drawn0.refl _ | apply Drawn0.step)⟩
    ·rw [if_neg c8] at H
     have c8b0 : decide (1 ≤ (l0.length : Int)) = false := decide_eq_false c8
     have c8b1 : decide (1 ≤ l0.length) = false := decide_eq_false (by omega)
     clear c8
     obtain rfl := Option.some.inj H
     go_wp2
     repeat (go_quiet (fail); try go_wp2)
     go_ret
     exact ⟨by first | rfl | (simp; done) | (simp [*]; done), by repeat (first | exact Drawn0.refl _ | apply Drawn0.step)⟩
end Go.Proofs.Ytoidpkpgeeeggaa.Q
end
section
namespace Go.Proofs.Ytoidpkpgeeeggaa.Q
open Go.RowKit Go.Proofs.YtoidpkpgeeeggaaW.PrintWords Go.Proofs.YtoidpkpgeeeggaaW.PrintLast Go.Proofs.YtoidpkpgeeeggaaW.PrintMore
attribute [local go_sem] max2_int min2_int max_two min_two max_three min_three max_four min_four   -- for this text's walks alone
set_option linter.unusedVariables false
set_option linter.unusedSimpArgs false
mutual
def pivot_Join.j0 : Nat → List (S57) → List (S57) → Bool → Option ((List (S57)) × Int)
 | 0, _, _, _ => none
 | k + 1, x0, x1, x24 => if x24 = true then (some (([] : List (S57)), 1)) else (pivot_Join.l0 k x1 ([] : List (S57)) x0 (x0.length : Int) 0)
def pivot_Join.l0 : Nat → List (S57) → List (S57) → List (S57) → Int → Int → Option ((List (S57)) × Int)
 | 0, _, _, _, _, _ => none
 | k + 1, x1, x6, x25, x26, x27 => if x27 < x26 then (if 0 ≤ x27 then (if x27 < (x25.length : Int) then ((pivot_of.f ((rd_T57 x25 x27).f0) ((rd_T57 x25 x27).f1)).bind fun bt531 => (if x27 < (x1.length : Int) then ((pivot_pair_int_with.f bt531.1 bt531.2 ((rd_T57 x1 x27).f0)).bind fun bt534 => ((pivot_pair_int_with.f bt534.1 bt534.2 ((rd_T57 x1 x27).f1)).bind fun bt537 => (if x6.length < 8796093022208 then (pivot_Join.l0 k x1 (x6 ++ [(⟨bt537.1, bt537.2⟩ : S57)]) x25 x26 (wrap64 (x27 + 1))) else (none)))) else (none))) else (none)) else (none)) else (some (x6, 0))
end
def pivot_Join.f (k : Nat) (l0 : List (S57)) (l1 : List (S57)) : Option ((List (S57)) × Int) := (pivot_Valid.f k l0).bind fun t527 => (if t527 = true then ((pivot_Valid.f k l1).bind fun t528 => (if t528 = true then (pivot_Join.j0 k l0 l1 ((l0.length : Int) != (l1.length : Int))) else (pivot_Join.j0 k l0 l1 true))) else (pivot_Join.j0 k l0 l1 true))
def pivot_Join.T7 : Bool × List (List Nat × List Nat) := (true, [([], []), ([0], [0]), ([], []), ([], []), ([2, 3], [2, 3]), ([4], [4]), ([5], [5]), ([1, 6, 1], [1, 6]), ([], []), ([], []), ([8, 9], [8, 9]), ([10], [10]), ([11], [11]), ([7, 12, 7], [7, 12]), ([], []), ([14, 13, 13, 0, 1, 2, 3, 4, 5, 6, 7, 8, 9, 10, 11, 12, 13, 14], [13, 14])])
def pivot_Join.B7 : List Nat := [0, 1, 0, 0, 12, 28, 60, 127, 0, 0, 768, 1792, 3840, 8191, 0, 32767]
theorem pivot_Join.tab7 : rtab .any (opsOf Try.f33 7) = pivot_Join.T7 := by kernel_rfl
theorem pivot_Join.bits7 : waitsOk pivot_Join.T7.2 pivot_Join.B7 = true := by kernel_rfl
set_option maxHeartbeats 8000000 in
set_option maxRecDepth 100000 in
theorem pivot_Join.calls (k : Nat) (A0 : Option Addr) (c0 : Nat) (l0 : List (S57)) (A1 : Option Addr) (c1 : Nat) (l1 : List (S57)) (r1 : List (S57)) (r2 : Int) (w : World) (hr0 : Kd.C k57 w A0 l0.length l0) (hc0 : l0.length ≤ c0) (hr1 : Kd.C k57 w A1 l1.length l1) (hc1 : l1.length ≤ c1) (h : pivot_Join.f k l0 l1 = some (r1, r2)) :
  Calls Try.prog 33 #[.slice A0 l0.length c0, .slice A1 l1.length c1] w fun e w' => ∃ v0_ : Value, e = .returned (.tuple #[v0_, .int .i64 r2]) ∧ Kd.R k57 57 w' w.heap.size (fun _ => True) v0_ r1 ∧ Below w.heap.size w w' := by
 have hu57 := Try.underlying57
 have hu88 := Try.underlying88
 have HR0 := Aside0.mk hr0
 have HC0 := Aside0.mk hc0
 clear hr0 hc0
 have HR1 := Aside0.mk hr1
 have HC1 := Aside0.mk hc1
 clear hr1 hc1
 have HB := Aside0.mk (Below.refl w.heap.size w)
 have H : ((pivot_Valid.f k l0).bind fun t527 => (if t527 = true then ((pivot_Valid.f k l1).bind fun t528 => (if t528 = true then (pivot_Join.j0 k l0 l1 ((l0.length : Int) != (l1.length : Int))) else (pivot_Join.j0 k l0 l1 true))) else (pivot_Join.j0 k l0 l1 true))) = some (r1, r2) := h
 clear h
 have HC3 := Aside0.mk H
 clear H
 go_enter Try.func33, Try.ntmps33
 go_upto_region 1 with (fail)
 go_cut [24] (fun v24 wc => ∃ (kq : Nat) (x24_2 : Bool), v24 = .bool x24_2 ∧ Aside0 (pivot_Join.j0 kq l0 l1 x24_2 = some (r1, r2)) ∧ Aside0 (kq ≤ k) ∧ Aside0 (Below w.heap.size w wc))
 case first =>
  have H := HC3.out
  clear HC3
  replace H := Option.bind_eq_some_iff.mp H
  obtain ⟨t527, A40, H⟩ := H
  replace H : (if t527 = true then ((pivot_Valid.f k l1).bind fun t528 => (if t528 = true then (pivot_Join.j0 k l0 l1 ((l0.length : Int) != (l1.length : Int))) else (pivot_Join.j0 k l0 l1 true))) else (pivot_Join.j0 k l0 l1 true)) = some (r1, r2) := H
  have A4 := Aside0.mk A40
  clear A40
  by_cases c5 : t527 = true
  ·subst c5
   have H1 : ((pivot_Valid.f k l1).bind fun t528 => (if t528 = true then (pivot_Join.j0 k l0 l1 ((l0.length : Int) != (l1.length : Int))) else (pivot_Join.j0 k l0 l1 true))) = some (r1, r2) := by rw [if_pos rfl] at H; exact H
   clear H
   have H := H1
   clear H1
   replace H := Option.bind_eq_some_iff.mp H
   obtain ⟨t528, A60, H⟩ := H
   replace H : (if t528 = true then (pivot_Join.j0 k l0 l1 ((l0.length : Int) != (l1.length : Int))) else (pivot_Join.j0 k l0 l1 true)) = some (r1, r2) := H
   have A6 := Aside0.mk A60
   clear A60
   by_cases c7 : t528 = true
   ·subst c7
    have H1 : (pivot_Join.j0 k l0 l1 ((l0.length : Int) != (l1.length : Int))) = some (r1, r2) := by rw [if_pos rfl] at H; exact H
    clear H
    have H := H1
    clear H1
    have H' := Aside0.mk H
    clear H
    go_wp2_with (first | ((with_reducible refine gate_callee (f := 24) rfl ?_); refine goesL_ (some 11) rfl rfl Try.func24 (by kernel_rfl) rfl #[.slice A0 l0.length c0] rfl (by (try simp only [List.map_toArray, List.map_cons, List.map_nil]); first | done | rfl | (simp only [List.length_drop, List.length_take]; rfl)) ?_; (with_reducible refine (pivot_Valid.calls k _ _ l0 true _ ?side1 ?side2 A4.out).mono ?_); (case side1 => repeat (first | exact (Kd.C_below HR0.out HB.out) | (with_reducible refine Kd.C_alloc ?_ _) | (with_reducible refine Kd.C_drewN ?_ _) | (with_reducible refine Kd.C_drew ?_))); (case side2 => exact HC0.out); rintro e w8 ⟨rfl, hb⟩; refine ⟨_, rfl, ?_⟩; have n0_ := Aside0.mk (below_step (by repeat (first | (with_reducible first | exact HB.out | apply below_alloc | apply pw_below_drewN | apply below_drew1) | exact HB.out)) hb); clear HB; have HB := n0_; clear n0_; (try clear hb); (try clear hb2); (try clear hk); (try clear hi)) | (go_at_call 24; (with_reducible refine (pivot_Valid.calls k _ _ l1 true _ ?side1 ?side2 A6.out).mono ?_); (case side1 => repeat (first | exact (Kd.C_below HR1.out HB.out) | (with_reducible refine Kd.C_alloc ?_ _) | (with_reducible refine Kd.C_drewN ?_ _) | (with_reducible refine Kd.C_drew ?_))); (case side2 => exact HC1.out); rintro e w9 ⟨rfl, hb⟩; have n0_ := Aside0.mk (below_step (by repeat (first | (with_reducible first | exact HB.out | apply below_alloc | apply pw_below_drewN | apply below_drew1) | exact HB.out)) hb); clear HB; have HB := n0_; clear n0_; (try clear hb); (try clear hb2); (try clear hk); (try clear hi)))
    go_meet
    case rel => exact ⟨_, (((l0.length : Int) != (l1.length : Int))), (by first | rfl | (simp; done) | (simp [*]; done)), H', ⟨by first | omega | exact Nat.le_refl _⟩, ⟨by repeat (first | (with_reducible first | exact HB.out | apply below_alloc | apply pw_below_drewN | apply below_drew1) | exact HB.out)⟩⟩
   ·replace c7 := Bool.eq_false_iff.mpr c7
    subst c7
    have H1 : (pivot_Join.j0 k l0 l1 true) = some (r1, r2) := by rw [if_neg (show ¬ (false = true) by decide)] at H; exact H
    clear H
    have H := H1
    clear H1
    have H' := Aside0.mk H
    clear H
    go_wp2_with (first | ((with_reducible refine gate_callee (f := 24) rfl ?_); refine goesL_ (some 11) rfl rfl Try.func24 (by kernel_rfl) rfl #[.slice A0 l0.length c0] rfl (by (try simp only [List.map_toArray, List.map_cons, List.map_nil]); first | done | rfl | (simp only [List.length_drop, List.length_take]; rfl)) ?_; (with_reducible refine (pivot_Valid.calls k _ _ l0 true _ ?side1 ?side2 A4.out).mono ?_); (case side1 => repeat (first | exact (Kd.C_below HR0.out HB.out) | (with_reducible refine Kd.C_alloc ?_ _) | (with_reducible refine Kd.C_drewN ?_ _) | (with_reducible refine Kd.C_drew ?_))); (case side2 => exact HC0.out); rintro e w10 ⟨rfl, hb⟩; refine ⟨_, rfl, ?_⟩; have n0_ := Aside0.mk (below_step (by repeat (first | (with_reducible first | exact HB.out | apply below_alloc | apply pw_below_drewN | apply below_drew1) | exact HB.out)) hb); clear HB; have HB := n0_; clear n0_; (try clear hb); (try clear hb2); (try clear hk); (try clear hi)) | (go_at_call 24; (with_reducible refine (pivot_Valid.calls k _ _ l1 false _ ?side1 ?side2 A6.out).mono ?_); (case side1 => repeat (first | exact (Kd.C_below HR1.out HB.out) | (with_reducible refine Kd.C_alloc ?_ _) | (with_reducible refine Kd.C_drewN ?_ _) | (with_reducible refine Kd.C_drew ?_))); (case side2 => exact HC1.out); rintro e w11 ⟨rfl, hb⟩; have n0_ := Aside0.mk (below_step (by repeat (first | (with_reducible first | exact HB.out | apply below_alloc | apply pw_below_drewN | apply below_drew1) | exact HB.out)) hb); clear HB; have HB := n0_; clear n0_; (try clear hb); (try clear hb2); (try clear hk); (try clear hi)))
    go_meet
    case rel => exact ⟨_, (true), (by first | rfl | (simp; done) | (simp [*]; done)), H', ⟨by first | omega | exact Nat.le_refl _⟩, ⟨by repeat (first | (with_reducible first | exact HB.out | apply below_alloc | apply pw_below_drewN | apply below_drew1) | exact HB.out)⟩⟩
  ·replace c5 := Bool.eq_false_iff.mpr c5
   subst c5
   have H1 : (pivot_Join.j0 k l0 l1 true) = some (r1, r2) := by rw [if_neg (show ¬ (false = true) by decide)] at H; exact H
   clear H
   have H := H1
   clear H1
   have H' := Aside0.mk H
   clear H
   go_wp2_with (first | ((with_reducible refine gate_callee (f := 24) rfl ?_); refine goesL_ (some 11) rfl rfl Try.func24 (by kernel_rfl) rfl #[.slice A0 l0.length c0] rfl (by (try simp only [List.map_toArray, List.map_cons, List.map_nil]); first | done | rfl | (simp only [List.length_drop, List.length_take]; rfl)) ?_; (with_reducible refine (pivot_Valid.calls k _ _ l0 false _ ?side1 ?side2 A4.out).mono ?_); (case side1 => repeat (first | exact (Kd.C_below HR0.out HB.out) | (with_reducible refine Kd.C_alloc ?_ _) | (with_reducible refine Kd.C_drewN ?_ _) | (with_reducible refine Kd.C_drew ?_))); (case side2 => exact HC0.out); rintro e w12 ⟨rfl, hb⟩; refine ⟨_, rfl, ?_⟩; have n0_ := Aside0.mk (below_step (by repeat (first | (with_reducible first | exact HB.out | apply below_alloc | apply pw_below_drewN | apply below_drew1) | exact HB.out)) hb); clear HB; have HB := n0_; clear n0_; (try clear hb); (try clear hb2); (try clear hk); (try clear hi)))
   go_meet
   case rel => exact ⟨_, (true), (by first | rfl | (simp; done) | (simp [*]; done)), H', ⟨by first | omega | exact Nat.le_refl _⟩, ⟨by repeat (first | (with_reducible first | exact HB.out | apply below_alloc | apply pw_below_drewN | apply below_drew1) | exact HB.out)⟩⟩
 case rest =>
  clear HC3
  try clear c1
  try clear c2
  try clear p2
  try clear c3
  try clear c5
  try clear c7
  obtain ⟨kq, x24_2, rfl, HA, HJ2, HB⟩ := hcut
  cases kq with
  | zero => exact absurd HA.out (by simp [pivot_Join.j0])
  | succ kj2 =>
   have H := HA.out
   clear HA
   simp only [pivot_Join.j0] at H
   by_cases c13 : x24_2 = true
   ·subst c13
    have H1 : (some (([] : List (S57)), 1)) = some (r1, r2) := by rw [if_pos rfl] at H; exact H
    clear H
    have H := H1
    clear H1
    simp only [Option.some.injEq, Prod.mk.injEq] at H
    obtain ⟨rfl, rfl⟩ := H
    go_wp2
    go_ret2
    exact ⟨_, by first | rfl | (simp [errW_none, errW_some] <;> rfl) | (simp [*, errW_none, errW_some] <;> rfl), by first | exact Kd.R_nil _ _ _ _ _ | exact Kd.N_nil _ _ _ _ _ | exact Kd.V_nil _ _ _ _ _ | exact Kd.Q_nil _ _ _ _ _ | exact Kd.S_nil _ _ _ _ _, by repeat (first | (with_reducible first | exact HB.out | apply below_alloc | apply pw_below_drewN | apply below_drew1) | exact HB.out)⟩
   ·replace c13 := Bool.eq_false_iff.mpr c13
    subst c13
    have H1 : (pivot_Join.l0 kj2 l1 ([] : List (S57)) l0 (l0.length : Int) 0) = some (r1, r2) := by rw [if_neg (show ¬ (false = true) by decide)] at H; exact H
    clear H
    have H := H1
    clear H1
    have H' := Aside0.mk H
    clear H
    go_wp2
    go_loopg [6, 27] kj2 (fun kq v6 v27 w' => ∃ (x6_2 : List (S57)) (x27_2 : Int), v27 = .int .i64 x27_2 ∧ Aside0 (pivot_Join.l0 kq l1 x6_2 l0 (l0.length : Int) x27_2 = some (r1, r2)) ∧ Aside0 (kq ≤ kj2) ∧ Aside0 (Kd.R k57 57 w' w.heap.size (fun _ => True) v6 x6_2) ∧ Aside0 (Below w.heap.size w w'))
    case atStart => exact ⟨(([] : List (S57))), (0), (by first | rfl | (simp; done) | (simp [*]; done)), H', ⟨Nat.le_refl _⟩, ⟨by first | exact Kd.R_nil _ _ _ _ _ | exact Kd.N_nil _ _ _ _ _ | exact Kd.V_nil _ _ _ _ _ | exact Kd.Q_nil _ _ _ _ _ | exact Kd.S_nil _ _ _ _ _⟩, ⟨by repeat (first | (with_reducible first | exact HB.out | apply below_alloc | apply pw_below_drewN | apply below_drew1) | exact HB.out)⟩⟩
    case round =>
     clear H'
     try clear c1
     try clear c2
     try clear p2
     try clear c3
     try clear c5
     try clear c7
     try clear c13
     try clear p2
     obtain ⟨x6_2, x27_2, rfl, HA, HK2, HO_6, HB⟩ := hrel
     cases gk with
     | zero => exact absurd HA.out (by simp [pivot_Join.l0])
     | succ k2 =>
      have H := HA.out
      clear HA
      simp only [pivot_Join.l0] at H
      by_cases c14 : x27_2 < (l0.length : Int)
      ·rw [if_pos c14] at H
       have c14b0 : decide (x27_2 < (l0.length : Int)) = true := decide_eq_true c14
       clear c14
       by_cases c15 : 0 ≤ x27_2
       ·rw [if_pos c15] at H
        have c15b0 : decide (0 ≤ x27_2) = true := decide_eq_true c15
        clear c15
        by_cases c16 : x27_2 < (l0.length : Int)
        ·rw [if_pos c16] at H
         have c16b0 : decide (x27_2 < (l0.length : Int)) = true := decide_eq_true c16
         clear c16
         replace H := Option.bind_eq_some_iff.mp H
         obtain ⟨⟨t531, t532⟩, A170, H⟩ := H
         replace H : (if x27_2 < (l1.length : Int) then ((pivot_pair_int_with.f t531 t532 ((rd_T57 l1 x27_2).f0)).bind fun bt534 => ((pivot_pair_int_with.f bt534.1 bt534.2 ((rd_T57 l1 x27_2).f1)).bind fun bt537 => (if x6_2.length < 8796093022208 then (pivot_Join.l0 k2 l1 (x6_2 ++ [(⟨bt537.1, bt537.2⟩ : S57)]) l0 (l0.length : Int) (wrap64 (x27_2 + 1))) else (none)))) else (none)) = some (r1, r2) := H
         have A17 := Aside0.mk A170
         clear A170
         by_cases c18 : x27_2 < (l1.length : Int)
         ·rw [if_pos c18] at H
          have c18b0 : decide (x27_2 < (l1.length : Int)) = true := decide_eq_true c18
          clear c18
          replace H := Option.bind_eq_some_iff.mp H
          obtain ⟨⟨t534, t535⟩, A190, H⟩ := H
          replace H : ((pivot_pair_int_with.f t534 t535 ((rd_T57 l1 x27_2).f1)).bind fun bt537 => (if x6_2.length < 8796093022208 then (pivot_Join.l0 k2 l1 (x6_2 ++ [(⟨bt537.1, bt537.2⟩ : S57)]) l0 (l0.length : Int) (wrap64 (x27_2 + 1))) else (none))) = some (r1, r2) := H
          have A19 := Aside0.mk A190
          clear A190
          replace H := Option.bind_eq_some_iff.mp H
          obtain ⟨⟨t537, t538⟩, A200, H⟩ := H
          replace H : (if x6_2.length < 8796093022208 then (pivot_Join.l0 k2 l1 (x6_2 ++ [(⟨t537, t538⟩ : S57)]) l0 (l0.length : Int) (wrap64 (x27_2 + 1))) else (none)) = some (r1, r2) := H
          have A20 := Aside0.mk A200
          clear A200
          by_cases c21 : x6_2.length < 8796093022208
          ·rw [if_pos c21] at H
           have LMc21 := Aside0.mk c21
           clear c21
           obtain ⟨y540, hy540⟩ : ∃ y_ : List (S57), y_ = (x6_2 ++ [(⟨t537, t538⟩ : S57)]) := ⟨_, rfl⟩
           replace H : (pivot_Join.l0 k2 l1 y540 l0 (l0.length : Int) (wrap64 (x27_2 + 1))) = some (r1, r2) := by first | (rw [hy540]; with_reducible exact H) | (have H2_ := (Option.bind_some _ _).symm.trans H; rw [hy540]; with_reducible exact H2_) | (have H2_ := (Option.bind_some _ _).symm.trans H; with_reducible exact H2_) | with_reducible exact H | (rw [hy540]; exact H) | exact H
           have Ny540 := Aside0.mk hy540
           clear hy540
           have H' := Aside0.mk H
           clear H
           have p529 : 0 ≤ (x27_2 : Int) := of_decide_eq_true (by first | (with_reducible assumption) | assumption)
           have q529 : x27_2 < (l0.length : Int) := of_decide_eq_true (by first | (with_reducible assumption) | assumption)
           obtain ⟨ad529, e529, hx529_0, hx529_1⟩ := at_T57 HR0.out x27_2 p529 q529
           cases e529
           replace hx529_0 := (HB.out.cell (World.block_lt_of_cell? w _ hx529_0)).trans hx529_0
           replace hx529_1 := (HB.out.cell (World.block_lt_of_cell? w _ hx529_1)).trans hx529_1
           replace p529 := eq_true p529
           replace q529 := eq_true q529
           try go_wp2_with (first | ((with_reducible refine gate_dst (N := 8) rfl ?_); (try (refine gate_guard (by rfl) ?_; dsimp only)); refine box_event ?hg (N := 8) ?hd (cs := #[.int .i64 0, .int .i64 0]) (t := 57) ?hr ?_; (case hd => rfl); (case hg => rfl); (case hr => first | (go_simp; done) | (go_simp; rfl)); intro gb530 hg w22 hbox hb; have n0_ := Aside0.mk (Kd.R_below (Kd.R_elderB (by (with_reducible repeat (first | apply Kd.R_alloc | apply Kd.R_drewN | apply Kd.R_drew)); exact HO_6.out) gb530 (Nat.le_of_eq hg.symm)) hb); have n1_ := Aside0.mk (below_step (by repeat (first | (with_reducible first | exact HB.out | apply below_alloc | apply pw_below_drewN | apply below_drew1) | exact HB.out)) hb); have n2_ := Aside0.mk (hbox); have n3_ := Aside0.mk ((by rw [hg]; exact (below_size (by repeat (first | (with_reducible first | exact HB.out | apply below_alloc | apply pw_below_drewN | apply below_drew1) | exact HB.out))) : w.heap.size ≤ gb530)); have n4_ := Aside0.mk ((by rw [hg]; exact (below_size (by repeat (first | (with_reducible first | exact HB.out | apply below_alloc | apply pw_below_drewN | apply below_drew1) | exact HB.out))) : w.heap.size ≤ gb530)); clear HO_6; clear HB; have HO_6 := n0_; have HB := n1_; have BK530 := n2_; have GW530 := n3_; have GE530 := n4_; clear n0_ n1_ n2_ n3_ n4_; clear hb hbox hg; have hcz23_0 : w22.cell? ⟨gb530, 0, none⟩ = some (.int .i64 0) := (blk_cell BK530.out 0).trans rfl; have hcz23_1 : w22.cell? ⟨gb530, 1, none⟩ = some (.int .i64 0) := (blk_cell BK530.out 1).trans rfl; have hfz23_0 := blk_frozen BK530.out 0; have hfz23_1 := blk_frozen BK530.out 1))
           have n0_ : Aside0 (Kd.R k57 57 ((w22.setCell ⟨gb530, 0, none⟩ (.int .i64 ((rd_T57 l0 x27_2).f0))).setCell ⟨gb530, 1, none⟩ (.int .i64 ((rd_T57 l0 x27_2).f1))) w.heap.size (fun k_ => k_ ≠ gb530) u6 x6_2) := ⟨by (with_reducible repeat (first | apply Kd.R_alloc | apply Kd.R_drewN | apply Kd.R_drew)); exact Kd.R_mono (Kd.R_far (p := ⟨gb530, 1, none⟩) (Kd.R_far (p := ⟨gb530, 0, none⟩) (Kd.R_mono HO_6.out (fun k_ hk => (⟨hk, hk.2⟩ : _ ∧ k_ ≠ gb530))) (fun _ hk => hk.2) (.int .i64 ((rd_T57 l0 x27_2).f0))) (fun _ hk => hk.2) (.int .i64 ((rd_T57 l0 x27_2).f1))) (fun _ hk => hk.1.2)⟩
           have n1_ : Aside0 (((w22.setCell ⟨gb530, 0, none⟩ (.int .i64 ((rd_T57 l0 x27_2).f0))).setCell ⟨gb530, 1, none⟩ (.int .i64 ((rd_T57 l0 x27_2).f1))).heap[gb530]? = some (.cells #[.int .i64 ((rd_T57 l0 x27_2).f0), .int .i64 ((rd_T57 l0 x27_2).f1)] 57 (0, 0))) := ⟨by (with_reducible repeat (first | refine blk_drewN ?_ _ | refine blk_drew ?_ | refine blk_alloc ?_ _)); refine blk_put (cs := #[.int .i64 ((rd_T57 l0 x27_2).f0), .int .i64 0]) ?_ 1 _ rfl; (with_reducible repeat (first | refine blk_drewN ?_ _ | refine blk_drew ?_ | refine blk_alloc ?_ _)); refine blk_put (cs := #[.int .i64 0, .int .i64 0]) ?_ 0 _ rfl; (with_reducible repeat (first | refine blk_drewN ?_ _ | refine blk_drew ?_ | refine blk_alloc ?_ _)); exact BK530.out⟩
           have n2_ : Aside0 (Below w.heap.size w ((w22.setCell ⟨gb530, 0, none⟩ (.int .i64 ((rd_T57 l0 x27_2).f0))).setCell ⟨gb530, 1, none⟩ (.int .i64 ((rd_T57 l0 x27_2).f1)))) := ⟨by repeat (first | (with_reducible first | exact HB.out | apply below_alloc | apply pw_below_drewN | apply below_drew1 | refine below_set ?_ GE530.out) | exact HB.out)⟩
           (try clear HO_6)
           (try clear BK530)
           (try clear HB)
           generalize ((w22.setCell ⟨gb530, 0, none⟩ (.int .i64 ((rd_T57 l0 x27_2).f0))).setCell ⟨gb530, 1, none⟩ (.int .i64 ((rd_T57 l0 x27_2).f1))) = w24 at n0_ n1_ n2_ ⊢
           have HO_6 := n0_
           have BK530 := n1_
           have HB := n2_
           clear n0_ n1_ n2_
           have n0_ := Aside0.mk (Kd.R_drew HO_6.out)
           have n1_ := Aside0.mk (blk_drew BK530.out)
           have n2_ := Aside0.mk (below_drew1 HB.out)
           clear HO_6
           clear BK530
           clear HB
           have HO_6 := n0_
           have BK530 := n1_
           have HB := n2_
           clear n0_ n1_ n2_
           have p533 : 0 ≤ (x27_2 : Int) := of_decide_eq_true (by first | (with_reducible assumption) | assumption)
           have q533 : x27_2 < (l1.length : Int) := of_decide_eq_true (by first | (with_reducible assumption) | assumption)
           obtain ⟨ad533, e533, hx533_0, hx533_1⟩ := at_T57 HR1.out x27_2 p533 q533
           have hw533_1 := hx533_1
           have hw533_0 := hx533_0
           cases e533
           replace hx533_0 := (HB.out.cell (World.block_lt_of_cell? w _ hx533_0)).trans hx533_0
           replace hx533_1 := (HB.out.cell (World.block_lt_of_cell? w _ hx533_1)).trans hx533_1
           replace p533 := eq_true p533
           replace q533 := eq_true q533
           have p536 : 0 ≤ (x27_2 : Int) := of_decide_eq_true (by first | (with_reducible assumption) | assumption)
           have q536 : x27_2 < (l1.length : Int) := of_decide_eq_true (by first | (with_reducible assumption) | assumption)
           obtain ⟨ad536, e536, hx536_0, hx536_1⟩ := at_T57 HR1.out x27_2 p536 q536
           have hw536_1 := hx536_1
           have hw536_0 := hx536_0
           obtain rfl : ad533 = ad536 := (by injection e536)
           replace hx536_0 := (HB.out.cell (World.block_lt_of_cell? w _ hx536_0)).trans hx536_0
           replace hx536_1 := (HB.out.cell (World.block_lt_of_cell? w _ hx536_1)).trans hx536_1
           replace p536 := eq_true p536
           replace q536 := eq_true q536
           refine start_ (n := 16) (S := fun w' => w'.cell? ⟨gb530, 0, none⟩ = some (.int .i64 ((rd_T57 l0 x27_2).f0)) ∧ w'.cell? ⟨gb530, 1, none⟩ = some (.int .i64 ((rd_T57 l0 x27_2).f1)) ∧ w'.cell? (ad533.add ((x27_2).toNat * 2)) = some (.int .i64 ((rd_T57 l1 x27_2).f0)) ∧ w'.cell? ⟨(ad533.add ((x27_2).toNat * 2)).block, (ad533.add ((x27_2).toNat * 2)).off + 1, none⟩ = some (.int .i64 ((rd_T57 l1 x27_2).f1)) ∧ w'.cell? (ad533.add ((x27_2).toNat * 2)) = some (.int .i64 ((rd_T57 l1 x27_2).f0)) ∧ w'.cell? ⟨(ad533.add ((x27_2).toNat * 2)).block, (ad533.add ((x27_2).toNat * 2)).off + 1, none⟩ = some (.int .i64 ((rd_T57 l1 x27_2).f1))) (ds := []) #[false, false, false, false, false, false, false, false, false, false, false, false, false, false, false, false] (by kernel_rfl) rfl rfl ⟨(blk_cell BK530.out 0).trans rfl, (blk_cell BK530.out 1).trans rfl, ((HB.out.cell (World.block_lt_of_cell? w _ hw533_0)).trans hw533_0), ((HB.out.cell (World.block_lt_of_cell? w _ hw533_1)).trans hw533_1), ((HB.out.cell (World.block_lt_of_cell? w _ hw536_0)).trans hw536_0), ((HB.out.cell (World.block_lt_of_cell? w _ hw536_1)).trans hw536_1)⟩ (fun hHeld => ?_); refine with_tabW pivot_Join.tab7 pivot_Join.bits7 (fun HT_ HW_ => ?_)
           generalize w24.drew = w25 at HO_6 BK530 HB hx533_0 hx533_1 hx536_0 hx536_1 hHeld ⊢
           refine pure_ (i := 2) (N := some 34) (v := ?_) (a' := ?_) #[false, false, true, false, false, false, false, false, false, false, false, false, false, false, false, false] rfl rfl (any_of HT_.out (by kernel_rfl)) (fun _ _ _ h => h) (Or.inl ⟨by rfl, ?_⟩) ?_ ?_
           rotate_left
           ·intro w'
            go_simp
            with_reducible rfl
           rotate_left
           ·simp only [Act.put, List.setIfInBounds_toArray, List.set_cons_zero, List.set_cons_succ, i64_w, i32_w]
            rfl
           refine pure_ (i := 3) (N := some 35) (v := ?_) (a' := ?_) #[false, false, true, true, false, false, false, false, false, false, false, false, false, false, false, false] rfl rfl (any_of HT_.out (by kernel_rfl)) (fun _ _ _ h => h) (Or.inl ⟨by rfl, ?_⟩) ?_ ?_
           rotate_left
           ·intro w'
            go_simp
            with_reducible rfl
           rotate_left
           ·simp only [Act.put, List.setIfInBounds_toArray, List.set_cons_zero, List.set_cons_succ, i64_w, i32_w]
            rfl
           refine pure_ (i := 4) (N := some 36) (v := ?_) (a' := ?_) #[false, false, true, true, true, false, false, false, false, false, false, false, false, false, false, false] rfl rfl (any_of HT_.out (by kernel_rfl)) (fun _ _ _ h => h) (Or.inl ⟨by rfl, ?_⟩) ?_ ?_
           rotate_left
           ·intro w'
            go_simp
            with_reducible rfl
           rotate_left
           ·simp only [Act.put, List.setIfInBounds_toArray, List.set_cons_zero, List.set_cons_succ, i64_w, i32_w]
            rfl
           refine pure_ (i := 5) (N := some 37) (v := ?_) (a' := ?_) #[false, false, true, true, true, true, false, false, false, false, false, false, false, false, false, false] rfl rfl (any_of HT_.out (by kernel_rfl)) (fun _ _ _ h => h) (Or.inl ⟨by rfl, ?_⟩) ?_ ?_
           rotate_left
           ·intro w'
            go_simp
            with_reducible rfl
           rotate_left
           ·simp only [Act.put, List.setIfInBounds_toArray, List.set_cons_zero, List.set_cons_succ, i64_w, i32_w]
            rfl
           refine pure_ (i := 8) (N := some 40) (v := ?_) (a' := ?_) #[false, false, true, true, true, true, false, false, true, false, false, false, false, false, false, false] rfl rfl (any_of HT_.out (by kernel_rfl)) (fun _ _ _ h => h) (Or.inl ⟨by rfl, ?_⟩) ?_ ?_
           rotate_left
           ·intro w'
            go_simp
            with_reducible rfl
           rotate_left
           ·simp only [Act.put, List.setIfInBounds_toArray, List.set_cons_zero, List.set_cons_succ, i64_w, i32_w]
            rfl
           refine pure_ (i := 9) (N := some 41) (v := ?_) (a' := ?_) #[false, false, true, true, true, true, false, false, true, true, false, false, false, false, false, false] rfl rfl (any_of HT_.out (by kernel_rfl)) (fun _ _ _ h => h) (Or.inl ⟨by rfl, ?_⟩) ?_ ?_
           rotate_left
           ·intro w'
            go_simp
            with_reducible rfl
           rotate_left
           ·simp only [Act.put, List.setIfInBounds_toArray, List.set_cons_zero, List.set_cons_succ, i64_w, i32_w]
            rfl
           refine pure_ (i := 10) (N := some 42) (v := ?_) (a' := ?_) #[false, false, true, true, true, true, false, false, true, true, true, false, false, false, false, false] rfl rfl (any_of HT_.out (by kernel_rfl)) (fun _ _ _ h => h) (Or.inl ⟨by rfl, ?_⟩) ?_ ?_
           rotate_left
           ·intro w'
            go_simp
            with_reducible rfl
           rotate_left
           ·simp only [Act.put, List.setIfInBounds_toArray, List.set_cons_zero, List.set_cons_succ, i64_w, i32_w]
            rfl
           refine pure_ (i := 11) (N := some 43) (v := ?_) (a' := ?_) #[false, false, true, true, true, true, false, false, true, true, true, true, false, false, false, false] rfl rfl (any_of HT_.out (by kernel_rfl)) (fun _ _ _ h => h) (Or.inl ⟨by rfl, ?_⟩) ?_ ?_
           rotate_left
           ·intro w'
            go_simp
            with_reducible rfl
           rotate_left
           ·simp only [Act.put, List.setIfInBounds_toArray, List.set_cons_zero, List.set_cons_succ, i64_w, i32_w]
            rfl
           refine take_ (i := 0) (N := some 32) (v := ?_) (a' := ?_) #[true, false, true, true, true, true, false, false, true, true, true, true, false, false, false, false] rfl rfl (take_ofW HT_.out HW_.out (by kernel_rfl)) (fun _ _ _ h => h) (Or.inl ⟨by rfl, ?_⟩) hHeld ?_ ?_
           rotate_left
           ·rintro w' ⟨s0, s1, s2, s3, s4, s5⟩
            go_simp
            with_reducible rfl
           rotate_left
           ·simp only [Act.put, List.setIfInBounds_toArray, List.set_cons_zero, List.set_cons_succ, i64_w, i32_w]
            rfl
           refine take_ (i := 6) (N := some 38) (v := ?_) (a' := ?_) #[true, false, true, true, true, true, true, false, true, true, true, true, false, false, false, false] rfl rfl (take_ofW HT_.out HW_.out (by kernel_rfl)) (fun _ _ _ h => h) (Or.inl ⟨by rfl, ?_⟩) hHeld ?_ ?_
           rotate_left
           ·rintro w' ⟨s0, s1, s2, s3, s4, s5⟩
            go_simp
            with_reducible rfl
           rotate_left
           ·simp only [Act.put, List.setIfInBounds_toArray, List.set_cons_zero, List.set_cons_succ, i64_w, i32_w]
            rfl
           refine take_ (i := 12) (N := some 44) (v := ?_) (a' := ?_) #[true, false, true, true, true, true, true, false, true, true, true, true, true, false, false, false] rfl rfl (take_ofW HT_.out HW_.out (by kernel_rfl)) (fun _ _ _ h => h) (Or.inl ⟨by rfl, ?_⟩) hHeld ?_ ?_
           rotate_left
           ·rintro w' ⟨s0, s1, s2, s3, s4, s5⟩
            go_simp
            with_reducible rfl
           rotate_left
           ·simp only [Act.put, List.setIfInBounds_toArray, List.set_cons_zero, List.set_cons_succ, i64_w, i32_w]
            rfl
           refine join_ (σ := Nat) 1 #[true, true, true, true, true, true, true, true, true, true, true, true, true, true, true, false] (fun s_ => [(33, .agg #[.int .i64 t531, .int .i64 t532]), (39, .agg #[.int .i64 t534, .int .i64 t535]), (45, .agg #[.int .i64 t537, .int .i64 t538]), (9, .pointer (some ⟨s_, 0, none⟩))]) (fun s_ w' => (w'.cell? ⟨gb530, 0, none⟩ = some (.int .i64 ((rd_T57 l0 x27_2).f0)) ∧ w'.cell? ⟨gb530, 1, none⟩ = some (.int .i64 ((rd_T57 l0 x27_2).f1)) ∧ w'.cell? (ad533.add ((x27_2).toNat * 2)) = some (.int .i64 ((rd_T57 l1 x27_2).f0)) ∧ w'.cell? ⟨(ad533.add ((x27_2).toNat * 2)).block, (ad533.add ((x27_2).toNat * 2)).off + 1, none⟩ = some (.int .i64 ((rd_T57 l1 x27_2).f1)) ∧ w'.cell? (ad533.add ((x27_2).toNat * 2)) = some (.int .i64 ((rd_T57 l1 x27_2).f0)) ∧ w'.cell? ⟨(ad533.add ((x27_2).toNat * 2)).block, (ad533.add ((x27_2).toNat * 2)).off + 1, none⟩ = some (.int .i64 ((rd_T57 l1 x27_2).f1))) ∧ (Kd.R k57 57 w' w.heap.size (fun k_ => k_ ≠ gb530) u6 x6_2) ∧ (w'.heap[gb530]? = some (.cells #[.int .i64 ((rd_T57 l0 x27_2).f0), .int .i64 ((rd_T57 l0 x27_2).f1)] 57 (0, 0))) ∧ (w'.heap[s_]? = some (.cells #[.int .i64 0, .int .i64 0] 88 (0, 0))) ∧ (w.heap.size ≤ s_) ∧ (w.heap.size ≤ s_) ∧ (gb530 ≠ s_) ∧ (s_ ≠ gb530) ∧ (Below w.heap.size w w')) ?_ ?_
           rotate_left
           ·intro hCont
            refine two_ (i := 1) (j := 14) (Ni := some 33) (Nj := some 9) #[true, true, true, true, true, true, true, false, true, true, true, true, true, false, false, false] #[true, false, true, true, true, true, true, false, true, true, true, true, true, false, true, false] rfl rfl rfl rfl (two_of HT_.out (by kernel_rfl)) (by decide) (by decide) (fun K hK => ?_) (fun K hK => ?_)
            ·skip
             refine goes_ Try.func65 (by kernel_rfl) rfl #[.agg #[.int .i64 ((rd_T57 l0 x27_2).f0), .int .i64 ((rd_T57 l0 x27_2).f1)]] (by rfl) rfl rfl (by (try simp only [List.map_toArray, List.map_cons, List.map_nil]); first | done | rfl | (simp only [List.length_drop, List.length_take]; rfl)) ?_
             with_reducible refine (pivot_of.calls ((rd_T57 l0 x27_2).f0) ((rd_T57 l0 x27_2).f1) t531 t532 _ A17.out).mono ?_
             rintro e w26 ⟨rfl, hb⟩
             refine ⟨_, rfl, ?_⟩
             have n0_ := Aside0.mk (Kd.R_below (by (with_reducible repeat (first | apply Kd.R_alloc | apply Kd.R_drewN | apply Kd.R_drew)); exact HO_6.out) hb)
             have n1_ := Aside0.mk (blk_below (g := gb530) (o := .cells #[.int .i64 ((rd_T57 l0 x27_2).f0), .int .i64 ((rd_T57 l0 x27_2).f1)] 57 (0, 0)) (by (with_reducible repeat (first | refine blk_drewN ?_ _ | refine blk_drew ?_ | refine blk_alloc ?_ _)); exact BK530.out) hb)
             have n2_ := Aside0.mk (below_step (by repeat (first | (with_reducible first | exact HB.out | apply below_alloc | apply pw_below_drewN | apply below_drew1 | refine below_set ?_ GE530.out) | exact HB.out)) hb)
             clear HO_6
             clear BK530
             clear HB
             have HO_6 := n0_
             have BK530 := n1_
             have HB := n2_
             clear n0_ n1_ n2_
             (try clear hb)
             (try clear hb2)
             (try clear hk)
             (try clear hi)
             refine hK.out _ _ ⟨(blk_cell BK530.out 0).trans rfl, (blk_cell BK530.out 1).trans rfl, ((HB.out.cell (World.block_lt_of_cell? w _ hw533_0)).trans hw533_0), ((HB.out.cell (World.block_lt_of_cell? w _ hw533_1)).trans hw533_1), ((HB.out.cell (World.block_lt_of_cell? w _ hw536_0)).trans hw536_0), ((HB.out.cell (World.block_lt_of_cell? w _ hw536_1)).trans hw536_1)⟩ (fun hHeld => ?_)
             clear hK K
             refine norm_ (a' := ?_) ?_ ?_
             rotate_left
             ·show Act.put _ (some 33) _ = _
              simp only [Act.put, List.setIfInBounds_toArray, List.set_cons_zero, List.set_cons_succ, i64_w, i32_w]
              rfl
             refine two_ (i := 7) (j := 14) (Ni := some 39) (Nj := some 9) #[true, true, true, true, true, true, true, true, true, true, true, true, true, false, false, false] #[true, true, true, true, true, true, true, false, true, true, true, true, true, false, true, false] rfl rfl rfl rfl (two_of HT_.out (by kernel_rfl)) (by decide) (by decide) (fun K hK => ?_) (fun K hK => ?_)
             ·skip
              refine goes_ Try.func55 (by kernel_rfl) rfl #[.agg #[.int .i64 t531, .int .i64 t532], .int .i64 ((rd_T57 l1 x27_2).f0)] (by rfl) rfl rfl (by (try simp only [List.map_toArray, List.map_cons, List.map_nil]); first | done | rfl | (simp only [List.length_drop, List.length_take]; rfl)) ?_
              with_reducible refine (pivot_pair_int_with.calls t531 t532 ((rd_T57 l1 x27_2).f0) t534 t535 _ A19.out).mono ?_
              rintro e w27 ⟨rfl, hb⟩
              refine ⟨_, rfl, ?_⟩
              have n0_ := Aside0.mk (Kd.R_below (by (with_reducible repeat (first | apply Kd.R_alloc | apply Kd.R_drewN | apply Kd.R_drew)); exact HO_6.out) hb)
              have n1_ := Aside0.mk (blk_below (g := gb530) (o := .cells #[.int .i64 ((rd_T57 l0 x27_2).f0), .int .i64 ((rd_T57 l0 x27_2).f1)] 57 (0, 0)) (by (with_reducible repeat (first | refine blk_drewN ?_ _ | refine blk_drew ?_ | refine blk_alloc ?_ _)); exact BK530.out) hb)
              have n2_ := Aside0.mk (below_step (by repeat (first | (with_reducible first | exact HB.out | apply below_alloc | apply pw_below_drewN | apply below_drew1 | refine below_set ?_ GE530.out) | exact HB.out)) hb)
              clear HO_6
              clear BK530
              clear HB
              have HO_6 := n0_
              have BK530 := n1_
              have HB := n2_
              clear n0_ n1_ n2_
              (try clear hb)
              (try clear hb2)
              (try clear hk)
              (try clear hi)
              refine hK.out _ _ ⟨(blk_cell BK530.out 0).trans rfl, (blk_cell BK530.out 1).trans rfl, ((HB.out.cell (World.block_lt_of_cell? w _ hw533_0)).trans hw533_0), ((HB.out.cell (World.block_lt_of_cell? w _ hw533_1)).trans hw533_1), ((HB.out.cell (World.block_lt_of_cell? w _ hw536_0)).trans hw536_0), ((HB.out.cell (World.block_lt_of_cell? w _ hw536_1)).trans hw536_1)⟩ (fun hHeld => ?_)
              clear hK K
              refine norm_ (a' := ?_) ?_ ?_
              rotate_left
              ·show Act.put _ (some 39) _ = _
               simp only [Act.put, List.setIfInBounds_toArray, List.set_cons_zero, List.set_cons_succ, i64_w, i32_w]
               rfl
              refine two_ (i := 13) (j := 14) (Ni := some 45) (Nj := some 9) #[true, true, true, true, true, true, true, true, true, true, true, true, true, true, false, false] #[true, true, true, true, true, true, true, true, true, true, true, true, true, false, true, false] rfl rfl rfl rfl (two_of HT_.out (by kernel_rfl)) (by decide) (by decide) (fun K hK => ?_) (fun K hK => ?_)
              ·skip
               refine goes_ Try.func55 (by kernel_rfl) rfl #[.agg #[.int .i64 t534, .int .i64 t535], .int .i64 ((rd_T57 l1 x27_2).f1)] (by rfl) rfl rfl (by (try simp only [List.map_toArray, List.map_cons, List.map_nil]); first | done | rfl | (simp only [List.length_drop, List.length_take]; rfl)) ?_
               with_reducible refine (pivot_pair_int_with.calls t534 t535 ((rd_T57 l1 x27_2).f1) t537 t538 _ A20.out).mono ?_
               rintro e w28 ⟨rfl, hb⟩
               refine ⟨_, rfl, ?_⟩
               have n0_ := Aside0.mk (Kd.R_below (by (with_reducible repeat (first | apply Kd.R_alloc | apply Kd.R_drewN | apply Kd.R_drew)); exact HO_6.out) hb)
               have n1_ := Aside0.mk (blk_below (g := gb530) (o := .cells #[.int .i64 ((rd_T57 l0 x27_2).f0), .int .i64 ((rd_T57 l0 x27_2).f1)] 57 (0, 0)) (by (with_reducible repeat (first | refine blk_drewN ?_ _ | refine blk_drew ?_ | refine blk_alloc ?_ _)); exact BK530.out) hb)
               have n2_ := Aside0.mk (below_step (by repeat (first | (with_reducible first | exact HB.out | apply below_alloc | apply pw_below_drewN | apply below_drew1 | refine below_set ?_ GE530.out) | exact HB.out)) hb)
               clear HO_6
               clear BK530
               clear HB
               have HO_6 := n0_
               have BK530 := n1_
               have HB := n2_
               clear n0_ n1_ n2_
               (try clear hb)
               (try clear hb2)
               (try clear hk)
               (try clear hi)
               refine hK.out _ _ ⟨(blk_cell BK530.out 0).trans rfl, (blk_cell BK530.out 1).trans rfl, ((HB.out.cell (World.block_lt_of_cell? w _ hw533_0)).trans hw533_0), ((HB.out.cell (World.block_lt_of_cell? w _ hw533_1)).trans hw533_1), ((HB.out.cell (World.block_lt_of_cell? w _ hw536_0)).trans hw536_0), ((HB.out.cell (World.block_lt_of_cell? w _ hw536_1)).trans hw536_1)⟩ (fun hHeld => ?_)
               clear hK K
               refine norm_ (a' := ?_) ?_ ?_
               rotate_left
               ·show Act.put _ (some 45) _ = _
                simp only [Act.put, List.setIfInBounds_toArray, List.set_cons_zero, List.set_cons_succ, i64_w, i32_w]
                rfl
               refine one_ (i := 14) (N := some 9) #[true, true, true, true, true, true, true, true, true, true, true, true, true, true, true, false] rfl rfl (one_of HT_.out (by kernel_rfl)) (by decide) (fun K hK => ?_)
               refine box_step ?hg (N := 9) ?hd (cs := #[.int .i64 0, .int .i64 0]) (t := 88) ?hr ?_; (case hd => rfl); (case hg => rfl); (case hr => first | (go_simp; done) | (go_simp; rfl))
               intro gb539 hg w29 hbox hb
               have n0_ := Aside0.mk (Kd.R_below (by (with_reducible repeat (first | apply Kd.R_alloc | apply Kd.R_drewN | apply Kd.R_drew)); exact HO_6.out) hb)
               have n1_ := Aside0.mk (blk_below (g := gb530) (o := .cells #[.int .i64 ((rd_T57 l0 x27_2).f0), .int .i64 ((rd_T57 l0 x27_2).f1)] 57 (0, 0)) (by (with_reducible repeat (first | refine blk_drewN ?_ _ | refine blk_drew ?_ | refine blk_alloc ?_ _)); exact BK530.out) hb)
               have n2_ := Aside0.mk (below_step (by repeat (first | (with_reducible first | exact HB.out | apply below_alloc | apply pw_below_drewN | apply below_drew1 | refine below_set ?_ GE530.out) | exact HB.out)) hb)
               have n3_ := Aside0.mk (hbox)
               have n4_ := Aside0.mk ((by rw [hg]; exact (below_size (by repeat (first | (with_reducible first | exact HB.out | apply below_alloc | apply pw_below_drewN | apply below_drew1 | refine below_set ?_ GE530.out) | exact HB.out))) : w.heap.size ≤ gb539))
               have n5_ := Aside0.mk ((by rw [hg]; exact (below_size (by repeat (first | (with_reducible first | exact HB.out | apply below_alloc | apply pw_below_drewN | apply below_drew1 | refine below_set ?_ GE530.out) | exact HB.out))) : w.heap.size ≤ gb539))
               have n6_ := Aside0.mk ((by rw [hg]; exact Nat.ne_of_lt (blk_lt (g := gb530) (o := .cells #[.int .i64 ((rd_T57 l0 x27_2).f0), .int .i64 ((rd_T57 l0 x27_2).f1)] 57 (0, 0)) (by (with_reducible repeat (first | refine blk_drewN ?_ _ | refine blk_drew ?_ | refine blk_alloc ?_ _)); exact BK530.out)) : gb530 ≠ gb539))
               have n7_ := Aside0.mk ((by rw [hg]; exact Nat.ne_of_gt (blk_lt (g := gb530) (o := .cells #[.int .i64 ((rd_T57 l0 x27_2).f0), .int .i64 ((rd_T57 l0 x27_2).f1)] 57 (0, 0)) (by (with_reducible repeat (first | refine blk_drewN ?_ _ | refine blk_drew ?_ | refine blk_alloc ?_ _)); exact BK530.out)) : gb539 ≠ gb530))
               clear HO_6
               clear BK530
               clear HB
               have HO_6 := n0_
               have BK530 := n1_
               have HB := n2_
               have BK539 := n3_
               have GW539 := n4_
               have GE539 := n5_
               have NB530_539 := n6_
               have NB539_530 := n7_
               clear n0_ n1_ n2_ n3_ n4_ n5_ n6_ n7_
               clear hb hbox hg
               refine hK.out _ _ ⟨(blk_cell BK530.out 0).trans rfl, (blk_cell BK530.out 1).trans rfl, ((HB.out.cell (World.block_lt_of_cell? w _ hw533_0)).trans hw533_0), ((HB.out.cell (World.block_lt_of_cell? w _ hw533_1)).trans hw533_1), ((HB.out.cell (World.block_lt_of_cell? w _ hw536_0)).trans hw536_0), ((HB.out.cell (World.block_lt_of_cell? w _ hw536_1)).trans hw536_1)⟩ (fun hHeld => ?_)
               clear hK K
               refine norm_ (a' := ?_) ?_ ?_
               rotate_left
               ·show Act.put _ (some 9) _ = _
                simp only [Act.put, List.setIfInBounds_toArray, List.set_cons_zero, List.set_cons_succ, i64_w, i32_w]
                rfl
               exact norm_ (by simp only [putAll, Act.put, List.setIfInBounds_toArray, List.set_cons_zero, List.set_cons_succ]) (hCont (gb539) _ ⟨hHeld, (by (with_reducible repeat (first | apply Kd.R_alloc | apply Kd.R_drewN | apply Kd.R_drew)); exact HO_6.out), (by (with_reducible repeat (first | refine blk_drewN ?_ _ | refine blk_drew ?_ | refine blk_alloc ?_ _)); exact BK530.out), (by (with_reducible repeat (first | refine blk_drewN ?_ _ | refine blk_drew ?_ | refine blk_alloc ?_ _)); exact BK539.out), GW539.out, GE539.out, NB530_539.out, NB539_530.out, (by repeat (first | (with_reducible first | exact HB.out | apply below_alloc | apply pw_below_drewN | apply below_drew1 | refine below_set ?_ GE530.out | refine below_set ?_ GE539.out) | exact HB.out))⟩)
              ·skip
               refine box_step ?hg (N := 9) ?hd (cs := #[.int .i64 0, .int .i64 0]) (t := 88) ?hr ?_; (case hd => rfl); (case hg => rfl); (case hr => first | (go_simp; done) | (go_simp; rfl))
               intro gb539 hg w28 hbox hb
               have n0_ := Aside0.mk (Kd.R_below (by (with_reducible repeat (first | apply Kd.R_alloc | apply Kd.R_drewN | apply Kd.R_drew)); exact HO_6.out) hb)
               have n1_ := Aside0.mk (blk_below (g := gb530) (o := .cells #[.int .i64 ((rd_T57 l0 x27_2).f0), .int .i64 ((rd_T57 l0 x27_2).f1)] 57 (0, 0)) (by (with_reducible repeat (first | refine blk_drewN ?_ _ | refine blk_drew ?_ | refine blk_alloc ?_ _)); exact BK530.out) hb)
               have n2_ := Aside0.mk (below_step (by repeat (first | (with_reducible first | exact HB.out | apply below_alloc | apply pw_below_drewN | apply below_drew1 | refine below_set ?_ GE530.out) | exact HB.out)) hb)
               have n3_ := Aside0.mk (hbox)
               have n4_ := Aside0.mk ((by rw [hg]; exact (below_size (by repeat (first | (with_reducible first | exact HB.out | apply below_alloc | apply pw_below_drewN | apply below_drew1 | refine below_set ?_ GE530.out) | exact HB.out))) : w.heap.size ≤ gb539))
               have n5_ := Aside0.mk ((by rw [hg]; exact (below_size (by repeat (first | (with_reducible first | exact HB.out | apply below_alloc | apply pw_below_drewN | apply below_drew1 | refine below_set ?_ GE530.out) | exact HB.out))) : w.heap.size ≤ gb539))
               have n6_ := Aside0.mk ((by rw [hg]; exact Nat.ne_of_lt (blk_lt (g := gb530) (o := .cells #[.int .i64 ((rd_T57 l0 x27_2).f0), .int .i64 ((rd_T57 l0 x27_2).f1)] 57 (0, 0)) (by (with_reducible repeat (first | refine blk_drewN ?_ _ | refine blk_drew ?_ | refine blk_alloc ?_ _)); exact BK530.out)) : gb530 ≠ gb539))
               have n7_ := Aside0.mk ((by rw [hg]; exact Nat.ne_of_gt (blk_lt (g := gb530) (o := .cells #[.int .i64 ((rd_T57 l0 x27_2).f0), .int .i64 ((rd_T57 l0 x27_2).f1)] 57 (0, 0)) (by (with_reducible repeat (first | refine blk_drewN ?_ _ | refine blk_drew ?_ | refine blk_alloc ?_ _)); exact BK530.out)) : gb539 ≠ gb530))
               clear HO_6
               clear BK530
               clear HB
               have HO_6 := n0_
               have BK530 := n1_
               have HB := n2_
               have BK539 := n3_
               have GW539 := n4_
               have GE539 := n5_
               have NB530_539 := n6_
               have NB539_530 := n7_
               clear n0_ n1_ n2_ n3_ n4_ n5_ n6_ n7_
               clear hb hbox hg
               refine hK.out _ _ ⟨(blk_cell BK530.out 0).trans rfl, (blk_cell BK530.out 1).trans rfl, ((HB.out.cell (World.block_lt_of_cell? w _ hw533_0)).trans hw533_0), ((HB.out.cell (World.block_lt_of_cell? w _ hw533_1)).trans hw533_1), ((HB.out.cell (World.block_lt_of_cell? w _ hw536_0)).trans hw536_0), ((HB.out.cell (World.block_lt_of_cell? w _ hw536_1)).trans hw536_1)⟩ (fun hHeld => ?_)
               clear hK K
               refine norm_ (a' := ?_) ?_ ?_
               rotate_left
               ·show Act.put _ (some 9) _ = _
                simp only [Act.put, List.setIfInBounds_toArray, List.set_cons_zero, List.set_cons_succ, i64_w, i32_w]
                rfl
               refine one_ (i := 13) (N := some 45) #[true, true, true, true, true, true, true, true, true, true, true, true, true, true, true, false] rfl rfl (one_of HT_.out (by kernel_rfl)) (by decide) (fun K hK => ?_)
               refine goes_ Try.func55 (by kernel_rfl) rfl #[.agg #[.int .i64 t534, .int .i64 t535], .int .i64 ((rd_T57 l1 x27_2).f1)] (by rfl) rfl rfl (by (try simp only [List.map_toArray, List.map_cons, List.map_nil]); first | done | rfl | (simp only [List.length_drop, List.length_take]; rfl)) ?_
               with_reducible refine (pivot_pair_int_with.calls t534 t535 ((rd_T57 l1 x27_2).f1) t537 t538 _ A20.out).mono ?_
               rintro e w29 ⟨rfl, hb⟩
               refine ⟨_, rfl, ?_⟩
               have n0_ := Aside0.mk (Kd.R_below (by (with_reducible repeat (first | apply Kd.R_alloc | apply Kd.R_drewN | apply Kd.R_drew)); exact HO_6.out) hb)
               have n1_ := Aside0.mk (blk_below (g := gb530) (o := .cells #[.int .i64 ((rd_T57 l0 x27_2).f0), .int .i64 ((rd_T57 l0 x27_2).f1)] 57 (0, 0)) (by (with_reducible repeat (first | refine blk_drewN ?_ _ | refine blk_drew ?_ | refine blk_alloc ?_ _)); exact BK530.out) hb)
               have n2_ := Aside0.mk (blk_below (g := gb539) (o := .cells #[.int .i64 0, .int .i64 0] 88 (0, 0)) (by (with_reducible repeat (first | refine blk_drewN ?_ _ | refine blk_drew ?_ | refine blk_alloc ?_ _)); exact BK539.out) hb)
               have n3_ := Aside0.mk (below_step (by repeat (first | (with_reducible first | exact HB.out | apply below_alloc | apply pw_below_drewN | apply below_drew1 | refine below_set ?_ GE530.out | refine below_set ?_ GE539.out) | exact HB.out)) hb)
               clear HO_6
               clear BK530
               clear BK539
               clear HB
               have HO_6 := n0_
               have BK530 := n1_
               have BK539 := n2_
               have HB := n3_
               clear n0_ n1_ n2_ n3_
               (try clear hb)
               (try clear hb2)
               (try clear hk)
               (try clear hi)
               refine hK.out _ _ ⟨(blk_cell BK530.out 0).trans rfl, (blk_cell BK530.out 1).trans rfl, ((HB.out.cell (World.block_lt_of_cell? w _ hw533_0)).trans hw533_0), ((HB.out.cell (World.block_lt_of_cell? w _ hw533_1)).trans hw533_1), ((HB.out.cell (World.block_lt_of_cell? w _ hw536_0)).trans hw536_0), ((HB.out.cell (World.block_lt_of_cell? w _ hw536_1)).trans hw536_1)⟩ (fun hHeld => ?_)
               clear hK K
               refine norm_ (a' := ?_) ?_ ?_
               rotate_left
               ·show Act.put _ (some 45) _ = _
                simp only [Act.put, List.setIfInBounds_toArray, List.set_cons_zero, List.set_cons_succ, i64_w, i32_w]
                rfl
               exact norm_ (by simp only [putAll, Act.put, List.setIfInBounds_toArray, List.set_cons_zero, List.set_cons_succ]) (hCont (gb539) _ ⟨hHeld, (by (with_reducible repeat (first | apply Kd.R_alloc | apply Kd.R_drewN | apply Kd.R_drew)); exact HO_6.out), (by (with_reducible repeat (first | refine blk_drewN ?_ _ | refine blk_drew ?_ | refine blk_alloc ?_ _)); exact BK530.out), (by (with_reducible repeat (first | refine blk_drewN ?_ _ | refine blk_drew ?_ | refine blk_alloc ?_ _)); exact BK539.out), GW539.out, GE539.out, NB530_539.out, NB539_530.out, (by repeat (first | (with_reducible first | exact HB.out | apply below_alloc | apply pw_below_drewN | apply below_drew1 | refine below_set ?_ GE530.out | refine below_set ?_ GE539.out) | exact HB.out))⟩)
             ·skip
              refine box_step ?hg (N := 9) ?hd (cs := #[.int .i64 0, .int .i64 0]) (t := 88) ?hr ?_; (case hd => rfl); (case hg => rfl); (case hr => first | (go_simp; done) | (go_simp; rfl))
              intro gb539 hg w27 hbox hb
              have n0_ := Aside0.mk (Kd.R_below (by (with_reducible repeat (first | apply Kd.R_alloc | apply Kd.R_drewN | apply Kd.R_drew)); exact HO_6.out) hb)
              have n1_ := Aside0.mk (blk_below (g := gb530) (o := .cells #[.int .i64 ((rd_T57 l0 x27_2).f0), .int .i64 ((rd_T57 l0 x27_2).f1)] 57 (0, 0)) (by (with_reducible repeat (first | refine blk_drewN ?_ _ | refine blk_drew ?_ | refine blk_alloc ?_ _)); exact BK530.out) hb)
              have n2_ := Aside0.mk (below_step (by repeat (first | (with_reducible first | exact HB.out | apply below_alloc | apply pw_below_drewN | apply below_drew1 | refine below_set ?_ GE530.out) | exact HB.out)) hb)
              have n3_ := Aside0.mk (hbox)
              have n4_ := Aside0.mk ((by rw [hg]; exact (below_size (by repeat (first | (with_reducible first | exact HB.out | apply below_alloc | apply pw_below_drewN | apply below_drew1 | refine below_set ?_ GE530.out) | exact HB.out))) : w.heap.size ≤ gb539))
              have n5_ := Aside0.mk ((by rw [hg]; exact (below_size (by repeat (first | (with_reducible first | exact HB.out | apply below_alloc | apply pw_below_drewN | apply below_drew1 | refine below_set ?_ GE530.out) | exact HB.out))) : w.heap.size ≤ gb539))
              have n6_ := Aside0.mk ((by rw [hg]; exact Nat.ne_of_lt (blk_lt (g := gb530) (o := .cells #[.int .i64 ((rd_T57 l0 x27_2).f0), .int .i64 ((rd_T57 l0 x27_2).f1)] 57 (0, 0)) (by (with_reducible repeat (first | refine blk_drewN ?_ _ | refine blk_drew ?_ | refine blk_alloc ?_ _)); exact BK530.out)) : gb530 ≠ gb539))
              have n7_ := Aside0.mk ((by rw [hg]; exact Nat.ne_of_gt (blk_lt (g := gb530) (o := .cells #[.int .i64 ((rd_T57 l0 x27_2).f0), .int .i64 ((rd_T57 l0 x27_2).f1)] 57 (0, 0)) (by (with_reducible repeat (first | refine blk_drewN ?_ _ | refine blk_drew ?_ | refine blk_alloc ?_ _)); exact BK530.out)) : gb539 ≠ gb530))
              clear HO_6
              clear BK530
              clear HB
              have HO_6 := n0_
              have BK530 := n1_
              have HB := n2_
              have BK539 := n3_
              have GW539 := n4_
              have GE539 := n5_
              have NB530_539 := n6_
              have NB539_530 := n7_
              clear n0_ n1_ n2_ n3_ n4_ n5_ n6_ n7_
              clear hb hbox hg
              refine hK.out _ _ ⟨(blk_cell BK530.out 0).trans rfl, (blk_cell BK530.out 1).trans rfl, ((HB.out.cell (World.block_lt_of_cell? w _ hw533_0)).trans hw533_0), ((HB.out.cell (World.block_lt_of_cell? w _ hw533_1)).trans hw533_1), ((HB.out.cell (World.block_lt_of_cell? w _ hw536_0)).trans hw536_0), ((HB.out.cell (World.block_lt_of_cell? w _ hw536_1)).trans hw536_1)⟩ (fun hHeld => ?_)
              clear hK K
              refine norm_ (a' := ?_) ?_ ?_
              rotate_left
              ·show Act.put _ (some 9) _ = _
               simp only [Act.put, List.setIfInBounds_toArray, List.set_cons_zero, List.set_cons_succ, i64_w, i32_w]
               rfl
              refine one_ (i := 7) (N := some 39) #[true, true, true, true, true, true, true, true, true, true, true, true, true, false, true, false] rfl rfl (one_of HT_.out (by kernel_rfl)) (by decide) (fun K hK => ?_)
              refine goes_ Try.func55 (by kernel_rfl) rfl #[.agg #[.int .i64 t531, .int .i64 t532], .int .i64 ((rd_T57 l1 x27_2).f0)] (by rfl) rfl rfl (by (try simp only [List.map_toArray, List.map_cons, List.map_nil]); first | done | rfl | (simp only [List.length_drop, List.length_take]; rfl)) ?_
              with_reducible refine (pivot_pair_int_with.calls t531 t532 ((rd_T57 l1 x27_2).f0) t534 t535 _ A19.out).mono ?_
              rintro e w28 ⟨rfl, hb⟩
              refine ⟨_, rfl, ?_⟩
              have n0_ := Aside0.mk (Kd.R_below (by (with_reducible repeat (first | apply Kd.R_alloc | apply Kd.R_drewN | apply Kd.R_drew)); exact HO_6.out) hb)
              have n1_ := Aside0.mk (blk_below (g := gb530) (o := .cells #[.int .i64 ((rd_T57 l0 x27_2).f0), .int .i64 ((rd_T57 l0 x27_2).f1)] 57 (0, 0)) (by (with_reducible repeat (first | refine blk_drewN ?_ _ | refine blk_drew ?_ | refine blk_alloc ?_ _)); exact BK530.out) hb)
              have n2_ := Aside0.mk (blk_below (g := gb539) (o := .cells #[.int .i64 0, .int .i64 0] 88 (0, 0)) (by (with_reducible repeat (first | refine blk_drewN ?_ _ | refine blk_drew ?_ | refine blk_alloc ?_ _)); exact BK539.out) hb)
              have n3_ := Aside0.mk (below_step (by repeat (first | (with_reducible first | exact HB.out | apply below_alloc | apply pw_below_drewN | apply below_drew1 | refine below_set ?_ GE530.out | refine below_set ?_ GE539.out) | exact HB.out)) hb)
              clear HO_6
              clear BK530
              clear BK539
              clear HB
              have HO_6 := n0_
              have BK530 := n1_
              have BK539 := n2_
              have HB := n3_
              clear n0_ n1_ n2_ n3_
              (try clear hb)
              (try clear hb2)
              (try clear hk)
              (try clear hi)
              refine hK.out _ _ ⟨(blk_cell BK530.out 0).trans rfl, (blk_cell BK530.out 1).trans rfl, ((HB.out.cell (World.block_lt_of_cell? w _ hw533_0)).trans hw533_0), ((HB.out.cell (World.block_lt_of_cell? w _ hw533_1)).trans hw533_1), ((HB.out.cell (World.block_lt_of_cell? w _ hw536_0)).trans hw536_0), ((HB.out.cell (World.block_lt_of_cell? w _ hw536_1)).trans hw536_1)⟩ (fun hHeld => ?_)
              clear hK K
              refine norm_ (a' := ?_) ?_ ?_
              rotate_left
              ·show Act.put _ (some 39) _ = _
               simp only [Act.put, List.setIfInBounds_toArray, List.set_cons_zero, List.set_cons_succ, i64_w, i32_w]
               rfl
              refine one_ (i := 13) (N := some 45) #[true, true, true, true, true, true, true, true, true, true, true, true, true, true, true, false] rfl rfl (one_of HT_.out (by kernel_rfl)) (by decide) (fun K hK => ?_)
              refine goes_ Try.func55 (by kernel_rfl) rfl #[.agg #[.int .i64 t534, .int .i64 t535], .int .i64 ((rd_T57 l1 x27_2).f1)] (by rfl) rfl rfl (by (try simp only [List.map_toArray, List.map_cons, List.map_nil]); first | done | rfl | (simp only [List.length_drop, List.length_take]; rfl)) ?_
              with_reducible refine (pivot_pair_int_with.calls t534 t535 ((rd_T57 l1 x27_2).f1) t537 t538 _ A20.out).mono ?_
              rintro e w29 ⟨rfl, hb⟩
              refine ⟨_, rfl, ?_⟩
              have n0_ := Aside0.mk (Kd.R_below (by (with_reducible repeat (first | apply Kd.R_alloc | apply Kd.R_drewN | apply Kd.R_drew)); exact HO_6.out) hb)
              have n1_ := Aside0.mk (blk_below (g := gb530) (o := .cells #[.int .i64 ((rd_T57 l0 x27_2).f0), .int .i64 ((rd_T57 l0 x27_2).f1)] 57 (0, 0)) (by (with_reducible repeat (first | refine blk_drewN ?_ _ | refine blk_drew ?_ | refine blk_alloc ?_ _)); exact BK530.out) hb)
              have n2_ := Aside0.mk (blk_below (g := gb539) (o := .cells #[.int .i64 0, .int .i64 0] 88 (0, 0)) (by (with_reducible repeat (first | refine blk_drewN ?_ _ | refine blk_drew ?_ | refine blk_alloc ?_ _)); exact BK539.out) hb)
              have n3_ := Aside0.mk (below_step (by repeat (first | (with_reducible first | exact HB.out | apply below_alloc | apply pw_below_drewN | apply below_drew1 | refine below_set ?_ GE530.out | refine below_set ?_ GE539.out) | exact HB.out)) hb)
              clear HO_6
              clear BK530
              clear BK539
              clear HB
              have HO_6 := n0_
              have BK530 := n1_
              have BK539 := n2_
              have HB := n3_
              clear n0_ n1_ n2_ n3_
              (try clear hb)
              (try clear hb2)
              (try clear hk)
              (try clear hi)
              refine hK.out _ _ ⟨(blk_cell BK530.out 0).trans rfl, (blk_cell BK530.out 1).trans rfl, ((HB.out.cell (World.block_lt_of_cell? w _ hw533_0)).trans hw533_0), ((HB.out.cell (World.block_lt_of_cell? w _ hw533_1)).trans hw533_1), ((HB.out.cell (World.block_lt_of_cell? w _ hw536_0)).trans hw536_0), ((HB.out.cell (World.block_lt_of_cell? w _ hw536_1)).trans hw536_1)⟩ (fun hHeld => ?_)
              clear hK K
              refine norm_ (a' := ?_) ?_ ?_
              rotate_left
              ·show Act.put _ (some 45) _ = _
               simp only [Act.put, List.setIfInBounds_toArray, List.set_cons_zero, List.set_cons_succ, i64_w, i32_w]
               rfl
              exact norm_ (by simp only [putAll, Act.put, List.setIfInBounds_toArray, List.set_cons_zero, List.set_cons_succ]) (hCont (gb539) _ ⟨hHeld, (by (with_reducible repeat (first | apply Kd.R_alloc | apply Kd.R_drewN | apply Kd.R_drew)); exact HO_6.out), (by (with_reducible repeat (first | refine blk_drewN ?_ _ | refine blk_drew ?_ | refine blk_alloc ?_ _)); exact BK530.out), (by (with_reducible repeat (first | refine blk_drewN ?_ _ | refine blk_drew ?_ | refine blk_alloc ?_ _)); exact BK539.out), GW539.out, GE539.out, NB530_539.out, NB539_530.out, (by repeat (first | (with_reducible first | exact HB.out | apply below_alloc | apply pw_below_drewN | apply below_drew1 | refine below_set ?_ GE530.out | refine below_set ?_ GE539.out) | exact HB.out))⟩)
            ·skip
             refine box_step ?hg (N := 9) ?hd (cs := #[.int .i64 0, .int .i64 0]) (t := 88) ?hr ?_; (case hd => rfl); (case hg => rfl); (case hr => first | (go_simp; done) | (go_simp; rfl))
             intro gb539 hg w26 hbox hb
             have n0_ := Aside0.mk (Kd.R_below (by (with_reducible repeat (first | apply Kd.R_alloc | apply Kd.R_drewN | apply Kd.R_drew)); exact HO_6.out) hb)
             have n1_ := Aside0.mk (blk_below (g := gb530) (o := .cells #[.int .i64 ((rd_T57 l0 x27_2).f0), .int .i64 ((rd_T57 l0 x27_2).f1)] 57 (0, 0)) (by (with_reducible repeat (first | refine blk_drewN ?_ _ | refine blk_drew ?_ | refine blk_alloc ?_ _)); exact BK530.out) hb)
             have n2_ := Aside0.mk (below_step (by repeat (first | (with_reducible first | exact HB.out | apply below_alloc | apply pw_below_drewN | apply below_drew1 | refine below_set ?_ GE530.out) | exact HB.out)) hb)
             have n3_ := Aside0.mk (hbox)
             have n4_ := Aside0.mk ((by rw [hg]; exact (below_size (by repeat (first | (with_reducible first | exact HB.out | apply below_alloc | apply pw_below_drewN | apply below_drew1 | refine below_set ?_ GE530.out) | exact HB.out))) : w.heap.size ≤ gb539))
             have n5_ := Aside0.mk ((by rw [hg]; exact (below_size (by repeat (first | (with_reducible first | exact HB.out | apply below_alloc | apply pw_below_drewN | apply below_drew1 | refine below_set ?_ GE530.out) | exact HB.out))) : w.heap.size ≤ gb539))
             have n6_ := Aside0.mk ((by rw [hg]; exact Nat.ne_of_lt (blk_lt (g := gb530) (o := .cells #[.int .i64 ((rd_T57 l0 x27_2).f0), .int .i64 ((rd_T57 l0 x27_2).f1)] 57 (0, 0)) (by (with_reducible repeat (first | refine blk_drewN ?_ _ | refine blk_drew ?_ | refine blk_alloc ?_ _)); exact BK530.out)) : gb530 ≠ gb539))
             have n7_ := Aside0.mk ((by rw [hg]; exact Nat.ne_of_gt (blk_lt (g := gb530) (o := .cells #[.int .i64 ((rd_T57 l0 x27_2).f0), .int .i64 ((rd_T57 l0 x27_2).f1)] 57 (0, 0)) (by (with_reducible repeat (first | refine blk_drewN ?_ _ | refine blk_drew ?_ | refine blk_alloc ?_ _)); exact BK530.out)) : gb539 ≠ gb530))
             clear HO_6
             clear BK530
             clear HB
             have HO_6 := n0_
             have BK530 := n1_
             have HB := n2_
             have BK539 := n3_
             have GW539 := n4_
             have GE539 := n5_
             have NB530_539 := n6_
             have NB539_530 := n7_
             clear n0_ n1_ n2_ n3_ n4_ n5_ n6_ n7_
             clear hb hbox hg
             refine hK.out _ _ ⟨(blk_cell BK530.out 0).trans rfl, (blk_cell BK530.out 1).trans rfl, ((HB.out.cell (World.block_lt_of_cell? w _ hw533_0)).trans hw533_0), ((HB.out.cell (World.block_lt_of_cell? w _ hw533_1)).trans hw533_1), ((HB.out.cell (World.block_lt_of_cell? w _ hw536_0)).trans hw536_0), ((HB.out.cell (World.block_lt_of_cell? w _ hw536_1)).trans hw536_1)⟩ (fun hHeld => ?_)
             clear hK K
             refine norm_ (a' := ?_) ?_ ?_
             rotate_left
             ·show Act.put _ (some 9) _ = _
              simp only [Act.put, List.setIfInBounds_toArray, List.set_cons_zero, List.set_cons_succ, i64_w, i32_w]
              rfl
             refine one_ (i := 1) (N := some 33) #[true, true, true, true, true, true, true, false, true, true, true, true, true, false, true, false] rfl rfl (one_of HT_.out (by kernel_rfl)) (by decide) (fun K hK => ?_)
             refine goes_ Try.func65 (by kernel_rfl) rfl #[.agg #[.int .i64 ((rd_T57 l0 x27_2).f0), .int .i64 ((rd_T57 l0 x27_2).f1)]] (by rfl) rfl rfl (by (try simp only [List.map_toArray, List.map_cons, List.map_nil]); first | done | rfl | (simp only [List.length_drop, List.length_take]; rfl)) ?_
             with_reducible refine (pivot_of.calls ((rd_T57 l0 x27_2).f0) ((rd_T57 l0 x27_2).f1) t531 t532 _ A17.out).mono ?_
             rintro e w27 ⟨rfl, hb⟩
             refine ⟨_, rfl, ?_⟩
             have n0_ := Aside0.mk (Kd.R_below (by (with_reducible repeat (first | apply Kd.R_alloc | apply Kd.R_drewN | apply Kd.R_drew)); exact HO_6.out) hb)
             have n1_ := Aside0.mk (blk_below (g := gb530) (o := .cells #[.int .i64 ((rd_T57 l0 x27_2).f0), .int .i64 ((rd_T57 l0 x27_2).f1)] 57 (0, 0)) (by (with_reducible repeat (first | refine blk_drewN ?_ _ | refine blk_drew ?_ | refine blk_alloc ?_ _)); exact BK530.out) hb)
             have n2_ := Aside0.mk (blk_below (g := gb539) (o := .cells #[.int .i64 0, .int .i64 0] 88 (0, 0)) (by (with_reducible repeat (first | refine blk_drewN ?_ _ | refine blk_drew ?_ | refine blk_alloc ?_ _)); exact BK539.out) hb)
             have n3_ := Aside0.mk (below_step (by repeat (first | (with_reducible first | exact HB.out | apply below_alloc | apply pw_below_drewN | apply below_drew1 | refine below_set ?_ GE530.out | refine below_set ?_ GE539.out) | exact HB.out)) hb)
             clear HO_6
             clear BK530
             clear BK539
             clear HB
             have HO_6 := n0_
             have BK530 := n1_
             have BK539 := n2_
             have HB := n3_
             clear n0_ n1_ n2_ n3_
             (try clear hb)
             (try clear hb2)
             (try clear hk)
             (try clear hi)
             refine hK.out _ _ ⟨(blk_cell BK530.out 0).trans rfl, (blk_cell BK530.out 1).trans rfl, ((HB.out.cell (World.block_lt_of_cell? w _ hw533_0)).trans hw533_0), ((HB.out.cell (World.block_lt_of_cell? w _ hw533_1)).trans hw533_1), ((HB.out.cell (World.block_lt_of_cell? w _ hw536_0)).trans hw536_0), ((HB.out.cell (World.block_lt_of_cell? w _ hw536_1)).trans hw536_1)⟩ (fun hHeld => ?_)
             clear hK K
             refine norm_ (a' := ?_) ?_ ?_
             rotate_left
             ·show Act.put _ (some 33) _ = _
              simp only [Act.put, List.setIfInBounds_toArray, List.set_cons_zero, List.set_cons_succ, i64_w, i32_w]
              rfl
             refine one_ (i := 7) (N := some 39) #[true, true, true, true, true, true, true, true, true, true, true, true, true, false, true, false] rfl rfl (one_of HT_.out (by kernel_rfl)) (by decide) (fun K hK => ?_)
             refine goes_ Try.func55 (by kernel_rfl) rfl #[.agg #[.int .i64 t531, .int .i64 t532], .int .i64 ((rd_T57 l1 x27_2).f0)] (by rfl) rfl rfl (by (try simp only [List.map_toArray, List.map_cons, List.map_nil]); first | done | rfl | (simp only [List.length_drop, List.length_take]; rfl)) ?_
             with_reducible refine (pivot_pair_int_with.calls t531 t532 ((rd_T57 l1 x27_2).f0) t534 t535 _ A19.out).mono ?_
             rintro e w28 ⟨rfl, hb⟩
             refine ⟨_, rfl, ?_⟩
             have n0_ := Aside0.mk (Kd.R_below (by (with_reducible repeat (first | apply Kd.R_alloc | apply Kd.R_drewN | apply Kd.R_drew)); exact HO_6.out) hb)
             have n1_ := Aside0.mk (blk_below (g := gb530) (o := .cells #[.int .i64 ((rd_T57 l0 x27_2).f0), .int .i64 ((rd_T57 l0 x27_2).f1)] 57 (0, 0)) (by (with_reducible repeat (first | refine blk_drewN ?_ _ | refine blk_drew ?_ | refine blk_alloc ?_ _)); exact BK530.out) hb)
             have n2_ := Aside0.mk (blk_below (g := gb539) (o := .cells #[.int .i64 0, .int .i64 0] 88 (0, 0)) (by (with_reducible repeat (first | refine blk_drewN ?_ _ | refine blk_drew ?_ | refine blk_alloc ?_ _)); exact BK539.out) hb)
             have n3_ := Aside0.mk (below_step (by repeat (first | (with_reducible first | exact HB.out | apply below_alloc | apply pw_below_drewN | apply below_drew1 | refine below_set ?_ GE530.out | refine below_set ?_ GE539.out) | exact HB.out)) hb)
             clear HO_6
             clear BK530
             clear BK539
             clear HB
             have HO_6 := n0_
             have BK530 := n1_
             have BK539 := n2_
             have HB := n3_
             clear n0_ n1_ n2_ n3_
             (try clear hb)
             (try clear hb2)
             (try clear hk)
             (try clear hi)
             refine hK.out _ _ ⟨(blk_cell BK530.out 0).trans rfl, (blk_cell BK530.out 1).trans rfl, ((HB.out.cell (World.block_lt_of_cell? w _ hw533_0)).trans hw533_0), ((HB.out.cell (World.block_lt_of_cell? w _ hw533_1)).trans hw533_1), ((HB.out.cell (World.block_lt_of_cell? w _ hw536_0)).trans hw536_0), ((HB.out.cell (World.block_lt_of_cell? w _ hw536_1)).trans hw536_1)⟩ (fun hHeld => ?_)
             clear hK K
             refine norm_ (a' := ?_) ?_ ?_
             rotate_left
             ·show Act.put _ (some 39) _ = _
              simp only [Act.put, List.setIfInBounds_toArray, List.set_cons_zero, List.set_cons_succ, i64_w, i32_w]
              rfl
             refine one_ (i := 13) (N := some 45) #[true, true, true, true, true, true, true, true, true, true, true, true, true, true, true, false] rfl rfl (one_of HT_.out (by kernel_rfl)) (by decide) (fun K hK => ?_)
             refine goes_ Try.func55 (by kernel_rfl) rfl #[.agg #[.int .i64 t534, .int .i64 t535], .int .i64 ((rd_T57 l1 x27_2).f1)] (by rfl) rfl rfl (by (try simp only [List.map_toArray, List.map_cons, List.map_nil]); first | done | rfl | (simp only [List.length_drop, List.length_take]; rfl)) ?_
             with_reducible refine (pivot_pair_int_with.calls t534 t535 ((rd_T57 l1 x27_2).f1) t537 t538 _ A20.out).mono ?_
             rintro e w29 ⟨rfl, hb⟩
             refine ⟨_, rfl, ?_⟩
             have n0_ := Aside0.mk (Kd.R_below (by (with_reducible repeat (first | apply Kd.R_alloc | apply Kd.R_drewN | apply Kd.R_drew)); exact HO_6.out) hb)
             have n1_ := Aside0.mk (blk_below (g := gb530) (o := .cells #[.int .i64 ((rd_T57 l0 x27_2).f0), .int .i64 ((rd_T57 l0 x27_2).f1)] 57 (0, 0)) (by (with_reducible repeat (first | refine blk_drewN ?_ _ | refine blk_drew ?_ | refine blk_alloc ?_ _)); exact BK530.out) hb)
             have n2_ := Aside0.mk (blk_below (g := gb539) (o := .cells #[.int .i64 0, .int .i64 0] 88 (0, 0)) (by (with_reducible repeat (first | refine blk_drewN ?_ _ | refine blk_drew ?_ | refine blk_alloc ?_ _)); exact BK539.out) hb)
             have n3_ := Aside0.mk (below_step (by repeat (first | (with_reducible first | exact HB.out | apply below_alloc | apply pw_below_drewN | apply below_drew1 | refine below_set ?_ GE530.out | refine below_set ?_ GE539.out) | exact HB.out)) hb)
             clear HO_6
             clear BK530
             clear BK539
             clear HB
             have HO_6 := n0_
             have BK530 := n1_
             have BK539 := n2_
             have HB := n3_
             clear n0_ n1_ n2_ n3_
             (try clear hb)
             (try clear hb2)
             (try clear hk)
             (try clear hi)
             refine hK.out _ _ ⟨(blk_cell BK530.out 0).trans rfl, (blk_cell BK530.out 1).trans rfl, ((HB.out.cell (World.block_lt_of_cell? w _ hw533_0)).trans hw533_0), ((HB.out.cell (World.block_lt_of_cell? w _ hw533_1)).trans hw533_1), ((HB.out.cell (World.block_lt_of_cell? w _ hw536_0)).trans hw536_0), ((HB.out.cell (World.block_lt_of_cell? w _ hw536_1)).trans hw536_1)⟩ (fun hHeld => ?_)
             clear hK K
             refine norm_ (a' := ?_) ?_ ?_
             rotate_left
             ·show Act.put _ (some 45) _ = _
              simp only [Act.put, List.setIfInBounds_toArray, List.set_cons_zero, List.set_cons_succ, i64_w, i32_w]
              rfl
             exact norm_ (by simp only [putAll, Act.put, List.setIfInBounds_toArray, List.set_cons_zero, List.set_cons_succ]) (hCont (gb539) _ ⟨hHeld, (by (with_reducible repeat (first | apply Kd.R_alloc | apply Kd.R_drewN | apply Kd.R_drew)); exact HO_6.out), (by (with_reducible repeat (first | refine blk_drewN ?_ _ | refine blk_drew ?_ | refine blk_alloc ?_ _)); exact BK530.out), (by (with_reducible repeat (first | refine blk_drewN ?_ _ | refine blk_drew ?_ | refine blk_alloc ?_ _)); exact BK539.out), GW539.out, GE539.out, NB530_539.out, NB539_530.out, (by repeat (first | (with_reducible first | exact HB.out | apply below_alloc | apply pw_below_drewN | apply below_drew1 | refine below_set ?_ GE530.out | refine below_set ?_ GE539.out) | exact HB.out))⟩)
           rintro gb539 w30 ⟨hS_, h0_, h1_, h2_, h3_, h4_, h5_, h6_, h7_⟩
           have n0_ : Aside0 (Kd.R k57 57 w30 w.heap.size (fun k_ => k_ ≠ gb530) u6 x6_2) := ⟨h0_⟩
           have n1_ : Aside0 (w30.heap[gb530]? = some (.cells #[.int .i64 ((rd_T57 l0 x27_2).f0), .int .i64 ((rd_T57 l0 x27_2).f1)] 57 (0, 0))) := ⟨h1_⟩
           have n2_ : Aside0 (w30.heap[gb539]? = some (.cells #[.int .i64 0, .int .i64 0] 88 (0, 0))) := ⟨h2_⟩
           have n3_ : Aside0 (w.heap.size ≤ gb539) := ⟨h3_⟩
           have n4_ : Aside0 (w.heap.size ≤ gb539) := ⟨h4_⟩
           have n5_ : Aside0 (gb530 ≠ gb539) := ⟨h5_⟩
           have n6_ : Aside0 (gb539 ≠ gb530) := ⟨h6_⟩
           have n7_ : Aside0 (Below w.heap.size w w30) := ⟨h7_⟩
           clear HO_6
           clear BK530
           clear HB
           clear h0_ h1_ h2_ h3_ h4_ h5_ h6_ h7_
           have HO_6 := n0_
           have BK530 := n1_
           have BK539 := n2_
           have GW539 := n3_
           have GE539 := n4_
           have NB530_539 := n5_
           have NB539_530 := n6_
           have HB := n7_
           clear n0_ n1_ n2_ n3_ n4_ n5_ n6_ n7_
           have hHeld : w30.cell? ⟨gb530, 0, none⟩ = some (.int .i64 ((rd_T57 l0 x27_2).f0)) ∧ w30.cell? ⟨gb530, 1, none⟩ = some (.int .i64 ((rd_T57 l0 x27_2).f1)) ∧ w30.cell? (ad533.add ((x27_2).toNat * 2)) = some (.int .i64 ((rd_T57 l1 x27_2).f0)) ∧ w30.cell? ⟨(ad533.add ((x27_2).toNat * 2)).block, (ad533.add ((x27_2).toNat * 2)).off + 1, none⟩ = some (.int .i64 ((rd_T57 l1 x27_2).f1)) ∧ w30.cell? (ad533.add ((x27_2).toNat * 2)) = some (.int .i64 ((rd_T57 l1 x27_2).f0)) ∧ w30.cell? ⟨(ad533.add ((x27_2).toNat * 2)).block, (ad533.add ((x27_2).toNat * 2)).off + 1, none⟩ = some (.int .i64 ((rd_T57 l1 x27_2).f1)) := hS_
           refine norm_ (a' := ?_) ?_ ?_
           rotate_left
           ·simp only [putAll, Act.put, List.setIfInBounds_toArray, List.set_cons_zero, List.set_cons_succ]
            rfl
           refine one_ (i := 15) (N := none) #[true, true, true, true, true, true, true, true, true, true, true, true, true, true, true, true] rfl rfl (one_of HT_.out (by kernel_rfl)) (by decide) (fun K hK => ?_)
           have hs31 : w30.cell? ⟨gb539, 0, none⟩ = some (.int .i64 0) := (blk_cell BK539.out 0).trans rfl
           have hfs31 := blk_frozen BK539.out 0
           have hns31_0 := NB530_539.out
           have hms31_0 := NB539_530.out
           have hs32 : w30.cell? ⟨gb539, 1, none⟩ = some (.int .i64 0) := (blk_cell BK539.out 1).trans rfl
           have hfs32 := blk_frozen BK539.out 1
           have hns32_0 := NB530_539.out
           have hms32_0 := NB539_530.out
           refine skip_ (w1 := ?_) (by rfl) rfl ?_ ?_
           rotate_left
           ·go_simp
            rfl
           refine hK.out _ _ ⟨((cell_far (p := ⟨gb539, _, none⟩) NB530_539.out _).trans (((cell_far (p := ⟨gb539, _, none⟩) NB530_539.out _).trans (hHeld.1)))), ((cell_far (p := ⟨gb539, _, none⟩) NB530_539.out _).trans (((cell_far (p := ⟨gb539, _, none⟩) NB530_539.out _).trans (hHeld.2.1)))), ((cell_far (p := ⟨gb539, _, none⟩) (by first | exact Nat.ne_of_lt (Nat.lt_of_lt_of_le (by have := World.block_lt_of_cell? _ _ hw533_0; first | rwa [add_block] at this | exact this) GW539.out) | (rw [add_block]; exact Nat.ne_of_lt (Nat.lt_of_lt_of_le (by have := World.block_lt_of_cell? _ _ hw533_0; first | rwa [add_block] at this | exact this) GW539.out)) | (show (Addr.add _ _).block ≠ _; rw [add_block]; exact Nat.ne_of_lt (Nat.lt_of_lt_of_le (by have := World.block_lt_of_cell? _ _ hw533_0; first | rwa [add_block] at this | exact this) GW539.out)) | (dsimp only; exact Nat.ne_of_lt (Nat.lt_of_lt_of_le (by have := World.block_lt_of_cell? _ _ hw533_0; first | rwa [add_block] at this | exact this) GW539.out))) _).trans (((cell_far (p := ⟨gb539, _, none⟩) (by first | exact Nat.ne_of_lt (Nat.lt_of_lt_of_le (by have := World.block_lt_of_cell? _ _ hw533_0; first | rwa [add_block] at this | exact this) GW539.out) | (rw [add_block]; exact Nat.ne_of_lt (Nat.lt_of_lt_of_le (by have := World.block_lt_of_cell? _ _ hw533_0; first | rwa [add_block] at this | exact this) GW539.out)) | (show (Addr.add _ _).block ≠ _; rw [add_block]; exact Nat.ne_of_lt (Nat.lt_of_lt_of_le (by have := World.block_lt_of_cell? _ _ hw533_0; first | rwa [add_block] at this | exact this) GW539.out)) | (dsimp only; exact Nat.ne_of_lt (Nat.lt_of_lt_of_le (by have := World.block_lt_of_cell? _ _ hw533_0; first | rwa [add_block] at this | exact this) GW539.out))) _).trans (hHeld.2.2.1)))), ((cell_far (p := ⟨gb539, _, none⟩) (by first | exact Nat.ne_of_lt (Nat.lt_of_lt_of_le (by have := World.block_lt_of_cell? _ _ hw533_1; first | rwa [add_block] at this | exact this) GW539.out) | (rw [add_block]; exact Nat.ne_of_lt (Nat.lt_of_lt_of_le (by have := World.block_lt_of_cell? _ _ hw533_1; first | rwa [add_block] at this | exact this) GW539.out)) | (show (Addr.add _ _).block ≠ _; rw [add_block]; exact Nat.ne_of_lt (Nat.lt_of_lt_of_le (by have := World.block_lt_of_cell? _ _ hw533_1; first | rwa [add_block] at this | exact this) GW539.out)) | (dsimp only; exact Nat.ne_of_lt (Nat.lt_of_lt_of_le (by have := World.block_lt_of_cell? _ _ hw533_1; first | rwa [add_block] at this | exact this) GW539.out))) _).trans (((cell_far (p := ⟨gb539, _, none⟩) (by first | exact Nat.ne_of_lt (Nat.lt_of_lt_of_le (by have := World.block_lt_of_cell? _ _ hw533_1; first | rwa [add_block] at this | exact this) GW539.out) | (rw [add_block]; exact Nat.ne_of_lt (Nat.lt_of_lt_of_le (by have := World.block_lt_of_cell? _ _ hw533_1; first | rwa [add_block] at this | exact this) GW539.out)) | (show (Addr.add _ _).block ≠ _; rw [add_block]; exact Nat.ne_of_lt (Nat.lt_of_lt_of_le (by have := World.block_lt_of_cell? _ _ hw533_1; first | rwa [add_block] at this | exact this) GW539.out)) | (dsimp only; exact Nat.ne_of_lt (Nat.lt_of_lt_of_le (by have := World.block_lt_of_cell? _ _ hw533_1; first | rwa [add_block] at this | exact this) GW539.out))) _).trans (hHeld.2.2.2.1)))), ((cell_far (p := ⟨gb539, _, none⟩) (by first | exact Nat.ne_of_lt (Nat.lt_of_lt_of_le (by have := World.block_lt_of_cell? _ _ hw536_0; first | rwa [add_block] at this | exact this) GW539.out) | (rw [add_block]; exact Nat.ne_of_lt (Nat.lt_of_lt_of_le (by have := World.block_lt_of_cell? _ _ hw536_0; first | rwa [add_block] at this | exact this) GW539.out)) | (show (Addr.add _ _).block ≠ _; rw [add_block]; exact Nat.ne_of_lt (Nat.lt_of_lt_of_le (by have := World.block_lt_of_cell? _ _ hw536_0; first | rwa [add_block] at this | exact this) GW539.out)) | (dsimp only; exact Nat.ne_of_lt (Nat.lt_of_lt_of_le (by have := World.block_lt_of_cell? _ _ hw536_0; first | rwa [add_block] at this | exact this) GW539.out))) _).trans (((cell_far (p := ⟨gb539, _, none⟩) (by first | exact Nat.ne_of_lt (Nat.lt_of_lt_of_le (by have := World.block_lt_of_cell? _ _ hw536_0; first | rwa [add_block] at this | exact this) GW539.out) | (rw [add_block]; exact Nat.ne_of_lt (Nat.lt_of_lt_of_le (by have := World.block_lt_of_cell? _ _ hw536_0; first | rwa [add_block] at this | exact this) GW539.out)) | (show (Addr.add _ _).block ≠ _; rw [add_block]; exact Nat.ne_of_lt (Nat.lt_of_lt_of_le (by have := World.block_lt_of_cell? _ _ hw536_0; first | rwa [add_block] at this | exact this) GW539.out)) | (dsimp only; exact Nat.ne_of_lt (Nat.lt_of_lt_of_le (by have := World.block_lt_of_cell? _ _ hw536_0; first | rwa [add_block] at this | exact this) GW539.out))) _).trans (hHeld.2.2.2.2.1)))), ((cell_far (p := ⟨gb539, _, none⟩) (by first | exact Nat.ne_of_lt (Nat.lt_of_lt_of_le (by have := World.block_lt_of_cell? _ _ hw536_1; first | rwa [add_block] at this | exact this) GW539.out) | (rw [add_block]; exact Nat.ne_of_lt (Nat.lt_of_lt_of_le (by have := World.block_lt_of_cell? _ _ hw536_1; first | rwa [add_block] at this | exact this) GW539.out)) | (show (Addr.add _ _).block ≠ _; rw [add_block]; exact Nat.ne_of_lt (Nat.lt_of_lt_of_le (by have := World.block_lt_of_cell? _ _ hw536_1; first | rwa [add_block] at this | exact this) GW539.out)) | (dsimp only; exact Nat.ne_of_lt (Nat.lt_of_lt_of_le (by have := World.block_lt_of_cell? _ _ hw536_1; first | rwa [add_block] at this | exact this) GW539.out))) _).trans (((cell_far (p := ⟨gb539, _, none⟩) (by first | exact Nat.ne_of_lt (Nat.lt_of_lt_of_le (by have := World.block_lt_of_cell? _ _ hw536_1; first | rwa [add_block] at this | exact this) GW539.out) | (rw [add_block]; exact Nat.ne_of_lt (Nat.lt_of_lt_of_le (by have := World.block_lt_of_cell? _ _ hw536_1; first | rwa [add_block] at this | exact this) GW539.out)) | (show (Addr.add _ _).block ≠ _; rw [add_block]; exact Nat.ne_of_lt (Nat.lt_of_lt_of_le (by have := World.block_lt_of_cell? _ _ hw536_1; first | rwa [add_block] at this | exact this) GW539.out)) | (dsimp only; exact Nat.ne_of_lt (Nat.lt_of_lt_of_le (by have := World.block_lt_of_cell? _ _ hw536_1; first | rwa [add_block] at this | exact this) GW539.out))) _).trans (hHeld.2.2.2.2.2))))⟩ (fun hHeld => ?_)
           clear hK K
           refine done_ (done_of HT_.out (by kernel_rfl)) ?_
           have hnb33 := NB539_530.out
           have hnc33 := NB530_539.out
           have hcz34_0 : w30.cell? ⟨gb539, 0, none⟩ = some (.int .i64 0) := (blk_cell BK539.out 0).trans rfl
           have hcz34_1 : w30.cell? ⟨gb539, 1, none⟩ = some (.int .i64 0) := (blk_cell BK539.out 1).trans rfl
           have hfz34_0 := blk_frozen BK539.out 0
           have hfz34_1 := blk_frozen BK539.out 1
           try go_wp2_with (first | ((with_reducible refine gate_builtin (b := .append) (xs := #[.tmp 46, .tmp 52]) rfl ?_); (try (refine gate_guard (by rfl) ?_; dsimp only)); at_builtin; refine Kd.R_append k57 (w0 := w) w.heap.size rfl (.tmp 46) (.tmp 52) 49 57 (.agg #[(.int .i64 0), (.int .i64 0)]) 16 rfl Try.underlying49 info57 rfl (by decide) (by omega) u6 x6_2 (⟨t537, t538⟩ : S57) [.int .i64 t537, .int .i64 t538] (fun k_ => k_ ≠ gb530) (fun _ => False) rfl (by first | (go_simp; done) | (go_simp; rfl)) ?aP (fun _ hk => hk.elim) ?aF ?aO ?aB ?aS ?aL ?_; (case aP => exact k57_mkM _ _ _ (⟨t537, t538⟩ : S57)); (case aB => exact (by repeat (first | (with_reducible first | exact HB.out | apply below_alloc | apply pw_below_drewN | apply below_drew1 | refine below_set ?_ GE530.out | refine below_set ?_ GE539.out) | exact HB.out))); (case aF => exact (fun k_ hk => Kd.freshB (g := gb530) (o := .cells #[.int .i64 ((rd_T57 l0 x27_2).f0), .int .i64 ((rd_T57 l0 x27_2).f1)] 57 (0, 0)) (by (with_reducible repeat (first | refine blk_drewN ?_ _ | refine blk_drew ?_ | refine blk_alloc ?_ _)); refine blk_far ?_ NB530_539.out _; (with_reducible repeat (first | refine blk_drewN ?_ _ | refine blk_drew ?_ | refine blk_alloc ?_ _)); refine blk_far ?_ NB530_539.out _; (with_reducible repeat (first | refine blk_drewN ?_ _ | refine blk_drew ?_ | refine blk_alloc ?_ _)); exact BK530.out) k_ hk)); (case aO => exact (by (with_reducible repeat (first | apply Kd.R_alloc | apply Kd.R_drewN | apply Kd.R_drew)); exact Kd.R_mono (Kd.R_far (p := ⟨gb539, 1, none⟩) (Kd.R_far (p := ⟨gb539, 0, none⟩) (Kd.R_types HO_6.out BK539.out (by decide)) (fun _ hk => hk.2) (.int .i64 t537)) (fun _ hk => hk.2) (.int .i64 t538)) (fun _ hk => hk.1))); (case aS => exact (below_size (by repeat (first | (with_reducible first | exact HB.out | apply below_alloc | apply pw_below_drewN | apply below_drew1 | refine below_set ?_ GE530.out | refine below_set ?_ GE539.out) | exact HB.out)))); (case aL => have := LMc21.out; omega); intro v541 w35 ho hb hg hat; rw [← Ny540.out] at ho; have n0_ := Aside0.mk (blk_grown (g := gb530) (o := .cells #[.int .i64 ((rd_T57 l0 x27_2).f0), .int .i64 ((rd_T57 l0 x27_2).f1)] 57 (0, 0)) (by (with_reducible repeat (first | refine blk_drewN ?_ _ | refine blk_drew ?_ | refine blk_alloc ?_ _)); refine blk_far ?_ NB530_539.out _; (with_reducible repeat (first | refine blk_drewN ?_ _ | refine blk_drew ?_ | refine blk_alloc ?_ _)); refine blk_far ?_ NB530_539.out _; (with_reducible repeat (first | refine blk_drewN ?_ _ | refine blk_drew ?_ | refine blk_alloc ?_ _)); exact BK530.out) hg (Kd.R_away HO_6.out (fun _ hk => hk))); have n1_ := Aside0.mk (blk_grown (g := gb539) (o := .cells #[.int .i64 t537, .int .i64 t538] 88 (0, 0)) (by (with_reducible repeat (first | refine blk_drewN ?_ _ | refine blk_drew ?_ | refine blk_alloc ?_ _)); refine blk_put (cs := #[.int .i64 t537, .int .i64 0]) ?_ 1 _ rfl; (with_reducible repeat (first | refine blk_drewN ?_ _ | refine blk_drew ?_ | refine blk_alloc ?_ _)); refine blk_put (cs := #[.int .i64 0, .int .i64 0]) ?_ 0 _ rfl; (with_reducible repeat (first | refine blk_drewN ?_ _ | refine blk_drew ?_ | refine blk_alloc ?_ _)); exact BK539.out) hg (Kd.R_ne HO_6.out BK539.out (by decide))); have n2_ := Aside0.mk (hb); have n3_ := Aside0.mk (ho); clear BK530; clear BK539; clear HB; clear HO_6; have BK530 := n0_; have BK539 := n1_; have HB := n2_; have HO542 := n3_; clear n0_ n1_ n2_ n3_; clear ho hb hg hat))
           go_roundg k2
           case measure => have := HJ2.out; have := HK2.out; omega
           case rel => exact ⟨(y540), (wrap64 (x27_2 + 1)), (by first | rfl | (simp; done) | (simp [*]; done)), H', ⟨by have := HJ2.out; have := HK2.out; omega⟩, ⟨by (with_reducible repeat (first | apply Kd.R_alloc | apply Kd.R_drewN | apply Kd.R_drew)); exact Kd.R_mono HO542.out (fun _ hk => trivial)⟩, ⟨by repeat (first | (with_reducible first | exact HB.out | apply below_alloc | apply pw_below_drewN | apply below_drew1 | refine below_set ?_ GE530.out | refine below_set ?_ GE539.out) | exact HB.out)⟩⟩
          ·rw [if_neg c21] at H
           exact absurd H (by simp)
         ·rw [if_neg c18] at H
          exact absurd H (by simp)
        ·rw [if_neg c16] at H
         exact absurd H (by simp)
       ·rw [if_neg c15] at H
        exact absurd H (by simp)
      ·rw [if_neg c14] at H
       have c14b0 : decide (x27_2 < (l0.length : Int)) = false := decide_eq_false c14
       clear c14
       simp only [Option.some.injEq, Prod.mk.injEq] at H
       obtain ⟨rfl, rfl⟩ := H
       go_wp2
       go_ret2
       exact ⟨_, by first | rfl | (simp [errW_none, errW_some] <;> rfl) | (simp [*, errW_none, errW_some] <;> rfl), by (with_reducible repeat (first | apply Kd.R_alloc | apply Kd.R_drewN | apply Kd.R_drew)); exact HO_6.out, by repeat (first | (with_reducible first | exact HB.out | apply below_alloc | apply pw_below_drewN | apply below_drew1) | exact HB.out)⟩
end Go.Proofs.Ytoidpkpgeeeggaa.Q
end
