/- For every metric and three vectors that are alike, the key of two of them is from Low to High of their keys to the third one, and the three keys are a Triangle in every order; for all other arguments the law answers by its examples. No condition. -/
import Derived.Test.YtflnbgdjpflbeaaRef04
import Derived.Test.YtflnbgdjpflbeaaRef05
set_option linter.unusedVariables false
namespace Go.Proofs.Ytflnbgdjpflbeaa.Pure
open Go.RowKit Go.Proofs.Ytflnbgdjpflbeaa.Q Go.Proofs.YtflnbgdjpflbeaaW.PrintWords Plain Go.Proofs.Ytflnbgdjpflbeaa.EvM

theorem MetricTrianglesHold : antiquarylaw05_MetricTrianglesHold.Pure := by
  intro m p q r _ _ hp _ _ hq _ _ hr _
  refine ev_ex ?_
  refine ev_bind (Ref04.alike_ev p q hp hq) (ev_bind (Ref04.alike_ev q r hq hr) ?_)
  have other : Ev (fun k => antiquarylaw05_MetricTrianglesHold.j0 k m p q r true) true := by
    refine ev_succ ?_
    simp only [antiquarylaw05_MetricTrianglesHold.j0]
    exact ev_pos (by first | rfl | trivial) (ev_bind sanity_ev (ev_some rfl))
  by_cases h1 : alike p q
  · refine ev_pos (by simpa using h1) ?_
    by_cases h2 : alike q r
    · refine ev_pos (by simpa using h2) (ev_ob (EvM.valid_ev m 0) ?_)
      by_cases h3 : (1 ≤ m ∧ m ≤ 3) ∧ isKey 0
      · rw [show (!decide ((1 ≤ m ∧ m ≤ 3) ∧ isKey 0)) = false by simp [h3]]
        have h4 := alike_trans h1 h2
        have ka := key_isKey m h1
        have kb := key_isKey m h2
        have kc := key_isKey m h4
        have b1 := key_between m h1 h2
        have b2 := key_between m h4 (alike_symm h2)
        have b3 := key_between m (alike_symm h1) h4
        rw [key_comm m r q] at b2
        rw [key_comm m q p] at b3
        have t1 := triangle_f m (a := key m p q) (b := key m q r) (c := key m p r) ka kb
        have t2 := triangle_f m (a := key m p r) (b := key m q r) (c := key m p q) kc kb
        have t3 := triangle_f m (a := key m p q) (b := key m p r) (c := key m q r) ka kc
        rw [decide_eq_true b1] at t1
        rw [decide_eq_true b2] at t2
        rw [decide_eq_true b3] at t3
        refine ev_succ ?_
        simp only [antiquarylaw05_MetricTrianglesHold.j0]
        refine ev_neg (by simp) (ev_bind (Ref04.key_ev m h1) (ev_bind (Ref04.key_ev m h2) (ev_bind (Ref04.key_ev m h4) ?_)))
        refine ev_ob (low_f m ka kb) (ev_neg (by omega) (ev_ob (high_f m ka kb) ?_))
        refine ev_succ ?_
        simp only [antiquarylaw05_MetricTrianglesHold.j1]
        refine ev_neg (by simp; omega) (ev_bind sanity_ev (ev_pos (by first | rfl | trivial) ?_))
        exact ev_ob t1 (ev_pos (by first | rfl | trivial) (ev_ob t2 (ev_pos (by first | rfl | trivial) (ev_ob t3 (ev_some rfl)))))
      · rw [show (!decide ((1 ≤ m ∧ m ≤ 3) ∧ isKey 0)) = true by simp [h3]]
        exact other
    · exact ev_neg (by simpa using h2) other
  · exact ev_neg (by simpa using h1) other

end Go.Proofs.Ytflnbgdjpflbeaa.Pure
