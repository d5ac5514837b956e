/- For every metric, three vectors that are alike and two keys that are not less than those of the third vector to the first two, Ball is true for the key of the first two; otherwise it tells whether that key is at most High. No condition. -/
import Derived.Test.YtflnbgdjpflbeaaRef04
import Derived.Test.YtflnbgdjpflbeaaRef05
set_option linter.unusedVariables false
namespace Go.Proofs.Ytflnbgdjpflbeaa.Pure
open Go.RowKit Go.Proofs.Ytflnbgdjpflbeaa.Q Go.Proofs.YtflnbgdjpflbeaaW.PrintWords Plain Go.Proofs.Ytflnbgdjpflbeaa.EvM

theorem MetricBallsMeet : antiquarylaw05_MetricBallsMeet.Pure := by
  intro m p q x r s _ _ hp _ _ hq _ _ hx _ _ _
  refine ev_ex ?_
  refine ev_bind (Ref04.alike_ev p q hp hq) (ev_bind (Ref04.alike_ev q x hq hx) ?_)
  have other : Ev (fun k => antiquarylaw05_MetricBallsMeet.j0 k m p q x r s true) true := by
    refine ev_succ ?_
    simp only [antiquarylaw05_MetricBallsMeet.j0]
    exact ev_pos (by first | rfl | trivial) (ev_bind sanity_ev (ev_some rfl))
  by_cases h1 : alike p q
  · refine ev_pos (by simpa using h1) ?_
    by_cases h2 : alike q x
    · refine ev_pos (by simpa using h2) (ev_ob (keys_f m r s 0) ?_)
      by_cases h3 : (1 ≤ m ∧ m ≤ 3) ∧ isKey r ∧ isKey s ∧ isKey 0
      · rw [show (!decide ((1 ≤ m ∧ m ≤ 3) ∧ isKey r ∧ isKey s ∧ isKey 0)) = false by simp [h3]]
        obtain ⟨_, hr, hs, _⟩ := h3
        have h4 := alike_trans h1 h2
        have ka := key_isKey m h4
        have kb := key_isKey m h2
        have b1 := key_between m h4 (alike_symm h2)
        rw [key_comm m x q] at b1
        refine ev_succ ?_
        simp only [antiquarylaw05_MetricBallsMeet.j0]
        refine ev_neg (by simp) (ev_bind (Ref04.key_ev m h1) (ev_bind (Ref04.key_ev m h4) (ev_bind (Ref04.key_ev m h2) ?_)))
        have no : Ev (fun k => antiquarylaw05_MetricBallsMeet.j1 k m r s (key m p q) false) true := by
          refine ev_succ ?_
          simp only [antiquarylaw05_MetricBallsMeet.j1]
          exact ev_neg (by simp) (ev_bind sanity_ev (ev_pos (by first | rfl | trivial) (ev_ob (ball_f m _ hr hs) (ev_ob (high_f m hr hs) (ev_some (by simp))))))
        by_cases c1 : key m p x ≤ r
        · refine ev_pos c1 ?_
          by_cases c2 : key m q x ≤ s
          · rw [decide_eq_true c2]
            refine ev_succ ?_
            simp only [antiquarylaw05_MetricBallsMeet.j1]
            refine ev_pos (by first | rfl | trivial) (ev_bind sanity_ev (ev_pos (by first | rfl | trivial) (ev_ob (ball_f m _ hr hs) (ev_some ?_))))
            have := high_mono2 m ka kb hr c1 c2
            exact decide_eq_true (by omega)
          · rw [decide_eq_false c2]; exact no
        · exact ev_neg c1 no
      · rw [show (!decide ((1 ≤ m ∧ m ≤ 3) ∧ isKey r ∧ isKey s ∧ isKey 0)) = true by simp [h3]]
        exact other
    · exact ev_neg (by simpa using h2) other
  · exact ev_neg (by simpa using h1) other

end Go.Proofs.Ytflnbgdjpflbeaa.Pure
