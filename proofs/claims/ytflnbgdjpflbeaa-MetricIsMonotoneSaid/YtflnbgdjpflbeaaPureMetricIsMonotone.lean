/- For every metric and all keys, Low and High are symmetric and monotone as the chapter says, and Gap and Reach are the least and the greatest bound; for all other numbers the law answers by its examples. No condition. -/
import Derived.Test.YtflnbgdjpflbeaaRef04
import Derived.Test.YtflnbgdjpflbeaaRef05
set_option linter.unusedVariables false
namespace Go.Proofs.Ytflnbgdjpflbeaa.Pure
open Go.RowKit Go.Proofs.Ytflnbgdjpflbeaa.Q Go.Proofs.YtflnbgdjpflbeaaW.PrintWords Plain Go.Proofs.Ytflnbgdjpflbeaa.EvM

theorem mn_key {a b : Int} (ha : isKey a) (hb : isKey b) : isKey (mn a b) := by unfold mn; split <;> assumption
theorem mx_key {a b : Int} (ha : isKey a) (hb : isKey b) : isKey (mx a b) := by unfold mx; split <;> assumption
theorem mn_mx (a b : Int) : mn a b ≤ mx a b ∧ mn a b ≤ a ∧ mn a b ≤ b ∧ a ≤ mx a b ∧ b ≤ mx a b := by unfold mn mx; split <;> split <;> omega
theorem MetricIsMonotone : antiquarylaw05_MetricIsMonotone.Pure := by
  intro m a b c _ _ _ _
  refine ev_ex ?_
  refine ev_ob (keys_f m a b c) ?_
  by_cases hk : (1 ≤ m ∧ m ≤ 3) ∧ isKey a ∧ isKey b ∧ isKey c
  · obtain ⟨_, ha, hb, hc⟩ := hk
    have hx := mn_key hb hc
    have hy := mx_key hb hc
    obtain ⟨hxy, x1, x2, y1, y2⟩ := mn_mx b c
    have k0 : isKey 0 := ⟨by omega, by omega⟩
    have hg1 := gap_le m ha hx hy hb x1 y1
    have hg2 := gap_le m ha hx hy hc x2 y2
    have hh1 := high_mono m ha hb y1
    have hh2 := high_mono m ha hc y2
    have last : Ev (fun k => antiquarylaw05_MetricIsMonotone.j1 k m a b c (mn b c) (mx b c) false) true := by
      refine ev_succ ?_
      simp only [antiquarylaw05_MetricIsMonotone.j1]
      refine ev_neg (by simp) (ev_ob (gap_f m ha hx hy) (ev_ob (reach_f m ha hy) (ev_bind sanity_ev (ev_pos (by first | rfl | trivial) ?_))))
      refine ev_ob (low_f m ha hb) (ev_pos hg1 (ev_ob (low_f m ha hc) (ev_pos hg2 (ev_ob (high_f m ha hb) (ev_pos hh1 (ev_ob (high_f m ha hc) (ev_some ?_)))))))
      exact decide_eq_true hh2
    refine ev_pos (by simpa using ⟨by assumption, ha, hb, hc⟩) ?_
    refine ev_ob (low_f m ha hb) (ev_ob (low_f m hb ha) (ev_pos (low_comm m a b) ?_))
    refine ev_ob (high_f m ha hb) (ev_ob (high_f m hb ha) (ev_pos (high_comm m a b) ?_))
    refine ev_ob (low_f m ha ha) (ev_pos (low_self m a ha) (ev_ob (high_f m ha k0) ?_))
    rw [high_zero m ha]
    refine ev_succ ?_
    simp only [antiquarylaw05_MetricIsMonotone.j0]
    refine ev_neg (by simp) (ev_ob (high_f m ha hx) (ev_ob (high_f m ha hy) (ev_neg (by have := high_mono m ha hx hxy; omega) ?_)))
    by_cases c1 : mn b c ≥ a
    · have h1 := low_mono m ha hx hy (.inl ⟨c1, hxy⟩)
      refine ev_pos c1 (ev_ob (low_f m ha hx) (ev_ob (low_f m ha hy) (ev_neg (by omega) ?_)))
      by_cases c2 : mx b c ≤ a
      · have h2 := low_mono m ha hy hx (.inr ⟨hxy, c2⟩)
        refine ev_pos c2 (ev_ob (low_f m ha hy) (ev_ob (low_f m ha hx) ?_))
        rw [decide_eq_false (show ¬ low m a (mx b c) > low m a (mn b c) by omega)]
        exact last
      · exact ev_neg c2 last
    · refine ev_neg c1 ?_
      by_cases c2 : mx b c ≤ a
      · have h2 := low_mono m ha hy hx (.inr ⟨hxy, c2⟩)
        refine ev_pos c2 (ev_ob (low_f m ha hy) (ev_ob (low_f m ha hx) ?_))
        rw [decide_eq_false (show ¬ low m a (mx b c) > low m a (mn b c) by omega)]
        exact last
      · exact ev_neg c2 last
  · exact ev_neg (by simpa using hk) (ev_bind sanity_ev (ev_some rfl))

end Go.Proofs.Ytflnbgdjpflbeaa.Pure
