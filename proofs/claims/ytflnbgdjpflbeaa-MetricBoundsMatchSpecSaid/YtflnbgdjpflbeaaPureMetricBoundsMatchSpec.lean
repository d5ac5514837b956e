/- For every metric and all keys, the bounds of the metric are those of the specification; for all other numbers the law answers by its examples. No condition. -/
import Derived.Test.YtflnbgdjpflbeaaRef04
import Derived.Test.YtflnbgdjpflbeaaRef05
set_option linter.unusedVariables false
namespace Go.Proofs.Ytflnbgdjpflbeaa.Pure
open Go.RowKit Go.Proofs.Ytflnbgdjpflbeaa.Q Go.Proofs.YtflnbgdjpflbeaaW.PrintWords Plain Go.Proofs.Ytflnbgdjpflbeaa.EvM

theorem mn_key {a b : Int} (ha : isKey a) (hb : isKey b) : isKey (mn a b) := by unfold mn; split <;> assumption
theorem mx_key {a b : Int} (ha : isKey a) (hb : isKey b) : isKey (mx a b) := by unfold mx; split <;> assumption
theorem mn_le_mx (a b : Int) : mn a b ≤ mx a b := by unfold mn mx; split <;> split <;> omega
theorem MetricBoundsMatchSpec : antiquarylaw05_MetricBoundsMatchSpec.Pure := by
  intro m a b c _ _ _ _
  refine ev_ex ?_
  refine ev_ob (keys_f m a b c) ?_
  by_cases hk : (1 ≤ m ∧ m ≤ 3) ∧ isKey a ∧ isKey b ∧ isKey c
  · obtain ⟨_, ha, hb, hc⟩ := hk
    have hx := mn_key hb hc
    have hy := mx_key hb hc
    have hxy := mn_le_mx b c
    refine ev_pos (by simpa using ⟨by assumption, ha, hb, hc⟩) ?_
    refine ev_ob (ring_f m ha hb) (ev_bind (Ref05.ring_ev m ha hb) (ev_ob (low_f m ha hb) (ev_bind (Ref05.low_ev m ha hb) (ev_pos (by first | rfl | trivial) ?_))))
    refine ev_ob (high_f m ha hb) (ev_bind (Ref05.high_ev m ha hb) (ev_pos (by first | rfl | trivial) ?_))
    refine ev_ob (triangle_f m ha hb) (ev_bind (Ref05.triangle_ev m ha hb) ?_)
    refine ev_succ ?_
    simp only [antiquarylaw05_MetricBoundsMatchSpec.j0]
    refine ev_ob (gap_f m ha hx hy) (ev_bind (Ref05.gap_ev m ha hx hy hxy) (ev_pos (by first | rfl | trivial) ?_))
    refine ev_ob (reach_f m ha hy) (ev_bind (Ref05.reach_ev m ha hx hy hxy) (ev_pos (by first | rfl | trivial) ?_))
    refine ev_ob (ball_f m a hb hc) (ev_bind (Ref05.ball_ev m a hb hc) (ev_bind sanity_ev (ev_pos (by first | rfl | trivial) ?_)))
    exact ev_pos (by simp) (ev_pos (by simp) (ev_pos (by first | rfl | trivial) (ev_some (by simp))))
  · exact ev_neg (by simpa using hk) (ev_bind sanity_ev (ev_some rfl))

end Go.Proofs.Ytflnbgdjpflbeaa.Pure
