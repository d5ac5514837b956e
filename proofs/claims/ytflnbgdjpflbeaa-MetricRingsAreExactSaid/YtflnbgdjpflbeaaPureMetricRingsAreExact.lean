/- For every metric and all keys, a key is in the Ring of another one exactly if their Low is at most t, and Gap is 0 exactly if the Ring of 0 meets the interval; for all other numbers the law answers by its examples. No condition. -/
import Derived.Test.YtflnbgdjpflbeaaRef04
import Derived.Test.YtflnbgdjpflbeaaRef05
set_option linter.unusedVariables false
namespace Go.Proofs.Ytflnbgdjpflbeaa.Pure
open Go.RowKit Go.Proofs.Ytflnbgdjpflbeaa.Q Go.Proofs.YtflnbgdjpflbeaaW.PrintWords Plain Go.Proofs.Ytflnbgdjpflbeaa.EvM

theorem mn_key {a b : Int} (ha : isKey a) (hb : isKey b) : isKey (mn a b) := by unfold mn; split <;> assumption
theorem mx_key {a b : Int} (ha : isKey a) (hb : isKey b) : isKey (mx a b) := by unfold mx; split <;> assumption
theorem mn_le_mx (a b : Int) : mn a b ≤ mx a b := by unfold mn mx; split <;> split <;> omega
theorem MetricRingsAreExact : antiquarylaw05_MetricRingsAreExact.Pure := by
  intro m a t b _ _ _ _
  refine ev_ex ?_
  refine ev_ob (keys_f m a t b) ?_
  by_cases hk : (1 ≤ m ∧ m ≤ 3) ∧ isKey a ∧ isKey t ∧ isKey b
  · obtain ⟨_, ha, ht, hb⟩ := hk
    have hx := mn_key ht hb
    have hy := mx_key ht hb
    have hxy := mn_le_mx t b
    have k0 : isKey 0 := ⟨by omega, by omega⟩
    have hself := ring_has_self m ha ht
    have hlo := ringLo_nonneg m ha ht
    have hhi : isKey (ringHi m a t) := high_key m ha ht
    have hiff := low_le_iff m ha hb ht
    have hgap := gap_zero m ha hx hy hxy
    have last : ∀ is : Bool, (is = true ↔ low m a b ≤ t) → Ev (fun k => antiquarylaw05_MetricRingsAreExact.j1 k m a t b is) true := by
      intro is his
      refine ev_succ ?_
      simp only [antiquarylaw05_MetricRingsAreExact.j1]
      refine ev_ob (ring_f m ha k0) ?_
      have hin : (is == decide (low m a b ≤ t)) = true := by
        rw [beq_iff_eq, Bool.eq_iff_iff, decide_eq_true_eq]; exact his
      by_cases hc : ringLo m a 0 ≤ mx t b
      · refine ev_pos hc (ev_bind sanity_ev (ev_pos (by first | rfl | trivial) (ev_ob (low_f m ha hb) (ev_pos hin (ev_ob (gap_f m ha hx hy) (ev_some ?_))))))
        rw [beq_iff_eq, Bool.eq_iff_iff, beq_iff_eq, decide_eq_true_eq]
        exact hgap.trans ⟨fun h => h.2, fun h => ⟨hc, h⟩⟩
      · refine ev_neg hc (ev_bind sanity_ev (ev_pos (by first | rfl | trivial) (ev_ob (low_f m ha hb) (ev_pos hin (ev_ob (gap_f m ha hx hy) (ev_some ?_))))))
        have : gap m (mn t b) (mx t b) a ≠ 0 := fun h => hc (hgap.mp h).1
        simp [this]
    refine ev_pos (by simpa using ⟨by assumption, ha, ht, hb⟩) (ev_ob (ring_f m ha ht) ?_)
    refine ev_neg (show ¬ ringLo m a t < 0 by omega) (ev_neg (show ¬ ringHi m a t > 134217728 by have := hhi.2; omega) (ev_neg (show ¬ ringLo m a t > a by omega) ?_))
    rw [show decide (ringHi m a t < a) = false from decide_eq_false (by omega)]
    refine ev_succ ?_
    simp only [antiquarylaw05_MetricRingsAreExact.j0]
    refine ev_neg (by simp) ?_
    by_cases hb1 : b ≥ ringLo m a t
    · refine ev_pos hb1 (last _ ?_)
      rw [decide_eq_true_eq]; omega
    · refine ev_neg hb1 (last _ ?_)
      simp; omega
  · exact ev_neg (by simpa using hk) (ev_bind sanity_ev (ev_some rfl))

end Go.Proofs.Ytflnbgdjpflbeaa.Pure
