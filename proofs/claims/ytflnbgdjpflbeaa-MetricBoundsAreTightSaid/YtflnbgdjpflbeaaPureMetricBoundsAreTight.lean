/- For every metric and two distances of at most 11585, Low of their keys is the key of their difference, and High that of their sum, but the greatest key at most; for all other numbers the law answers by its examples. No condition. -/
import Derived.Test.YtflnbgdjpflbeaaRef04
import Derived.Test.YtflnbgdjpflbeaaRef05
set_option linter.unusedVariables false
namespace Go.Proofs.Ytflnbgdjpflbeaa.Pure
open Go.RowKit Go.Proofs.Ytflnbgdjpflbeaa.Q Go.Proofs.YtflnbgdjpflbeaaW.PrintWords Plain Go.Proofs.Ytflnbgdjpflbeaa.EvM

theorem key_f (m : Int) {d : Int} (h0 : 0 ≤ d) (h1 : d ≤ 23170) : antiquarylaw05_key.f m d = some (dkey m d) := by
  unfold antiquarylaw05_key.f dkey
  have := sq_le_sq h0 h1
  have := sq_nonneg d
  split
  · rw [w64 (by omega) (by omega)]
  · rfl
theorem MetricBoundsAreTight : antiquarylaw05_MetricBoundsAreTight.Pure := by
  intro m d e _ _ _
  refine ev_ex ?_
  refine ev_ob (EvM.valid_ev m 0) ?_
  have other : Ev (fun k => antiquarylaw05_MetricBoundsAreTight.j0 k m d e true) true := by
    refine ev_succ ?_
    simp only [antiquarylaw05_MetricBoundsAreTight.j0]
    exact ev_pos (by first | rfl | trivial) (ev_bind sanity_ev (ev_some rfl))
  by_cases h3 : (1 ≤ m ∧ m ≤ 3) ∧ isKey 0
  · refine ev_pos (by simpa using h3) ?_
    by_cases d0 : d < 0
    · exact ev_pos d0 other
    · refine ev_neg d0 ?_
      by_cases d1 : d > 11585
      · exact ev_pos d1 other
      · refine ev_neg d1 ?_
        by_cases e0 : e < 0
        · exact ev_pos e0 other
        · refine ev_neg e0 ?_
          by_cases e1 : e > 11585
          · rw [decide_eq_true e1]; exact other
          · rw [decide_eq_false e1]
            have kd := dkey_isKey m (d := d) (by omega) (by omega)
            have ke := dkey_isKey m (d := e) (by omega) (by omega)
            have hl := low_tight m (d := d) (e := e) (by omega) (by omega)
            have hh := high_tight m (d := d) (e := e) (by omega) (by omega)
            have last : ∀ far : Int, high m (dkey m d) (dkey m e) = far → Ev (fun k => antiquarylaw05_MetricBoundsAreTight.j1 k m d e far) true := by
              intro far hfar
              refine ev_succ ?_
              simp only [antiquarylaw05_MetricBoundsAreTight.j1]
              have hd : mx d e - mn d e = if d < e then e - d else d - e := by unfold mx mn; split <;> split <;> omega
              rw [hd, w64 (by split <;> omega) (by split <;> omega)]
              refine ev_bind sanity_ev (ev_pos (by first | rfl | trivial) (ev_ob (key_f m (by omega) (by omega)) (ev_ob (key_f m (by omega) (by omega)) (ev_ob (low_f m kd ke) ?_))))
              refine ev_ob (key_f m (by split <;> omega) (by split <;> omega)) (ev_pos hl ?_)
              exact ev_ob (key_f m (by omega) (by omega)) (ev_ob (key_f m (by omega) (by omega)) (ev_ob (high_f m kd ke) (ev_some (by rw [hfar]; simp))))
            refine ev_succ ?_
            simp only [antiquarylaw05_MetricBoundsAreTight.j0]
            rw [w64 (x := d + e) (by omega) (by omega)]
            refine ev_neg (by simp) (ev_ob (key_f m (by omega) (by omega)) ?_)
            by_cases hf : dkey m (d + e) > 134217728
            · exact ev_pos hf (last _ (by rw [hh, if_pos hf]))
            · exact ev_neg hf (last _ (by rw [hh, if_neg hf]))
  · exact ev_neg (by simpa using h3) other

end Go.Proofs.Ytflnbgdjpflbeaa.Pure
