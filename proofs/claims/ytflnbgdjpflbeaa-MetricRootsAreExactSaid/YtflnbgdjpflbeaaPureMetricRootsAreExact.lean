/- For every number Isqrt returns the root of it, brought from 0 to 2^60, and Valid tells whether there is a metric and a number is a key. No condition. -/
import Derived.Test.YtflnbgdjpflbeaaRef04
import Derived.Test.YtflnbgdjpflbeaaRef05
set_option linter.unusedVariables false
namespace Go.Proofs.Ytflnbgdjpflbeaa.Pure
open Go.RowKit Go.Proofs.Ytflnbgdjpflbeaa.Q Go.Proofs.YtflnbgdjpflbeaaW.PrintWords Plain Go.Proofs.Ytflnbgdjpflbeaa.EvM

theorem clamp60_eq (n : Int) : clamp60 n = if (if n < 0 then 0 else n) > 1152921504606846976 then 1152921504606846976 else (if n < 0 then 0 else n) := by
  unfold clamp60
  by_cases h : n < 0
  · simp only [if_pos h]; rw [if_neg (by omega)]
  · simp only [if_neg h]
theorem valid_f (m n : Int) : metric_Valid.f m n = some (decide ((1 ≤ m ∧ m ≤ 3) ∧ isKey n)) := by
  unfold metric_Valid.f
  by_cases h1 : m ≥ 1
  · rw [if_pos h1]
    by_cases h2 : m ≤ 3
    · rw [if_pos h2]
      refine bind_of (clamp_f _ _ _) ?_
      congr 1
      rw [Bool.eq_iff_iff, beq_iff_eq, decide_eq_true_eq]
      have := clamp_eq (x := n) (lo := 0) (hi := 134217728) (by omega)
      unfold isKey
      constructor
      · intro h; exact ⟨⟨h1, h2⟩, this.mp h.symm⟩
      · intro h; exact (this.mpr h.2).symm
    · rw [if_neg h2]; congr 1; symm; rw [decide_eq_false_iff_not]; omega
  · rw [if_neg h1]; congr 1; symm; rw [decide_eq_false_iff_not]; omega
theorem MetricRootsAreExact : antiquarylaw05_MetricRootsAreExact.Pure := by
  intro n m _ _
  refine ev_ex ?_
  refine ev_bind (isqrt_ev n) ?_
  obtain ⟨c0, c1⟩ := clamp60_range n
  have r0 := root_nonneg (clamp60 n)
  have r1 := root_lo c0
  have r2 := root_hi (clamp60 n)
  have r3 : root (clamp60 n) ≤ 1073741824 := root_le c0 (by omega) (by omega)
  have last : Ev (fun k => antiquarylaw05_MetricRootsAreExact.j1 k n m (root (clamp60 n)) (clamp60 n)) true := by
    refine ev_succ ?_
    simp only [antiquarylaw05_MetricRootsAreExact.j1]
    have s0 := sq_nonneg (root (clamp60 n))
    have s1 := sq_le_sq r0 r3
    have s2 := sq_le_sq (a := root (clamp60 n) + 1) (b := 1073741825) (by omega) (by omega)
    have s3 := sq_nonneg (root (clamp60 n) + 1)
    rw [w64 (x := root (clamp60 n) + 1) (by omega) (by omega), w64 (x := root (clamp60 n) * root (clamp60 n)) (by omega) (by omega), w64 (x := (root (clamp60 n) + 1) * (root (clamp60 n) + 1)) (by omega) (by omega)]
    refine ev_neg (by omega) (ev_neg (by omega) (ev_neg (by omega) ?_))
    rw [decide_eq_false (by omega)]
    refine ev_succ ?_
    simp only [antiquarylaw05_MetricRootsAreExact.j2]
    exact ev_neg (by simp) (ev_bind sanity_ev (ev_pos (by first | rfl | trivial) (ev_ob (valid_f m n) (ev_ob (EvM.valid_ev m n) (ev_some (by simp))))))
  have next : ∀ x : Int, (if x > 1152921504606846976 then 1152921504606846976 else x) = clamp60 n → Ev (fun k => antiquarylaw05_MetricRootsAreExact.j0 k n m (root (clamp60 n)) x) true := by
    intro x hx
    refine ev_succ ?_
    simp only [antiquarylaw05_MetricRootsAreExact.j0]
    by_cases h : x > 1152921504606846976
    · rw [if_pos h] at hx
      rw [← hx] at last
      rw [← hx]
      exact ev_pos h last
    · rw [if_neg h] at hx
      rw [← hx] at last
      rw [← hx]
      exact ev_neg h last
  have he := clamp60_eq n
  by_cases h : n < 0
  · simp only [if_pos h] at he
    exact ev_pos h (next 0 he.symm)
  · simp only [if_neg h] at he
    exact ev_neg h (next n he.symm)

end Go.Proofs.Ytflnbgdjpflbeaa.Pure
