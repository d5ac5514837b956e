/- What the functions of the metric, and of its specification, come to. -/
import Derived.Test.YtflnbgdjpflbeaaQx
import Derived.Test.YtflnbgdjpflbeaaPlMetric
import Derived.Test.YtflnbgdjpflbeaaPlStep
set_option linter.unusedVariables false
namespace Go.Proofs.Ytflnbgdjpflbeaa.EvM
open Go.RowKit Go.Proofs.Ytflnbgdjpflbeaa.Q Go.Proofs.YtflnbgdjpflbeaaW.PrintWords Plain

theorem mx_eq (a b : Int) : mx a b = if a < b then b else a := rfl
theorem mn_eq (a b : Int) : mn a b = if b < a then b else a := rfl

theorem low_f (m : Int) {a b : Int} (ha : isKey a) (hb : isKey b) : metric_Low.f m a b = some (low m a b) := by
  unfold metric_Low.f
  exact if_pos ⟨ha, hb⟩
theorem high_f (m : Int) {a b : Int} (ha : isKey a) (hb : isKey b) : metric_High.f m a b = some (high m a b) := by
  unfold metric_High.f
  exact if_pos ⟨ha, hb⟩
theorem clamp_f (x lo hi : Int) : metric_clamp_int.f x lo hi = some (clamp x lo hi) := rfl
theorem ring_f (m : Int) {a t : Int} (ha : isKey a) (ht : isKey t) : metric_Ring.f m a t = some (ringLo m a t, ringHi m a t) := by
  unfold metric_Ring.f ringLo ringHi
  by_cases h : t < a
  · rw [if_pos h, if_pos h, low_f m ha ht, high_f m ha ht]; rfl
  · rw [if_neg h, if_neg h, high_f m ha ht]; rfl
theorem triangle_f (m : Int) {a b c : Int} (ha : isKey a) (hb : isKey b) : metric_Triangle.f m a b c = some (decide (low m a b ≤ c ∧ c ≤ high m a b)) := by
  unfold metric_Triangle.f
  refine bind_of (low_f m ha hb) (bind_of (high_f m ha hb) (bind_of (clamp_f _ _ _) ?_))
  have h := clamp_eq (x := c) (low_le_high m ha hb)
  congr 1
  rw [Bool.eq_iff_iff, beq_iff_eq, decide_eq_true_eq]
  exact h
theorem gap_f (m : Int) {lo hi a : Int} (ha : isKey a) (hl : isKey lo) (hh : isKey hi) : metric_Gap.f m lo hi a = some (gap m lo hi a) := by
  unfold metric_Gap.f
  exact bind_of (clamp_f _ _ _) (bind_of (low_f m ha (clamp_key ha hl hh)) rfl)
theorem reach_f (m : Int) {lo hi a : Int} (ha : isKey a) (hh : isKey hi) : metric_Reach.f m lo hi a = some (high m a hi) := by
  unfold metric_Reach.f
  exact bind_of (high_f m ha hh) rfl
theorem ball_f (m c : Int) {r s : Int} (hr : isKey r) (hs : isKey s) : metric_Ball.f m c r s = some (decide (c ≤ high m r s)) := by
  unfold metric_Ball.f
  exact bind_of (high_f m hr hs) rfl
theorem isqrt_ev (n : Int) : Ev (fun k => metric_Isqrt.f k n) (root (clamp60 n)) := ev_ofx (metric_Isqrt.mono n) (metric_Isqrt.is n)

/-- roots that the examples need -/
theorem low2 {a b s : Int} (hn : 0 ≤ 4 * a * b) (h0 : 0 ≤ s) (h1 : s * s ≤ 4 * a * b) (h2 : 4 * a * b < (s + 1) * (s + 1)) : low 2 a b = a + b - s := by
  unfold low; rw [if_pos rfl, root_unique hn h0 h1 h2]
theorem high2 {a b s : Int} (hn : 0 ≤ 4 * a * b) (h0 : 0 ≤ s) (h1 : s * s ≤ 4 * a * b) (h2 : 4 * a * b < (s + 1) * (s + 1)) (h3 : a + b + s ≤ 134217728) : high 2 a b = a + b + s := by
  unfold high; rw [if_pos rfl, root_unique hn h0 h1 h2, if_neg (by omega)]
theorem root_lit {n s : Int} (hn : 0 ≤ n) (h60 : n ≤ 1152921504606846976) (h0 : 0 ≤ s) (h1 : s * s ≤ n) (h2 : n < (s + 1) * (s + 1)) : root (clamp60 n) = s := by
  rw [clamp60_in hn h60]; exact root_unique hn h0 h1 h2
theorem kk {a : Int} (h0 : 0 ≤ a) (h1 : a ≤ 134217728) : isKey a := ⟨h0, h1⟩

/-- the examples of the chapter -/
theorem sanity_ev : Ev (fun k => antiquarylaw05_sanity.f k) true := by
  have k9 : isKey 9 := kk (by omega) (by omega)
  have k25 : isKey 25 := kk (by omega) (by omega)
  have k4 : isKey 4 := kk (by omega) (by omega)
  have k16 : isKey 16 := kk (by omega) (by omega)
  have k10 : isKey 10 := kk (by omega) (by omega)
  have k2 : isKey 2 := kk (by omega) (by omega)
  have k3 : isKey 3 := kk (by omega) (by omega)
  have l1 : low 2 9 25 = 4 := low2 (s := 30) (by decide) (by decide) (by decide) (by decide)
  have l2 : low 2 25 9 = 4 := low2 (s := 30) (by decide) (by decide) (by decide) (by decide)
  have l3 : low 2 2 3 = 1 := low2 (s := 4) (by decide) (by decide) (by decide) (by decide)
  have l4 : low 2 25 16 = 1 := low2 (s := 40) (by decide) (by decide) (by decide) (by decide)
  have l5 : low 2 10 10 = 0 := low_self 2 10 k10
  have h1 : high 2 9 25 = 64 := high2 (s := 30) (by decide) (by decide) (by decide) (by decide) (by decide)
  have h2 : high 2 25 9 = 64 := high2 (s := 30) (by decide) (by decide) (by decide) (by decide) (by decide)
  have h3 : high 2 2 3 = 9 := high2 (s := 4) (by decide) (by decide) (by decide) (by decide) (by decide)
  have h4 : high 2 25 16 = 81 := high2 (s := 40) (by decide) (by decide) (by decide) (by decide) (by decide)
  have h5 : high 2 4 9 = 25 := high2 (s := 12) (by decide) (by decide) (by decide) (by decide) (by decide)
  have s1 : low 1 9 25 = 16 := by decide
  have s2 : low 1 25 9 = 16 := by decide
  have s3 : high 1 9 25 = 34 := by decide
  have s4 : high 1 25 9 = 34 := by decide
  have r1 : ringLo 2 25 9 = 4 := by unfold ringLo; rw [if_pos (by decide)]; exact l2
  have r2 : ringLo 1 25 9 = 16 := by unfold ringLo; rw [if_pos (by decide)]; exact s2
  have r3 : ringLo 2 4 9 = 0 := by unfold ringLo; rw [if_neg (by decide)]
  have g1 : gap 2 9 16 25 = 1 := l4
  have g2 : gap 2 9 16 10 = 0 := l5
  have t1 : metric_Triangle.f 2 9 25 64 = some true := by rw [triangle_f 2 k9 k25, l1, h1]; rfl
  have t2 : metric_Triangle.f 2 9 25 65 = some false := by rw [triangle_f 2 k9 k25, l1, h1]; rfl
  have t3 : metric_Triangle.f 2 9 25 3 = some false := by rw [triangle_f 2 k9 k25, l1, h1]; rfl
  refine ev_ob (ring_f 2 k25 k9) (ev_ob (ring_f 1 k25 k9) (ev_ob (ring_f 2 k4 k9) ?_))
  refine ev_bind (ev_cast (isqrt_ev 35) (root_lit (s := 5) (by decide) (by decide) (by decide) (by decide) (by decide))) (ev_pos rfl ?_)
  refine ev_bind (ev_cast (isqrt_ev 36) (root_lit (s := 6) (by decide) (by decide) (by decide) (by decide) (by decide))) (ev_pos rfl ?_)
  refine ev_bind (ev_cast (isqrt_ev (-1)) (show root (clamp60 (-1)) = 0 from root_sq (x := 0) (by decide))) (ev_pos rfl ?_)
  refine ev_ob (low_f 1 k9 k25) (ev_pos s1 (ev_ob (high_f 1 k9 k25) ?_))
  rw [s3]
  refine ev_succ ?_
  simp only [antiquarylaw05_sanity.j0]
  refine ev_ob (low_f 2 k9 k25) (ev_pos l1 (ev_ob (high_f 2 k9 k25) (ev_pos h1 (ev_ob (low_f 2 k2 k3) (ev_pos l3 (ev_ob (high_f 2 k2 k3) ?_))))))
  rw [h3]
  refine ev_succ ?_
  simp only [antiquarylaw05_sanity.j1]
  refine ev_ob t1 (ev_pos rfl (ev_ob t2 (ev_neg (by decide) (ev_ob t3 ?_))))
  refine ev_succ ?_
  simp only [antiquarylaw05_sanity.j2]
  refine ev_pos r1 (ev_pos h2 (ev_pos r2 (ev_pos s4 (ev_pos r3 ?_))))
  rw [show ringHi 2 4 9 = 25 from h5]
  refine ev_succ ?_
  simp only [antiquarylaw05_sanity.j3]
  refine ev_pos rfl (ev_pos rfl (ev_pos rfl (ev_pos rfl ?_)))
  refine ev_ob (gap_f 2 k25 k9 k16) (ev_pos g1 (ev_ob (gap_f 2 k10 k9 k16) (ev_pos g2 (ev_ob (reach_f 2 k25 k16) (ev_pos h4 ?_)))))
  refine ev_ob (ball_f 2 64 k9 k25) (ev_pos (by rw [h1]; rfl) (ev_ob (ball_f 2 65 k9 k25) (ev_some ?_)))
  rw [h1]; rfl

theorem valid_ev (m x : Int) : antiquaryref05_Valid.f m x = some (decide ((1 ≤ m ∧ m ≤ 3) ∧ isKey x)) := by
  unfold antiquaryref05_Valid.f isKey
  split
  · split
    · split
      · congr 1; rw [Bool.eq_iff_iff]; simp; omega
      · congr 1; rw [Bool.eq_iff_iff]; simp; omega
    · congr 1; rw [Bool.eq_iff_iff]; simp; omega
  · congr 1; rw [Bool.eq_iff_iff]; simp; omega
theorem keys_f (m a b c : Int) : antiquarylaw05_keys.f m a b c = some (decide ((1 ≤ m ∧ m ≤ 3) ∧ isKey a ∧ isKey b ∧ isKey c)) := by
  unfold antiquarylaw05_keys.f
  simp only [valid_ev, Option.bind_some]
  split
  · rename_i h1
    split
    · rename_i h2
      congr 1; rw [Bool.eq_iff_iff]; simp only [decide_eq_true_eq] at *; exact ⟨fun h => ⟨h1.1, h1.2, h2.2, h.2⟩, fun h => ⟨h.1, h.2.2.2⟩⟩
    · rename_i h2
      congr 1; rw [Bool.eq_iff_iff]; simp only [decide_eq_true_eq] at *; exact ⟨fun h => (by cases h), fun h => absurd ⟨h.1, h.2.2.1⟩ h2⟩
  · rename_i h1
    congr 1; rw [Bool.eq_iff_iff]; simp only [decide_eq_true_eq] at *; exact ⟨fun h => (by cases h), fun h => absurd ⟨h.1, h.2.1⟩ h1⟩
end Go.Proofs.Ytflnbgdjpflbeaa.EvM
