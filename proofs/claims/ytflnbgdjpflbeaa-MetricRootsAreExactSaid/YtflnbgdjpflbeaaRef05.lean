/- What the specification of the metric (layer 5) comes to: roots, Low, High, and the ends of Ring that are searched by halves. -/
import Derived.Test.YtflnbgdjpflbeaaEv
set_option linter.unusedVariables false
namespace Go.Proofs.Ytflnbgdjpflbeaa.Ref05
open Go.RowKit Go.Proofs.Ytflnbgdjpflbeaa.Q Go.Proofs.YtflnbgdjpflbeaaW.PrintWords Plain Go.Proofs.Ytflnbgdjpflbeaa.EvM

/-- the binary digits of a root: with j digits to come, the root is from x on, before x + 2^j -/
theorem digits (n : Int) (hn : 0 ≤ n) (hn2 : n ≤ 1152921504606846976) (j : Nat) : j ≤ 31 → ∀ x : Int, 0 ≤ x → x + 2 ^ j ≤ 2147483648 → x * x ≤ n → n < (x + 2 ^ j) * (x + 2 ^ j) →
    Ev (fun k => antiquaryref05_Isqrt.l0 k n x ((j : Int) - 1)) (root n) := by
  induction j with
  | zero =>
    intro _ x h0 _ h1 h2
    refine ev_succ ?_
    simp only [antiquaryref05_Isqrt.l0]
    refine ev_neg (by omega) (ev_some ?_)
    exact (root_unique hn h0 h1 (by simpa using h2)).symm
  | succ j ih =>
    intro hj x h0 hb h1 h2
    have hp : (2 : Int) ^ (j + 1) = 2 * 2 ^ j := by rw [Int.pow_succ, Int.mul_comm]
    have hpn : ((2 : Int) ^ j) = ((2 ^ j : Nat) : Int) := by push_cast; rfl
    have hpos : 0 < (2 : Int) ^ j := by rw [hpn]; have := Nat.two_pow_pos j; omega
    have hs : shl .i64 1 (j : Int) = (2 : Int) ^ j := by rw [metric_shl_pow j (by omega), hpn]
    refine ev_succ ?_
    simp only [antiquaryref05_Isqrt.l0]
    rw [show (((j + 1 : Nat) : Int) - 1) = (j : Int) by omega, hs]
    rw [hp] at hb h2
    generalize (2 : Int) ^ j = z at *
    have hx := sq_le_sq (a := x + z) (b := 2147483648) (by omega) (by omega)
    have hx0 := sq_nonneg (x + z)
    rw [w64 (x := x + z) (by omega) (by omega), w64 (x := (x + z) * (x + z)) (by omega) (by omega), w64 (x := (j : Int) - 1) (by omega) (by omega)]
    refine ev_pos (by omega) (ev_pos (by omega) ?_)
    by_cases hc : (x + z) * (x + z) ≤ n
    · exact ev_pos hc (ih (by omega) (x + z) (by omega) (by omega) hc (by rw [show x + z + z = x + 2 * z by omega]; exact h2))
    · exact ev_neg hc (ih (by omega) x h0 (by omega) h1 (by omega))
theorem isqrt_ev {n : Int} (hn : 0 ≤ n) (hn2 : n ≤ 1152921504606846976) : Ev (fun k => antiquaryref05_Isqrt.f k n) (root n) := by
  unfold antiquaryref05_Isqrt.f
  refine ev_neg (by omega) (ev_succ ?_)
  simp only [antiquaryref05_Isqrt.j0]
  have := digits n hn hn2 31 (by omega) 0 (by omega) (by decide) (by omega) (by show n < (0 + 2147483648) * (0 + 2147483648); omega)
  exact this

theorem mul4_le {a b : Int} (ha : isKey a) (hb : isKey b) : 4 * a * b ≤ 72057594037927936 := by
  have := mul_key ha hb
  rw [four_mul]; omega
theorem low_ev (m : Int) {a b : Int} (ha : isKey a) (hb : isKey b) : Ev (fun k => antiquaryref05_Low.f k m a b) (low m a b) := by
  have h0 := mul4_nonneg ha hb
  have h1 := mul4_le ha hb
  have r0 := root_nonneg (4 * a * b)
  have r1 := root4_le ha hb
  have a0 := ha.1; have a1 := ha.2; have b0 := hb.1; have b1 := hb.2
  unfold antiquaryref05_Low.f low
  rw [w64 (x := 4 * a) (by omega) (by omega), w64 (x := 4 * a * b) (by omega) (by omega), w64 (x := a + b) (by omega) (by omega)]
  by_cases hm : m = 2
  · refine ev_pos hm (ev_bind (isqrt_ev h0 (by omega)) (ev_some ?_))
    rw [if_pos hm, w64 (by omega) (by omega)]
  · refine ev_neg hm ?_
    rw [if_neg hm]
    by_cases h : a < b
    · exact ev_pos h (ev_some (by rw [if_pos h, w64 (by omega) (by omega)]))
    · exact ev_neg h (ev_some (by rw [if_neg h, w64 (by omega) (by omega)]))
theorem high_ev (m : Int) {a b : Int} (ha : isKey a) (hb : isKey b) : Ev (fun k => antiquaryref05_High.f k m a b) (high m a b) := by
  have h0 := mul4_nonneg ha hb
  have h1 := mul4_le ha hb
  have r0 := root_nonneg (4 * a * b)
  have r1 := root4_le ha hb
  have a0 := ha.1; have a1 := ha.2; have b0 := hb.1; have b1 := hb.2
  unfold antiquaryref05_High.f high
  rw [w64 (x := 4 * a) (by omega) (by omega), w64 (x := 4 * a * b) (by omega) (by omega), w64 (x := a + b) (by omega) (by omega)]
  by_cases hm : m = 2
  · refine ev_pos hm (ev_bind (isqrt_ev h0 (by omega)) ?_)
    rw [if_pos hm, w64 (by omega) (by omega)]
    exact ev_ite (fun _ => ev_some rfl) (fun _ => ev_some rfl)
  · refine ev_neg hm ?_
    rw [if_neg hm]
    exact ev_ite (fun _ => ev_some rfl) (fun _ => ev_some rfl)
theorem triangle_ev (m : Int) {a b c : Int} (ha : isKey a) (hb : isKey b) : Ev (fun k => antiquaryref05_Triangle.f k m a b c) (decide (low m a b ≤ c ∧ c ≤ high m a b)) := by
  unfold antiquaryref05_Triangle.f
  refine ev_bind (low_ev m ha hb) ?_
  by_cases h : low m a b ≤ c
  · refine ev_pos h (ev_bind (high_ev m ha hb) (ev_some ?_))
    rw [Bool.eq_iff_iff, decide_eq_true_eq, decide_eq_true_eq]; omega
  · refine ev_neg h (ev_some ?_)
    symm; rw [decide_eq_false_iff_not]; omega
theorem gap_ev (m : Int) {lo hi a : Int} (ha : isKey a) (hl : isKey lo) (hh : isKey hi) (h : lo ≤ hi) : Ev (fun k => antiquaryref05_Gap.f k m lo hi a) (gap m lo hi a) := by
  unfold antiquaryref05_Gap.f gap
  by_cases c1 : a < lo
  · rw [clamp_lo c1 h]
    exact ev_pos c1 (ev_bind (low_ev m ha hl) (ev_some rfl))
  · refine ev_neg c1 ?_
    by_cases c2 : a > hi
    · rw [clamp_hi c2 h]
      exact ev_pos c2 (ev_bind (low_ev m ha hh) (ev_some rfl))
    · rw [clamp_in (by omega) (by omega), low_self m a ha]
      exact ev_neg c2 (ev_some rfl)
theorem reach_ev (m : Int) {lo hi a : Int} (ha : isKey a) (hl : isKey lo) (hh : isKey hi) (h : lo ≤ hi) : Ev (fun k => antiquaryref05_Reach.f k m lo hi a) (high m a hi) := by
  unfold antiquaryref05_Reach.f
  refine ev_bind (high_ev m ha hl) (ev_bind (high_ev m ha hh) ?_)
  have := high_mono m ha hl h
  exact ev_neg (by omega) (ev_some rfl)
theorem ball_ev (m c : Int) {r s : Int} (hr : isKey r) (hs : isKey s) : Ev (fun k => antiquaryref05_Ball.f k m c r s) (decide (c ≤ high m r s)) := by
  unfold antiquaryref05_Ball.f
  exact ev_bind (high_ev m hr hs) (ev_some rfl)

/-- the halves: up to the greatest one -/
theorem ring_l1 (m a t lo0 : Int) (ha : isKey a) (ht : isKey t) (d : Nat) : ∀ lo e : Int, a ≤ lo → lo < e → e ≤ 134217729 → lo ≤ ringHi m a t → ringHi m a t < e → ringLo m a t ≤ lo → e - lo ≤ d →
    Ev (fun k => antiquaryref05_Ring.l1 k m a t e lo0 lo) (lo0, ringHi m a t) := by
  have a0 := ha.1
  induction d with
  | zero => intro lo e _ h _ _ _ _ h2; omega
  | succ d ih =>
    intro lo e h1 h2 h3 h4 h5 h6 h7
    refine ev_succ ?_
    simp only [antiquaryref05_Ring.l1]
    rw [w64 (x := e - lo) (by omega) (by omega)]
    by_cases hc : e - lo > 1
    · have e1 : Int.tdiv (e - lo) 2 = (e - lo) / 2 := Int.tdiv_eq_ediv_of_nonneg (by omega)
      rw [e1, w64 (x := (e - lo) / 2) (by omega) (by omega), w64 (x := lo + (e - lo) / 2) (by omega) (by omega)]
      have hmid : isKey (lo + (e - lo) / 2) := ⟨by omega, by omega⟩
      have hi := low_le_iff m ha hmid ht
      refine ev_pos hc (ev_bind (low_ev m ha hmid) ?_)
      by_cases hl : low m a (lo + (e - lo) / 2) ≤ t
      · have := hi.mp hl
        exact ev_pos hl (ih _ _ (by omega) (by omega) h3 (by omega) h5 (by omega) (by omega))
      · have : ¬ (lo + (e - lo) / 2 ≤ ringHi m a t) := fun h => hl (hi.mpr ⟨by omega, h⟩)
        exact ev_neg hl (ih _ _ h1 (by omega) (by omega) h4 (by omega) h6 (by omega))
    · exact ev_neg hc (ev_some (by rw [show lo = ringHi m a t by omega]))
theorem ring_l0 (m a t : Int) (ha : isKey a) (ht : isKey t) (d : Nat) : ∀ from_ lo : Int, -1 ≤ from_ → from_ < lo → lo ≤ a → from_ < ringLo m a t → ringLo m a t ≤ lo → lo - from_ ≤ d →
    Ev (fun k => antiquaryref05_Ring.l0 k m a t from_ lo a) (ringLo m a t, ringHi m a t) := by
  have a0 := ha.1
  have a1 := ha.2
  have hself := ring_has_self m ha ht
  have hhk : isKey (ringHi m a t) := high_key m ha ht
  induction d with
  | zero => intro f lo _ h _ _ _ h2; omega
  | succ d ih =>
    intro f lo h1 h2 h3 h4 h5 h6
    refine ev_succ ?_
    simp only [antiquaryref05_Ring.l0]
    rw [w64 (x := lo - f) (by omega) (by omega)]
    by_cases hc : lo - f > 1
    · have e1 : Int.tdiv (lo - f) 2 = (lo - f) / 2 := Int.tdiv_eq_ediv_of_nonneg (by omega)
      rw [e1, w64 (x := (lo - f) / 2) (by omega) (by omega), w64 (x := f + (lo - f) / 2) (by omega) (by omega)]
      have hmid : isKey (f + (lo - f) / 2) := ⟨by omega, by omega⟩
      have hi := low_le_iff m ha hmid ht
      refine ev_pos hc (ev_bind (low_ev m ha hmid) ?_)
      by_cases hl : low m a (f + (lo - f) / 2) ≤ t
      · have := hi.mp hl
        exact ev_pos hl (ih _ _ h1 (by omega) (by omega) h4 (by omega) (by omega))
      · have : ¬ (ringLo m a t ≤ f + (lo - f) / 2) := fun h => hl (hi.mpr ⟨h, by omega⟩)
        exact ev_neg hl (ih _ _ (by omega) (by omega) h3 (by omega) h5 (by omega))
    · refine ev_neg hc ?_
      have := ring_l1 m a t lo ha ht (134217729 - a).toNat a 134217729 (Int.le_refl _) (by omega) (Int.le_refl _) hself.2 (by have := hhk.2; omega) hself.1 (by omega)
      refine ev_cast this ?_
      rw [show lo = ringLo m a t by omega]
theorem ring_ev (m : Int) {a t : Int} (ha : isKey a) (ht : isKey t) : Ev (fun k => antiquaryref05_Ring.f k m a t) (ringLo m a t, ringHi m a t) := by
  have := ringLo_nonneg m ha ht
  have := ring_has_self m ha ht
  have := ha.1
  exact ring_l0 m a t ha ht (a + 1).toNat (-1) a (by omega) (by omega) (by omega) (by omega) (by omega) (by omega)
end Go.Proofs.Ytflnbgdjpflbeaa.Ref05
