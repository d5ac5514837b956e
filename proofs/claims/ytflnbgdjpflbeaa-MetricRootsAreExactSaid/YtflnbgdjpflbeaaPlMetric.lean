/- Plain arithmetic of the bounds of keys: Low, High, Ring (no program). -/
-- LATE
import Derived.Test.YtflnbgdjpflbeaaPlRoot
set_option linter.unusedVariables false
set_option linter.unusedSimpArgs false
namespace Plain

theorem sq_nonneg (x : Int) : 0 ≤ x * x := by
  rcases Int.le_total 0 x with h | h
  · exact Int.mul_nonneg h h
  · exact Int.mul_nonneg_of_nonpos_of_nonpos h h

/-- what is at most the root, in absolute value -/
theorem abs_le_root {n d : Int} (hn : 0 ≤ n) : (-(root n) ≤ d ∧ d ≤ root n) ↔ d * d ≤ n := by
  constructor
  · rintro ⟨h1, h2⟩
    rcases Int.le_total 0 d with h | h
    · exact sq_le_of_le_root hn h h2
    · have := sq_le_of_le_root hn (x := -d) (by omega) (by omega)
      rwa [Int.neg_mul_neg] at this
  · intro h
    have h1 := le_root hn h
    have h2 := le_root (x := -d) hn (by rwa [Int.neg_mul_neg])
    omega

theorem heron (a b t : Int) : (a + b - t) * (a + b - t) - 4 * (a * b) = (b - (a + t)) * (b - (a + t)) - 4 * (a * t) := by
  simp only [Int.add_mul, Int.mul_add, Int.sub_mul, Int.mul_sub, Int.mul_comm b a, Int.mul_comm t a, Int.mul_comm t b]
  omega

def ringLo (m a t : Int) : Int := if t < a then low m a t else 0
def ringHi (m a t : Int) : Int := high m a t

theorem mul4_nonneg {a b : Int} (ha : isKey a) (hb : isKey b) : 0 ≤ 4 * a * b := by
  have := mul_key ha hb
  rw [four_mul]; omega

theorem low_comm (m a b : Int) : low m a b = low m b a := by
  unfold low
  rw [four_mul, four_mul, Int.mul_comm a b]
  split
  · omega
  · split <;> split <;> omega
theorem high_comm (m a b : Int) : high m a b = high m b a := by
  unfold high
  rw [four_mul, four_mul, Int.mul_comm a b, Int.add_comm a b]
theorem low_self (m a : Int) (ha : isKey a) : low m a a = 0 := by
  unfold low
  split
  · have e : 4 * a * a = (2 * a) * (2 * a) := by
      rw [Int.mul_assoc, Int.mul_assoc, Int.mul_left_comm a 2 a, ← Int.mul_assoc 2 2 (a * a)]; rfl
    rw [e, root_sq (by have := ha.1; omega)]
    omega
  · split <;> omega
theorem low_nonneg (m : Int) {a b : Int} (ha : isKey a) (hb : isKey b) : 0 ≤ low m a b := by
  unfold low
  split
  · have h0 := mul4_nonneg ha hb
    have h1 : root (4 * a * b) ≤ a + b := by
      refine root_le h0 (by have := ha.1; have := hb.1; omega) ?_
      have h2 := sq_nonneg (a - b)
      have e1 : (a - b) * (a - b) = a * a - 2 * (a * b) + b * b := by
        rw [Int.sub_mul, Int.mul_sub, Int.mul_sub, Int.mul_comm b a]; omega
      have e2 : (a + b + 1) * (a + b + 1) = a * a + 2 * (a * b) + b * b + 2 * (a + b) + 1 := by
        simp only [Int.add_mul, Int.mul_add, Int.mul_comm b a, Int.mul_one, Int.one_mul]; omega
      rw [four_mul]
      have := ha.1
      have := hb.1
      omega
    omega
  · split <;> omega
/-- twice the lesser one is at most the root of the product, four times -/
theorem two_min_le_root {a b : Int} (ha : isKey a) (hb : isKey b) (h : a ≤ b) : 2 * a ≤ root (4 * a * b) := by
  refine le_root (mul4_nonneg ha hb) ?_
  have h1 : a * a ≤ a * b := Int.mul_le_mul_of_nonneg_left h ha.1
  have e : (2 * a) * (2 * a) = 4 * (a * a) := by
    rw [Int.mul_assoc, Int.mul_left_comm a 2 a, ← Int.mul_assoc 2 2 (a * a)]; rfl
  rw [e, four_mul]
  omega
theorem low_le_max (m : Int) {a b : Int} (ha : isKey a) (hb : isKey b) : low m a b ≤ a ∨ low m a b ≤ b := by
  unfold low
  split
  · have := ha.1; have := hb.1
    rcases Int.le_total a b with h | h
    · have := two_min_le_root ha hb h; right; omega
    · have := two_min_le_root hb ha h
      rw [show 4 * b * a = 4 * a * b by rw [four_mul, four_mul, Int.mul_comm b a]] at this
      left; omega
  · have := ha.1; have := hb.1
    split
    · right; omega
    · left; omega
theorem low_key (m : Int) {a b : Int} (ha : isKey a) (hb : isKey b) : isKey (low m a b) := by
  refine ⟨low_nonneg m ha hb, ?_⟩
  have := ha.2; have := hb.2
  rcases low_le_max m ha hb with h | h <;> omega
theorem high_key (m : Int) {a b : Int} (ha : isKey a) (hb : isKey b) : isKey (high m a b) := by
  have := ha.1; have := hb.1; have := root_nonneg (4 * a * b)
  unfold high isKey
  split <;> split <;> constructor <;> omega
theorem high_ge (m : Int) {a b : Int} (ha : isKey a) (hb : isKey b) : a ≤ high m a b ∧ b ≤ high m a b := by
  have := ha.1; have := hb.1; have := ha.2; have := hb.2; have := root_nonneg (4 * a * b)
  unfold high
  split <;> split <;> constructor <;> omega
theorem low_le_high (m : Int) {a b : Int} (ha : isKey a) (hb : isKey b) : low m a b ≤ high m a b := by
  have := high_ge m ha hb
  rcases low_le_max m ha hb with h | h <;> omega
theorem high_zero (m : Int) {a : Int} (ha : isKey a) : high m a 0 = a := by
  have := ha.2
  unfold high
  have e : root (4 * a * 0) = 0 := by rw [Int.mul_zero]; exact root_sq (x := 0) (by omega)
  rw [e]
  split <;> rw [if_neg (by omega)] <;> omega

/-- P5.10: a key is in the Ring exactly if Low is at most t -/
theorem low_le_iff (m : Int) {a b t : Int} (ha : isKey a) (hb : isKey b) (ht : isKey t) : low m a b ≤ t ↔ ringLo m a t ≤ b ∧ b ≤ ringHi m a t := by
  have ha0 := ha.1; have hb0 := hb.1; have ht0 := ht.1; have hb1 := hb.2
  unfold ringLo ringHi
  by_cases hm : m = 2
  · subst hm
    have hn1 := mul4_nonneg ha hb
    have hn2 := mul4_nonneg ha ht
    have hs0 := root_nonneg (4 * a * t)
    have hr0 := root_nonneg (4 * a * b)
    have key1 := abs_le_root (d := a + b - t) hn1
    have key2 := abs_le_root (d := b - (a + t)) hn2
    have hh := heron a b t
    rw [four_mul a b] at key1 hr0 hn1
    rw [four_mul a t] at key2 hs0 hn2
    have hhigh : b ≤ high 2 a t ↔ b ≤ a + t + root (4 * (a * t)) := by
      unfold high
      rw [if_pos rfl, four_mul]
      split <;> omega
    have hlow : low 2 a b = a + b - root (4 * (a * b)) := by unfold low; rw [if_pos rfl, four_mul]
    have hlow2 : low 2 a t = a + t - root (4 * (a * t)) := by unfold low; rw [if_pos rfl, four_mul]
    rw [hhigh, hlow, hlow2]
    by_cases hta : t < a
    · rw [if_pos hta]
      constructor
      · intro h
        have h1 := key1.mp ⟨by omega, by omega⟩
        have h2 := key2.mpr (by omega)
        omega
      · rintro ⟨h1, h2⟩
        have h3 := key2.mp ⟨by omega, by omega⟩
        have h4 := key1.mpr (by omega)
        omega
    · rw [if_neg hta]
      have h2a := two_min_le_root ha ht (by omega)
      rw [four_mul] at h2a
      constructor
      · intro h
        refine ⟨hb0, ?_⟩
        by_cases hbt : a + b - t ≤ 0
        · omega
        · have h1 := key1.mp ⟨by omega, by omega⟩
          have h2 := key2.mpr (by omega)
          omega
      · rintro ⟨_, h2⟩
        by_cases hbt : a + b - t ≤ 0
        · omega
        · have h3 := key2.mp ⟨by omega, by omega⟩
          have h4 := key1.mpr (by omega)
          omega
  · have hhigh : b ≤ high m a t ↔ b ≤ a + t := by
      unfold high
      rw [if_neg hm]
      split <;> omega
    have hlow : low m a b = if a < b then b - a else a - b := by unfold low; rw [if_neg hm]
    have hlow2 : low m a t = if a < t then t - a else a - t := by unfold low; rw [if_neg hm]
    rw [hhigh, hlow, hlow2]
    constructor
    · intro h
      constructor
      · split
        · rw [if_neg (by omega)]
          split at h <;> omega
        · exact hb0
      · split at h <;> omega
    · rintro ⟨h1, h2⟩
      split at h1
      · rw [if_neg (by omega)] at h1
        split <;> omega
      · split <;> omega

theorem ring_has_self (m : Int) {a t : Int} (ha : isKey a) (ht : isKey t) : ringLo m a t ≤ a ∧ a ≤ ringHi m a t :=
  (low_le_iff m ha ha ht).mp (by rw [low_self m a ha]; exact ht.1)
theorem ringLo_nonneg (m : Int) {a t : Int} (ha : isKey a) (ht : isKey t) : 0 ≤ ringLo m a t := by
  unfold ringLo
  split
  · exact low_nonneg m ha ht
  · omega
theorem high_mono (m : Int) {a x y : Int} (ha : isKey a) (hx : isKey x) (h : x ≤ y) : high m a x ≤ high m a y := by
  have h1 : root (4 * a * x) ≤ root (4 * a * y) := by
    refine root_mono (mul4_nonneg ha hx) ?_
    exact Int.mul_le_mul_of_nonneg_left h (by have := ha.1; omega)
  unfold high
  split
  · split <;> split <;> omega
  · split <;> split <;> omega
theorem high_mono2 (m : Int) {a b x y : Int} (ha : isKey a) (hx : isKey x) (hb : isKey b) (hab : a ≤ b) (h : x ≤ y) : high m a x ≤ high m b y := by
  have h1 := high_mono m hx ha hab
  have h2 := high_mono m hb hx h
  rw [high_comm m x a, high_comm m x b] at h1
  omega
/-- Low does not decrease when a key moves away -/
theorem low_mono (m : Int) {a x y : Int} (ha : isKey a) (hx : isKey x) (hy : isKey y) (h : (a ≤ x ∧ x ≤ y) ∨ (y ≤ x ∧ x ≤ a)) : low m a x ≤ low m a y := by
  have ht := low_key m ha hy
  have h1 := (low_le_iff m ha hy ht).mp (Int.le_refl _)
  have h2 := ring_has_self m ha ht
  exact (low_le_iff m ha hx ht).mpr (by omega)

/-- the number of an interval that is nearest to a number -/
def clamp (x lo hi : Int) : Int := if lo < (if hi < x then hi else x) then (if hi < x then hi else x) else lo
theorem clamp_lo {x lo hi : Int} (h : x < lo) (hh : lo ≤ hi) : clamp x lo hi = lo := by
  unfold clamp
  rw [if_neg (show ¬ hi < x by omega), if_neg (by omega)]
theorem clamp_hi {x lo hi : Int} (h : hi < x) (hh : lo ≤ hi) : clamp x lo hi = hi := by
  unfold clamp
  rw [if_pos h]
  split <;> omega
theorem clamp_in {x lo hi : Int} (h1 : lo ≤ x) (h2 : x ≤ hi) : clamp x lo hi = x := by
  unfold clamp
  rw [if_neg (show ¬ hi < x by omega)]
  split <;> omega
theorem clamp_key {x lo hi : Int} (hx : isKey x) (hl : isKey lo) (hh : isKey hi) : isKey (clamp x lo hi) := by
  unfold clamp
  by_cases h : hi < x
  · simp only [if_pos h]
    split <;> assumption
  · simp only [if_neg h]
    split <;> assumption
theorem clamp_eq {x lo hi : Int} (h : lo ≤ hi) : x = clamp x lo hi ↔ lo ≤ x ∧ x ≤ hi := by
  by_cases h1 : x < lo
  · rw [clamp_lo h1 h]; omega
  · by_cases h2 : hi < x
    · rw [clamp_hi h2 h]; omega
    · rw [clamp_in (by omega) (by omega)]; omega

/-- the least Low of a key and those from lo to hi -/
def gap (m lo hi a : Int) : Int := low m a (clamp a lo hi)
theorem gap_le (m : Int) {lo hi a b : Int} (ha : isKey a) (hl : isKey lo) (hh : isKey hi) (hb : isKey b) (h1 : lo ≤ b) (h2 : b ≤ hi) : gap m lo hi a ≤ low m a b := by
  unfold gap
  by_cases c1 : a < lo
  · rw [clamp_lo c1 (by omega)]
    exact low_mono m ha hl hb (.inl ⟨by omega, h1⟩)
  · by_cases c2 : hi < a
    · rw [clamp_hi c2 (by omega)]
      exact low_mono m ha hh hb (.inr ⟨h2, by omega⟩)
    · rw [clamp_in (by omega) (by omega), low_self m a ha]
      exact low_nonneg m ha hb
theorem gap_zero (m : Int) {lo hi a : Int} (ha : isKey a) (hl : isKey lo) (hh : isKey hi) (h : lo ≤ hi) : gap m lo hi a = 0 ↔ (ringLo m a 0 ≤ hi ∧ ringHi m a 0 ≥ lo) := by
  have h0 : isKey 0 := ⟨by omega, by omega⟩
  have hc := clamp_key ha hl hh
  have hs := ring_has_self m ha h0
  have h1 := low_le_iff m ha hc h0
  have h2 := low_nonneg m ha hc
  unfold gap
  by_cases c1 : a < lo
  · rw [clamp_lo c1 h] at *; omega
  · by_cases c2 : hi < a
    · rw [clamp_hi c2 h] at *; omega
    · rw [clamp_in (by omega) (by omega)] at *; omega

/-- the key of a distance -/
def dkey (m d : Int) : Int := if m = 2 then d * d else d
theorem dkey_isKey (m : Int) {d : Int} (h0 : 0 ≤ d) (h1 : d ≤ 11585) : isKey (dkey m d) := by
  unfold dkey isKey
  split
  · have := sq_le_sq h0 h1
    have := sq_nonneg d
    omega
  · omega
theorem root_prod {d e : Int} (hd : 0 ≤ d) (he : 0 ≤ e) : root (4 * (d * d) * (e * e)) = 2 * (d * e) := by
  have : 4 * (d * d) * (e * e) = (2 * (d * e)) * (2 * (d * e)) := by
    simp only [Int.mul_assoc, Int.mul_left_comm, Int.mul_comm]
    rfl
  rw [this]
  exact root_sq (by have := Int.mul_nonneg hd he; omega)
theorem low_tight (m : Int) {d e : Int} (hd : 0 ≤ d) (he : 0 ≤ e) : low m (dkey m d) (dkey m e) = dkey m (if d < e then e - d else d - e) := by
  unfold low dkey
  by_cases hm : m = 2
  · simp only [if_pos hm]
    rw [root_prod hd he]
    split <;> (simp only [Int.sub_mul, Int.mul_sub, Int.mul_comm e d]; omega)
  · simp only [if_neg hm]
theorem high_tight (m : Int) {d e : Int} (hd : 0 ≤ d) (he : 0 ≤ e) : high m (dkey m d) (dkey m e) = if 134217728 < dkey m (d + e) then 134217728 else dkey m (d + e) := by
  unfold high dkey
  by_cases hm : m = 2
  · simp only [if_pos hm]
    rw [root_prod hd he]
    have e1 : (d + e) * (d + e) = d * d + e * e + 2 * (d * e) := by
      simp only [Int.add_mul, Int.mul_add, Int.mul_comm e d]; omega
    rw [e1]
  · simp only [if_neg hm]

/-- three keys whose middle one is bounded by the others: what the vectors give -/
theorem between_of (m : Int) {a b c : Int} (ha : isKey a) (hb : isKey b) (hc : isKey c)
    (h1 : m = 2 → (c - (a + b)) * (c - (a + b)) ≤ 4 * (a * b)) (h2 : m ≠ 2 → c ≤ a + b ∧ a ≤ b + c ∧ b ≤ a + c) : low m a b ≤ c ∧ c ≤ high m a b := by
  have hc1 := hc.2
  unfold low high
  by_cases hm : m = 2
  · have h := (abs_le_root (d := c - (a + b)) (by have := mul_key ha hb; omega)).mpr (h1 hm)
    simp only [if_pos hm, four_mul]
    constructor
    · omega
    · split <;> omega
  · have h := h2 hm
    simp only [if_neg hm]
    constructor
    · split <;> omega
    · split <;> omega
end Plain
