/- Plain vectors: norms, keys, and the triangle inequality in integers (no program). -/
-- LATE
import Derived.Test.YtflnbgdjpflbeaaPlMetric
set_option linter.unusedVariables false
set_option linter.unusedSimpArgs false
namespace Plain

def isVec (v : List Int) : Prop := (∀ x ∈ v, -1000 ≤ x ∧ x ≤ 1000) ∧ 1 ≤ v.length ∧ v.length ≤ 32
instance (v : List Int) : Decidable (isVec v) := by unfold isVec; infer_instance
def alike (p q : List Int) : Prop := isVec p ∧ isVec q ∧ p.length = q.length
instance (p q : List Int) : Decidable (alike p q) := by unfold alike; infer_instance

def mag (x : Int) : Int := if x < 0 then -x else x
theorem mag_nonneg (x : Int) : 0 ≤ mag x := by unfold mag; split <;> omega
theorem mag_neg (x : Int) : mag (-x) = mag x := by unfold mag; split <;> split <;> omega
theorem mag_add (x y : Int) : mag (x + y) ≤ mag x + mag y := by unfold mag; split <;> split <;> split <;> omega
/-- what a coordinate adds to a norm, and how it is joined -/
def ptl (m x : Int) : Int := if m = 2 then x * x else mag x
def join (m a b : Int) : Int := if m = 1 ∨ m = 2 then a + b else if a < b then b else a
def norm (m : Int) : List Int → Int
  | [] => 0
  | x :: v => join m (ptl m x) (norm m v)
def diffs : List Int → List Int → List Int
  | x :: p, y :: q => (x - y) :: diffs p q
  | _, _ => []
/-- the key of two vectors -/
def key (m : Int) (p q : List Int) : Int := norm m (diffs p q)

theorem join_assoc (m a b c : Int) : join m (join m a b) c = join m a (join m b c) := by
  unfold join
  by_cases h : m = 1 ∨ m = 2
  · simp only [if_pos h]; omega
  · simp only [if_neg h]; split <;> split <;> (try split) <;> omega
theorem join_comm (m a b : Int) : join m a b = join m b a := by
  unfold join
  split
  · omega
  · split <;> split <;> omega
theorem join_zero (m : Int) {a : Int} (h : 0 ≤ a) : join m a 0 = a := by
  unfold join
  split
  · omega
  · split <;> omega
theorem zero_join (m : Int) {a : Int} (h : 0 ≤ a) : join m 0 a = a := by rw [join_comm, join_zero m h]
theorem join_nonneg (m : Int) {a b : Int} (ha : 0 ≤ a) (hb : 0 ≤ b) : 0 ≤ join m a b := by
  unfold join
  split
  · omega
  · split <;> omega
theorem join_le_add (m : Int) {a b : Int} (ha : 0 ≤ a) (hb : 0 ≤ b) : join m a b ≤ a + b := by
  unfold join
  split
  · omega
  · split <;> omega
theorem join_mono (m : Int) {a b c d : Int} (h1 : a ≤ c) (h2 : b ≤ d) : join m a b ≤ join m c d := by
  unfold join
  split
  · omega
  · split <;> split <;> omega
theorem ptl_nonneg (m x : Int) : 0 ≤ ptl m x := by
  unfold ptl
  split
  · exact sq_nonneg x
  · exact mag_nonneg x
theorem ptl_le (m : Int) {x : Int} (h : -2000 ≤ x ∧ x ≤ 2000) : ptl m x ≤ 4000000 := by
  unfold ptl
  split
  · rcases Int.le_total 0 x with h0 | h0
    · have := sq_le_sq h0 h.2; omega
    · have := sq_le_sq (a := -x) (b := 2000) (by omega) (by omega)
      rw [Int.neg_mul_neg] at this; omega
  · unfold mag; split <;> omega
theorem ptl_neg (m x : Int) : ptl m (-x) = ptl m x := by
  unfold ptl
  rw [Int.neg_mul_neg, mag_neg]
theorem norm_nonneg (m : Int) : ∀ v, 0 ≤ norm m v
  | [] => by simp [norm]
  | x :: v => join_nonneg m (ptl_nonneg m x) (norm_nonneg m v)
theorem norm_le (m : Int) : ∀ v, (∀ x ∈ v, -2000 ≤ x ∧ x ≤ 2000) → norm m v ≤ 4000000 * v.length
  | [], _ => by simp [norm]
  | x :: v, h => by
    have h1 := norm_le m v (fun y hy => h y (List.mem_cons_of_mem _ hy))
    have h2 := ptl_le m (h x List.mem_cons_self)
    have h3 := join_le_add m (ptl_nonneg m x) (norm_nonneg m v)
    simp only [norm, List.length_cons]
    omega
theorem norm_append (m : Int) : ∀ u v, norm m (u ++ v) = join m (norm m u) (norm m v)
  | [], v => by simp only [norm, List.nil_append]; exact (zero_join m (norm_nonneg m v)).symm
  | x :: u, v => by simp only [norm, List.cons_append]; rw [norm_append m u v, join_assoc]
theorem diffs_length : ∀ p q : List Int, p.length = q.length → (diffs p q).length = p.length
  | [], [], _ => rfl
  | x :: p, y :: q, h => by simp only [diffs, List.length_cons]; rw [diffs_length p q (by simpa using h)]
theorem diffs_range : ∀ p q : List Int, (∀ x ∈ p, -1000 ≤ x ∧ x ≤ 1000) → (∀ x ∈ q, -1000 ≤ x ∧ x ≤ 1000) → ∀ x ∈ diffs p q, -2000 ≤ x ∧ x ≤ 2000
  | [], q, _, _, x, h => by simp [diffs] at h
  | _ :: _, [], _, _, x, h => by simp [diffs] at h
  | a :: p, b :: q, hp, hq, x, h => by
    simp only [diffs, List.mem_cons] at h
    rcases h with rfl | h
    · have h1 := hp a List.mem_cons_self
      have h2 := hq b List.mem_cons_self
      omega
    · exact diffs_range p q (fun y hy => hp y (List.mem_cons_of_mem _ hy)) (fun y hy => hq y (List.mem_cons_of_mem _ hy)) x h
theorem key_nonneg (m : Int) (p q : List Int) : 0 ≤ key m p q := norm_nonneg m _
theorem key_isKey (m : Int) {p q : List Int} (h : alike p q) : isKey (key m p q) := by
  refine ⟨key_nonneg m p q, ?_⟩
  obtain ⟨hp, hq, hl⟩ := h
  have h1 := norm_le m (diffs p q) (diffs_range p q hp.1 hq.1)
  rw [diffs_length p q hl] at h1
  have := hp.2.2
  unfold key
  omega
theorem norm_neg (m : Int) : ∀ p q : List Int, norm m (diffs p q) = norm m (diffs q p)
  | [], [] => rfl
  | [], _ :: _ => rfl
  | _ :: _, [] => rfl
  | x :: p, y :: q => by
    simp only [diffs, norm]
    rw [norm_neg m p q, show x - y = -(y - x) by omega, ptl_neg]
theorem key_comm (m : Int) (p q : List Int) : key m p q = key m q p := norm_neg m p q
theorem key_self (m : Int) : ∀ p : List Int, key m p p = 0
  | [] => rfl
  | x :: p => by
    have := key_self m p
    unfold key at *
    simp only [diffs, norm]
    rw [this, Int.sub_self]
    unfold ptl join mag
    simp
theorem alike_symm {p q : List Int} (h : alike p q) : alike q p := ⟨h.2.1, h.1, h.2.2.symm⟩
theorem alike_trans {p q r : List Int} (h : alike p q) (k : alike q r) : alike p r := ⟨h.1, k.2.1, h.2.2.trans k.2.2⟩
theorem alike_self {p : List Int} (h : isVec p) : alike p p := ⟨h, h, rfl⟩

/-- distances: the key of the sum is at most the sum of the keys -/
theorem key_add (m : Int) (hm : m ≠ 2) : ∀ p q r : List Int, p.length = q.length → q.length = r.length → key m p r ≤ key m p q + key m q r
  | [], [], [], _, _ => by simp [key, diffs, norm]
  | x :: p, y :: q, z :: r, h1, h2 => by
    have ih := key_add m hm p q r (by simpa using h1) (by simpa using h2)
    have n1 := norm_nonneg m (diffs p q)
    have n2 := norm_nonneg m (diffs q r)
    unfold key at *
    simp only [diffs, norm]
    have hs := mag_add (x - y) (y - z)
    rw [show x - y + (y - z) = x - z by omega] at hs
    have s1 := mag_nonneg (x - y)
    have s2 := mag_nonneg (y - z)
    have e : ∀ w, ptl m w = mag w := fun w => by unfold ptl; rw [if_neg hm]
    rw [e, e, e]
    unfold join
    by_cases hj : m = 1 ∨ m = 2
    · simp only [if_pos hj]; omega
    · simp only [if_neg hj]; split <;> split <;> split <;> omega

/-- squares: twice the product of the differences -/
def dot : List Int → List Int → Int
  | x :: u, y :: v => x * y + dot u v
  | _, _ => 0
theorem key2_cons (x y : Int) (p q : List Int) : key 2 (x :: p) (y :: q) = (x - y) * (x - y) + key 2 p q := rfl
theorem key2_dot : ∀ p q r : List Int, p.length = q.length → q.length = r.length → key 2 p r = key 2 p q + key 2 q r + 2 * dot (diffs p q) (diffs q r)
  | [], [], [], _, _ => rfl
  | x :: p, y :: q, z :: r, h1, h2 => by
    have ih := key2_dot p q r (by simpa using h1) (by simpa using h2)
    rw [key2_cons, key2_cons, key2_cons]
    simp only [diffs, dot]
    have e : (x - z) * (x - z) = (x - y) * (x - y) + (y - z) * (y - z) + 2 * ((x - y) * (y - z)) := by
      rw [show x - z = (x - y) + (y - z) by omega]
      generalize x - y = a
      generalize y - z = b
      simp only [Int.add_mul, Int.mul_add, Int.mul_comm b a]
      omega
    omega
theorem mul_sq (a b : Int) : (a * b) * (a * b) = (a * a) * (b * b) := by
  simp only [Int.mul_assoc, Int.mul_left_comm]
/-- Cauchy's inequality -/
theorem cauchy : ∀ u v : List Int, dot u v * dot u v ≤ norm 2 u * norm 2 v
  | [], v => by
    have : dot [] v = 0 := by cases v <;> rfl
    rw [this]; simp [norm]
  | _ :: _, [] => by simp [dot, norm]
  | x :: u, y :: v => by
    have ih := cauchy u v
    have hA := norm_nonneg 2 u
    have hB := norm_nonneg 2 v
    show (x * y + dot u v) * (x * y + dot u v) ≤ (x * x + norm 2 u) * (y * y + norm 2 v)
    generalize norm 2 u = A at *
    generalize norm 2 v = B at *
    generalize dot u v = D at *
    have hx := sq_nonneg x
    have hy := sq_nonneg y
    have h1 : 0 ≤ (x * x) * B := Int.mul_nonneg hx hB
    have h2 : 0 ≤ A * (y * y) := Int.mul_nonneg hA hy
    -- twice the product is at most the sum
    have h3 : 2 * (x * y * D) ≤ (x * x) * B + A * (y * y) := by
      apply le_of_sq_le (by omega)
      have h4 : (x * y * D) * (x * y * D) ≤ (x * x) * B * (A * (y * y)) := by
        have e1 : (x * y * D) * (x * y * D) = ((x * x) * (y * y)) * (D * D) := by rw [mul_sq (x * y) D, mul_sq x y]
        have e2 : (x * x) * B * (A * (y * y)) = ((x * x) * (y * y)) * (A * B) := by
          simp only [Int.mul_assoc, Int.mul_left_comm, Int.mul_comm]
        rw [e1, e2]
        exact Int.mul_le_mul_of_nonneg_left ih (Int.mul_nonneg hx hy)
      generalize (x * x) * B = P at *
      generalize A * (y * y) = Q at *
      generalize x * y * D = E at *
      have h5 := sq_nonneg (P - Q)
      have e3 : (P - Q) * (P - Q) = P * P - 2 * (P * Q) + Q * Q := by
        rw [Int.sub_mul, Int.mul_sub, Int.mul_sub, Int.mul_comm Q P]; omega
      have e4 : (P + Q) * (P + Q) = P * P + 2 * (P * Q) + Q * Q := by
        rw [Int.add_mul, Int.mul_add, Int.mul_add, Int.mul_comm Q P]; omega
      have e5 : (2 * E) * (2 * E) = 4 * (E * E) := by
        rw [Int.mul_assoc, Int.mul_left_comm E 2 E, ← Int.mul_assoc 2 2 (E * E)]; rfl
      omega
    have e6 : (x * y + D) * (x * y + D) = (x * x) * (y * y) + 2 * (x * y * D) + D * D := by
      rw [Int.add_mul, Int.mul_add, Int.mul_add, Int.mul_comm D (x * y), mul_sq]; omega
    have e7 : (x * x + A) * (y * y + B) = (x * x) * (y * y) + (x * x) * B + A * (y * y) + A * B := by
      rw [Int.add_mul, Int.mul_add, Int.mul_add]; omega
    omega

/-- T9: the keys of three vectors that are alike -/
theorem key_between (m : Int) {p q r : List Int} (h1 : alike p q) (h2 : alike q r) : low m (key m p q) (key m q r) ≤ key m p r ∧ key m p r ≤ high m (key m p q) (key m q r) := by
  have h3 := alike_trans h1 h2
  refine between_of m (key_isKey m h1) (key_isKey m h2) (key_isKey m h3) ?_ ?_
  · intro hm
    subst hm
    have e := key2_dot p q r h1.2.2 h2.2.2
    have c := cauchy (diffs p q) (diffs q r)
    have e2 : key 2 p r - (key 2 p q + key 2 q r) = 2 * dot (diffs p q) (diffs q r) := by omega
    rw [e2, show key 2 p q * key 2 q r = norm 2 (diffs p q) * norm 2 (diffs q r) from rfl]
    generalize dot (diffs p q) (diffs q r) = E at *
    have e5 : (2 * E) * (2 * E) = 4 * (E * E) := by
      rw [Int.mul_assoc, Int.mul_left_comm E 2 E, ← Int.mul_assoc 2 2 (E * E)]; rfl
    omega
  · intro hm
    refine ⟨key_add m hm p q r h1.2.2 h2.2.2, ?_, ?_⟩
    · have := key_add m hm p r q h3.2.2 h2.2.2.symm
      rw [key_comm m r q] at this
      omega
    · have := key_add m hm q p r h1.2.2.symm h3.2.2
      rw [key_comm m q p] at this
      omega
end Plain
