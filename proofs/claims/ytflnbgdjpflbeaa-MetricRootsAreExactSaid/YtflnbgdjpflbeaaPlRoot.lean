/- Plain arithmetic: the integer root, and the bounds of keys that are made of it (no program). -/
import Derived.Lib.BitFns
set_option linter.unusedVariables false
set_option linter.unusedSimpArgs false
namespace Plain

/-- the root of a natural number, rounded down -/
def rootN : Nat → Nat
  | 0 => 0
  | n + 1 => if (rootN n + 1) * (rootN n + 1) ≤ n + 1 then rootN n + 1 else rootN n

theorem rootN_lo (n : Nat) : rootN n * rootN n ≤ n := by
  induction n with
  | zero => simp [rootN]
  | succ n ih =>
    unfold rootN
    split
    · assumption
    · omega

theorem rootN_hi (n : Nat) : n < (rootN n + 1) * (rootN n + 1) := by
  induction n with
  | zero => simp [rootN]
  | succ n ih =>
    unfold rootN
    split
    · rename_i h
      have e : (rootN n + 1 + 1) * (rootN n + 1 + 1) = (rootN n + 1) * (rootN n + 1) + 2 * (rootN n + 1) + 1 := by
        generalize rootN n + 1 = x
        simp only [Nat.add_mul, Nat.mul_add, Nat.mul_one, Nat.one_mul]
        omega
      omega
    · omega

/-- the root of an integer: 0 for what is negative -/
def root (n : Int) : Int := (rootN n.toNat : Int)

theorem root_nonneg (n : Int) : 0 ≤ root n := by unfold root; omega

theorem root_lo {n : Int} (h : 0 ≤ n) : root n * root n ≤ n := by
  have := rootN_lo n.toNat
  unfold root
  have e : ((rootN n.toNat * rootN n.toNat : Nat) : Int) ≤ (n.toNat : Int) := by exact_mod_cast this
  rw [Int.natCast_mul] at e
  omega

theorem root_hi (n : Int) : n < (root n + 1) * (root n + 1) := by
  have := rootN_hi n.toNat
  unfold root
  have e : (n.toNat : Int) < (((rootN n.toNat + 1) * (rootN n.toNat + 1) : Nat) : Int) := by exact_mod_cast this
  rw [Int.natCast_mul] at e
  have h1 : ((rootN n.toNat + 1 : Nat) : Int) = (rootN n.toNat : Int) + 1 := by omega
  rw [h1] at e
  omega

/-- squares and order -/
theorem sq_le_sq {a b : Int} (ha : 0 ≤ a) (h : a ≤ b) : a * a ≤ b * b := Int.mul_le_mul h h ha (by omega)
theorem sq_lt_sq {a b : Int} (ha : 0 ≤ a) (h : a < b) : a * a < b * b := by
  have h1 : a * a ≤ a * b := Int.mul_le_mul_of_nonneg_left (by omega) ha
  have h2 : a * b < b * b := Int.mul_lt_mul_of_pos_right h (by omega)
  omega
theorem le_of_sq_le {a b : Int} (hb : 0 ≤ b) (h : a * a ≤ b * b) : a ≤ b := by
  apply Decidable.byContradiction
  intro hc
  have := sq_lt_sq hb (show b < a by omega)
  omega
theorem lt_of_sq_lt {a b : Int} (hb : 0 ≤ b) (h : a * a < b * b) : a < b := by
  apply Decidable.byContradiction
  intro hc
  have := sq_le_sq hb (show b ≤ a by omega)
  omega

/-- what is at most the root -/
theorem le_root {n x : Int} (hn : 0 ≤ n) (h : x * x ≤ n) : x ≤ root n := by
  have h1 := root_hi n
  have h0 := root_nonneg n
  have : x < root n + 1 := lt_of_sq_lt (by omega) (by omega)
  omega
theorem sq_le_of_le_root {n x : Int} (hn : 0 ≤ n) (hx : 0 ≤ x) (h : x ≤ root n) : x * x ≤ n := by
  have h1 := sq_le_sq hx h
  have h2 := root_lo hn
  omega
theorem root_unique {n x : Int} (hn : 0 ≤ n) (hx : 0 ≤ x) (h1 : x * x ≤ n) (h2 : n < (x + 1) * (x + 1)) : root n = x := by
  have a := le_root hn h1
  have b : root n < x + 1 := by
    have h3 := root_lo hn
    exact lt_of_sq_lt (by omega) (by omega)
  omega
theorem root_le {n x : Int} (hn : 0 ≤ n) (hx : 0 ≤ x) (h : n < (x + 1) * (x + 1)) : root n ≤ x := by
  have h3 := root_lo hn
  have : root n < x + 1 := lt_of_sq_lt (by omega) (by omega)
  omega
theorem root_mono {n m : Int} (hn : 0 ≤ n) (h : n ≤ m) : root n ≤ root m := by
  have h3 := root_lo hn
  exact le_root (by omega) (by omega)
theorem root_sq {x : Int} (hx : 0 ≤ x) : root (x * x) = x := by
  refine root_unique (Int.mul_nonneg hx hx) hx (Int.le_refl _) ?_
  exact sq_lt_sq hx (by omega)

/-- a key -/
def isKey (a : Int) : Prop := 0 ≤ a ∧ a ≤ 134217728
instance (a : Int) : Decidable (isKey a) := by unfold isKey; infer_instance

theorem four_mul (a b : Int) : 4 * a * b = 4 * (a * b) := Int.mul_assoc 4 a b
theorem mul_key {a b : Int} (ha : isKey a) (hb : isKey b) : 0 ≤ a * b ∧ a * b ≤ 18014398509481984 := by
  obtain ⟨a0, a1⟩ := ha
  obtain ⟨b0, b1⟩ := hb
  refine ⟨Int.mul_nonneg a0 b0, ?_⟩
  have := Int.mul_le_mul a1 b1 b0 (by omega)
  omega
theorem root4_le {a b : Int} (ha : isKey a) (hb : isKey b) : root (4 * a * b) ≤ 268435456 := by
  obtain ⟨h0, h1⟩ := mul_key ha hb
  rw [four_mul]
  exact root_le (by omega) (by omega) (by omega)

/-- the least, and the greatest key of two points with keys to a third one -/
def low (m a b : Int) : Int := if m = 2 then a + b - root (4 * a * b) else if a < b then b - a else a - b
def high (m a b : Int) : Int :=
  if m = 2 then (if 134217728 < a + b + root (4 * a * b) then 134217728 else a + b + root (4 * a * b))
  else (if 134217728 < a + b then 134217728 else a + b)

/-- one step of what is told by parts -/
theorem bind_of {α β : Type} {o : Option α} {f : α → Option β} {a : α} {r : Option β} (h : o = some a) (k : f a = r) : o.bind f = r := by rw [h]; exact k

/-- a number, brought from 0 to 2^60 -/
def clamp60 (n : Int) : Int := if n < 0 then 0 else if n > 1152921504606846976 then 1152921504606846976 else n
theorem clamp60_range (n : Int) : 0 ≤ clamp60 n ∧ clamp60 n ≤ 1152921504606846976 := by
  unfold clamp60
  by_cases h : n < 0
  · rw [if_pos h]; omega
  · rw [if_neg h]
    by_cases h2 : n > 1152921504606846976
    · rw [if_pos h2]; omega
    · rw [if_neg h2]; omega
theorem clamp60_in {n : Int} (h0 : 0 ≤ n) (h1 : n ≤ 1152921504606846976) : clamp60 n = n := by
  unfold clamp60
  rw [if_neg (by omega), if_neg (by omega)]

theorem bitLenAux_lt : ∀ (f n : Nat), n < 2 ^ f → n < 2 ^ Go.Lib.bitLenAux f n
  | 0, n, h => by simpa [Go.Lib.bitLenAux] using h
  | f + 1, n, h => by
    unfold Go.Lib.bitLenAux
    by_cases h0 : n = 0
    · rw [if_pos h0, h0]; decide
    · rw [if_neg h0, Nat.add_comm, Nat.pow_succ]
      have := bitLenAux_lt f (n / 2) (by rw [Nat.pow_succ] at h; omega)
      omega
theorem bitLenAux_le : ∀ (f k n : Nat), n ≤ 2 ^ k → Go.Lib.bitLenAux f n ≤ k + 1
  | 0, k, n, _ => by simp [Go.Lib.bitLenAux]
  | f + 1, k, n, h => by
    unfold Go.Lib.bitLenAux
    by_cases h0 : n = 0
    · rw [if_pos h0]; omega
    · rw [if_neg h0]
      cases k with
      | zero =>
        have : n / 2 = 0 := by simp at h; omega
        rw [this]
        have : Go.Lib.bitLenAux f 0 = 0 := by cases f <;> simp [Go.Lib.bitLenAux]
        omega
      | succ k =>
        have := bitLenAux_le f k (n / 2) (by rw [Nat.pow_succ] at h; omega)
        omega
theorem bitLen_lt (n : Nat) (h : n < 18446744073709551616) : n < 2 ^ Go.Lib.bitLen n := bitLenAux_lt 64 n h
theorem bitLen_le (n k : Nat) (h : n ≤ 2 ^ k) : Go.Lib.bitLen n ≤ k + 1 := bitLenAux_le 64 k n h
end Plain
