/- Steps for functions that are told with a number of rounds: what they come to, with enough rounds (no program). -/
-- LATE
import Derived.Test.YtflnbgdjpflbeaaWWords
set_option linter.unusedVariables false
set_option linter.unusedSimpArgs false
namespace Plain
open Go.Proofs.YtflnbgdjpflbeaaW.PrintWords

theorem ev_ob {α β : Type} {o : Option α} {f : Nat → α → Option β} {a : α} {r : β} (h : o = some a) (k : Ev (fun n => f n a) r) : Ev (fun n => o.bind (f n)) r := by
  subst h; exact k
theorem ev_bind {α β : Type} {g : Nat → Option α} {f : Nat → α → Option β} {a : α} {r : β} (h : Ev g a) (k : Ev (fun n => f n a) r) : Ev (fun n => (g n).bind (f n)) r := by
  obtain ⟨K, hK⟩ := h
  obtain ⟨M, hM⟩ := k
  refine ⟨K + M, fun n hn => ?_⟩
  show (g n).bind (f n) = some r
  rw [hK n (by omega)]
  exact hM n (by omega)
theorem ev_pos {β : Type} {c : Prop} [Decidable c] {g f : Nat → Option β} {r : β} (h : c) (k : Ev g r) : Ev (fun n => if c then g n else f n) r := by
  obtain ⟨K, hK⟩ := k
  exact ⟨K, fun n hn => by show (if c then g n else f n) = some r; rw [if_pos h]; exact hK n hn⟩
theorem ev_neg {β : Type} {c : Prop} [Decidable c] {g f : Nat → Option β} {r : β} (h : ¬ c) (k : Ev f r) : Ev (fun n => if c then g n else f n) r := by
  obtain ⟨K, hK⟩ := k
  exact ⟨K, fun n hn => by show (if c then g n else f n) = some r; rw [if_neg h]; exact hK n hn⟩
theorem ev_ite {β : Type} {c : Prop} [Decidable c] {g f : Nat → Option β} {r q : β} (k1 : c → Ev g r) (k2 : ¬ c → Ev f q) : Ev (fun n => if c then g n else f n) (if c then r else q) := by
  by_cases h : c
  · rw [if_pos h]; exact ev_pos h (k1 h)
  · rw [if_neg h]; exact ev_neg h (k2 h)
theorem ev_step {β : Type} {g f : Nat → Option β} {r : β} (h : ∀ k, g (k + 1) = f k) (k : Ev f r) : Ev g r := by
  obtain ⟨K, hK⟩ := k
  refine ⟨K + 1, fun n hn => ?_⟩
  obtain ⟨n, rfl⟩ : ∃ m, n = m + 1 := ⟨n - 1, by omega⟩
  rw [h n]
  exact hK n (by omega)
theorem ev_succ {β : Type} {g : Nat → Option β} {r : β} (k : Ev (fun n => g (n + 1)) r) : Ev g r := ev_step (fun _ => rfl) k
theorem ev_some {β : Type} {a r : β} (h : a = r) : Ev (fun _ => some a) r := ⟨0, fun _ _ => congrArg some h⟩
theorem ev_of {β : Type} {o : Option β} {r : β} (h : o = some r) : Ev (fun _ => o) r := ⟨0, fun _ _ => h⟩
theorem ev_cast {β : Type} {g : Nat → Option β} {a r : β} (h : Ev g a) (e : a = r) : Ev g r := e ▸ h
theorem ev_eq {β : Type} {g f : Nat → Option β} {r : β} (h : ∀ k, g k = f k) (k : Ev f r) : Ev g r := by
  obtain ⟨K, hK⟩ := k
  exact ⟨K, fun n hn => (h n).trans (hK n hn)⟩
theorem ev_ex {β : Type} {g : Nat → Option β} {r : β} (h : Ev g r) : ∃ k, g k = some r := by
  obtain ⟨K, hK⟩ := h
  exact ⟨K, hK K (Nat.le_refl _)⟩
theorem ev_ofx {β : Type} {g : Nat → Option β} {r : β} (hm : ∀ k, LeO (g k) (g (k + 1))) (h : ∃ k, g k = some r) : Ev g r := by
  obtain ⟨K, hK⟩ := h
  exact ⟨K, fun n hn => at_rounds hm hn hK⟩

theorem i64_range {x : Int} (h : (Go.Lit.int .i64 x).wf = true) : -9223372036854775808 ≤ x ∧ x ≤ 9223372036854775807 := by
  simp [Go.Lit.wf, Go.IntKind.min, Go.IntKind.max, Go.IntKind.bits, Go.IntKind.signed] at h
  omega
theorem w64 {x : Int} (h0 : -9223372036854775808 ≤ x) (h1 : x ≤ 9223372036854775807) : Go.RowKit.wrap64 x = x := by unfold Go.RowKit.wrap64; omega
end Plain
