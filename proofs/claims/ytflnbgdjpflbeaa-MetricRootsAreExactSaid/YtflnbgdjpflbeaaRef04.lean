/- What the specification of vectors (layer 4) comes to: lists alike, norms, keys. -/
import Derived.Test.YtflnbgdjpflbeaaQx
import Derived.Test.YtflnbgdjpflbeaaPlVec
import Derived.Test.YtflnbgdjpflbeaaPlStep
set_option linter.unusedVariables false
namespace Go.Proofs.Ytflnbgdjpflbeaa.Ref04
open Go.RowKit Go.Proofs.Ytflnbgdjpflbeaa.Q Go.Proofs.YtflnbgdjpflbeaaW.PrintWords Plain

theorem rd_mid (pre : List Int) (x : Int) (v : List Int) : rd (pre ++ x :: v) (pre.length : Int) = x := by
  unfold rd
  simp
theorem len_cast (pre : List Int) (x : Int) (v : List Int) : ((pre ++ x :: v).length : Int) = pre.length + 1 + v.length := by
  simp; omega
theorem snoc_len (pre : List Int) (x : Int) : ((pre ++ [x]).length : Int) = pre.length + 1 := by simp
theorem snoc_eq (pre : List Int) (x : Int) (v : List Int) : pre ++ x :: v = (pre ++ [x]) ++ v := by simp
theorem wsucc (n : Nat) (h : (n : Int) ≤ 4611686018427387904) : wrap64 ((n : Int) + 1) = (n : Int) + 1 := by unfold wrap64; omega

theorem valid_l (v : List Int) : ∀ pre : List Int, ((pre ++ v).length : Int) ≤ 4611686018427387904 →
    Ev (fun k => antiquaryref04_Valid.l0 k (pre ++ v) pre.length) (decide ((∀ x ∈ v, -1000 ≤ x ∧ x ≤ 1000) ∧ 1 ≤ (pre ++ v).length ∧ (pre ++ v).length ≤ 32)) := by
  induction v with
  | nil =>
    intro pre hl
    refine ev_succ ?_
    simp only [antiquaryref04_Valid.l0, List.append_nil]
    refine ev_neg (by omega) ?_
    by_cases h1 : (pre.length : Int) ≥ 1
    · exact ev_pos h1 (ev_some (by rw [Bool.eq_iff_iff]; simp; omega))
    · exact ev_neg h1 (ev_some (by rw [Bool.eq_iff_iff]; simp; omega))
  | cons x v ih =>
    intro pre hl
    have hlen := len_cast pre x v
    refine ev_succ ?_
    simp only [antiquaryref04_Valid.l0]
    refine ev_pos (by omega) (ev_pos (by omega) ?_)
    rw [rd_mid]
    by_cases h1 : x < -1000
    · refine ev_pos h1 (ev_some ?_)
      symm
      rw [decide_eq_false_iff_not]
      rintro ⟨h, _⟩
      have := h x List.mem_cons_self
      omega
    · refine ev_neg h1 ?_
      by_cases h2 : x > 1000
      · refine ev_pos h2 (ev_some ?_)
        symm
        rw [decide_eq_false_iff_not]
        rintro ⟨h, _⟩
        have := h x List.mem_cons_self
        omega
      · refine ev_neg h2 ?_
        have := ih (pre ++ [x]) (by rw [← snoc_eq]; exact hl)
        rw [snoc_len, ← snoc_eq] at this
        rw [wsucc _ (by omega)]
        refine ev_cast this ?_
        rw [Bool.eq_iff_iff, decide_eq_true_eq, decide_eq_true_eq]
        refine and_congr_left (fun _ => ⟨fun h y hy => ?_, fun h y hy => h y (List.mem_cons_of_mem _ hy)⟩)
        rcases List.mem_cons.mp hy with rfl | hy
        · omega
        · exact h y hy
theorem valid_ev (v : List Int) (hl : v.length * 8 ≤ 140737488351232) : Ev (fun k => antiquaryref04_Valid.f k v) (decide (isVec v)) := by
  have h : Ev (fun k => antiquaryref04_Valid.f k v) _ := valid_l v [] (by simp; omega)
  exact ev_cast h (by rw [Bool.eq_iff_iff, decide_eq_true_eq, decide_eq_true_eq]; exact Iff.rfl)
theorem alike_ev (p q : List Int) (hp : p.length * 8 ≤ 140737488351232) (hq : q.length * 8 ≤ 140737488351232) : Ev (fun k => antiquaryref04_Alike.f k p q) (decide (alike p q)) := by
  unfold antiquaryref04_Alike.f
  refine ev_bind (valid_ev p hp) ?_
  by_cases h1 : isVec p
  · refine ev_pos (by simpa using h1) (ev_bind (valid_ev q hq) ?_)
    by_cases h2 : isVec q
    · refine ev_pos (by simpa using h2) (ev_some ?_)
      rw [Bool.eq_iff_iff, beq_iff_eq, decide_eq_true_eq]
      exact ⟨fun h => ⟨h1, h2, by omega⟩, fun h => by have := h.2.2; omega⟩
    · refine ev_neg (by simpa using h2) (ev_some ?_)
      symm
      rw [decide_eq_false_iff_not]
      exact fun h => h2 h.2.1
  · refine ev_neg (by simpa using h1) (ev_some ?_)
    symm
    rw [decide_eq_false_iff_not]
    exact fun h => h1 h.1

theorem mag_f {x : Int} (h : -2000 ≤ x ∧ x ≤ 2000) : antiquaryref04_size.f x = some (Plain.mag x) := by
  unfold antiquaryref04_size.f Plain.mag
  split
  · rw [w64 (by omega) (by omega)]
  · rfl
theorem norm_l (m : Int) (v : List Int) : ∀ (pre : List Int) (acc : Int), (∀ x ∈ v, -2000 ≤ x ∧ x ≤ 2000) → 0 ≤ acc → acc + 4000000 * v.length ≤ 4611686018427387904 → ((pre ++ v).length : Int) ≤ 4611686018427387904 →
    Ev (fun k => antiquaryref04_Norm.l0 k m (pre ++ v) acc pre.length) (join m acc (norm m v)) := by
  induction v with
  | nil =>
    intro pre acc _ h0 _ hl
    refine ev_succ ?_
    simp only [antiquaryref04_Norm.l0, List.append_nil]
    refine ev_neg (by omega) (ev_some ?_)
    exact (join_zero m h0).symm
  | cons x v ih =>
    intro pre acc hv h0 hb hl
    have hlen := len_cast pre x v
    have hx := hv x List.mem_cons_self
    have hp0 := ptl_nonneg m x
    have hp1 := ptl_le m hx
    have hn := ih (pre ++ [x]) (join m acc (ptl m x)) (fun y hy => hv y (List.mem_cons_of_mem _ hy)) (join_nonneg m h0 hp0)
      (by have := join_le_add m h0 hp0; simp only [List.length_cons] at hb; omega) (by rw [← snoc_eq]; exact hl)
    rw [snoc_len, ← snoc_eq, join_assoc] at hn
    simp only [List.length_cons] at hb
    refine ev_succ ?_
    simp only [antiquaryref04_Norm.l0]
    refine ev_pos (by omega) ?_
    rw [rd_mid, wsucc _ (by omega)]
    by_cases h1 : m = 1
    · refine ev_pos h1 (ev_pos (by omega) (ev_ob (mag_f hx) ?_))
      have e : join m acc (ptl m x) = wrap64 (acc + Plain.mag x) := by
        have e1 : ptl m x = Plain.mag x := by unfold ptl; rw [if_neg (by omega)]
        rw [w64 (by omega) (by omega), e1]
        unfold join; rw [if_pos (.inl h1)]
      rw [e] at hn
      exact hn
    · refine ev_neg h1 ?_
      by_cases h2 : m = 2
      · refine ev_pos h2 (ev_pos (by omega) ?_)
        have e1 : ptl m x = x * x := by unfold ptl; rw [if_pos h2]
        have e : join m acc (ptl m x) = wrap64 (acc + wrap64 (x * x)) := by
          rw [w64 (x := x * x) (by omega) (by omega), w64 (by omega) (by omega), e1]
          unfold join; rw [if_pos (.inr h2)]
        rw [e] at hn
        exact hn
      · refine ev_neg h2 (ev_pos (by omega) (ev_ob (mag_f hx) ?_))
        have e : join m acc (ptl m x) = mx acc (Plain.mag x) := by
          unfold join ptl mx; rw [if_neg (by omega), if_neg h2]
        rw [e] at hn
        exact hn
theorem norm_ev (m : Int) (v : List Int) (hv : ∀ x ∈ v, -2000 ≤ x ∧ x ≤ 2000) (hl : v.length ≤ 1000000) : Ev (fun k => antiquaryref04_Norm.f k m v) (norm m v) := by
  have h : Ev (fun k => antiquaryref04_Norm.f k m v) _ := norm_l m v [] 0 hv (by omega) (by omega) (by simp; omega)
  exact ev_cast h (zero_join m (norm_nonneg m v))
theorem sub_l (p : List Int) : ∀ (q p0 q0 acc : List Int), p.length = q.length → p0.length = q0.length → acc.length = p0.length → (p0 ++ p).length ≤ 1000000 → (∀ x ∈ p, -1000 ≤ x ∧ x ≤ 1000) → (∀ x ∈ q, -1000 ≤ x ∧ x ≤ 1000) →
    Ev (fun k => antiquaryref04_Sub.l0 k (p0 ++ p) (q0 ++ q) acc p0.length) (acc ++ diffs p q) := by
  induction p with
  | nil =>
    intro q p0 q0 acc h1 h2 h3 hl _ _
    obtain rfl : q = [] := List.eq_nil_of_length_eq_zero (by simpa using h1.symm)
    refine ev_succ ?_
    simp only [antiquaryref04_Sub.l0, List.append_nil]
    refine ev_neg (by omega) (ev_some ?_)
    simp [diffs]
  | cons x p ih =>
    intro q p0 q0 acc h1 h2 h3 hl hp hq
    obtain ⟨y, q, rfl⟩ : ∃ y t, q = y :: t := by
      cases q with
      | nil => simp at h1
      | cons y t => exact ⟨y, t, rfl⟩
    have hlen := len_cast p0 x p
    have hlen2 := len_cast q0 y q
    have h1' : p.length = q.length := by simpa using h1
    have hx := hp x List.mem_cons_self
    have hy := hq y List.mem_cons_self
    have hn := ih q (p0 ++ [x]) (q0 ++ [y]) (acc ++ [x - y]) h1' (by simp [h2]) (by simp [h3]) (by simpa using hl) (fun z hz => hp z (List.mem_cons_of_mem _ hz)) (fun z hz => hq z (List.mem_cons_of_mem _ hz))
    rw [snoc_len, ← snoc_eq, ← snoc_eq] at hn
    have hl' : (p0 ++ x :: p).length ≤ 1000000 := hl
    refine ev_succ ?_
    simp only [antiquaryref04_Sub.l0]
    refine ev_pos (by omega) (ev_pos (by omega) (ev_pos (by omega) (ev_pos (by omega) ?_)))
    rw [rd_mid, show (p0.length : Int) = (q0.length : Int) by omega, rd_mid, ← show (p0.length : Int) = (q0.length : Int) by omega, wsucc _ (by omega), w64 (by omega) (by omega)]
    refine ev_cast hn ?_
    simp [diffs]
theorem sub_ev {p q : List Int} (h : alike p q) : Ev (fun k => antiquaryref04_Sub.f k p q) (diffs p q) := by
  have h : Ev (fun k => antiquaryref04_Sub.f k p q) _ := sub_l p q [] [] [] h.2.2 rfl rfl (by have := h.1.2.2; simp; omega) h.1.1 h.2.1.1
  exact h
theorem key_ev (m : Int) {p q : List Int} (h : alike p q) : Ev (fun k => antiquaryref04_Key.f k m p q) (key m p q) := by
  unfold antiquaryref04_Key.f
  refine ev_bind (sub_ev h) (ev_bind (norm_ev m _ (diffs_range p q h.1.1 h.2.1.1) ?_) (ev_some rfl))
  rw [diffs_length p q h.2.2]
  have := h.1.2.2
  omega
end Go.Proofs.Ytflnbgdjpflbeaa.Ref04
