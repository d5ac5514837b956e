/- A part of the proof of CodeIsNearest: what the row's text reaches (packed by a program of this claim out of its texts). -/
import Derived.Test.YtgpdfalopdhjlaaKCodeIsNeareste
import Derived.Deep.Matrix
import Derived.Lib.SmallJoins
import Derived.ChangeShapes
section
set_option linter.unusedVariables false
namespace Go.Proofs.Ytgpdfalopdhjlaa.Ref04
open Go.RowKit Go.Proofs.Ytgpdfalopdhjlaa.Q Go.Proofs.YtgpdfalopdhjlaaW.PrintWords Plain
theorem rd_mid (pre : List Int) (x : Int) (v : List Int) : rd (pre ++ x :: v) (pre.length : Int) = x := by
  unfold rd
  simp
theorem len_cast (pre : List Int) (x : Int) (v : List Int) : ((pre ++ x :: v).length : Int) = pre.length + 1 + v.length := by
  simp; omega
theorem snoc_len (pre : List Int) (x : Int) : ((pre ++ [x]).length : Int) = pre.length + 1 := by simp
theorem snoc_eq (pre : List Int) (x : Int) (v : List Int) : pre ++ x :: v = (pre ++ [x]) ++ v := by simp
theorem wsucc (n : Nat) (h : (n : Int) ≤ 4611686018427387904) : wrap64 ((n : Int) + 1) = (n : Int) + 1 := by unfold wrap64; omega
theorem valid_l (v : List Int) : ∀ pre : List Int, ((pre ++ v).length : Int) ≤ 4611686018427387904 →
    Ev (fun k => antiquaryref04_Valid.l0 k (pre ++ v) pre.length) (decide ((∀ x ∈ v, -1000 ≤ x ∧ x ≤ 1000) ∧ 1 ≤ (pre ++ v).length ∧ (pre ++ v).length ≤ 32)) := by
  induction v with
  | nil =>
    intro pre hl
    refine ev_succ ?_
    simp only [antiquaryref04_Valid.l0, List.append_nil]
    refine ev_neg (by omega) ?_
    by_cases h1 : (pre.length : Int) ≥ 1
    · exact ev_pos h1 (ev_some (by rw [Bool.eq_iff_iff]; simp; omega))
    · exact ev_neg h1 (ev_some (by rw [Bool.eq_iff_iff]; simp; omega))
  | cons x v ih =>
    intro pre hl
    have hlen := len_cast pre x v
    refine ev_succ ?_
    simp only [antiquaryref04_Valid.l0]
    refine ev_pos (by omega) (ev_pos (by omega) ?_)
    rw [rd_mid]
    by_cases h1 : x < -1000
    · refine ev_pos h1 (ev_some ?_)
      symm
      rw [decide_eq_false_iff_not]
      rintro ⟨h, _⟩
      have := h x List.mem_cons_self
      omega
    · refine ev_neg h1 ?_
      by_cases h2 : x > 1000
      · refine ev_pos h2 (ev_some ?_)
        symm
        rw [decide_eq_false_iff_not]
        rintro ⟨h, _⟩
        have := h x List.mem_cons_self
        omega
      · refine ev_neg h2 ?_
        have := ih (pre ++ [x]) (by rw [← snoc_eq]; exact hl)
        rw [snoc_len, ← snoc_eq] at this
        rw [wsucc _ (by omega)]
        refine ev_cast this ?_
        rw [Bool.eq_iff_iff, decide_eq_true_eq, decide_eq_true_eq]
        refine and_congr_left (fun _ => ⟨fun h y hy => ?_, fun h y hy => h y (List.mem_cons_of_mem _ hy)⟩)
        rcases List.mem_cons.mp hy with rfl | hy
        · omega
        · exact h y hy
theorem valid_ev (v : List Int) (hl : v.length * 8 ≤ 140737488351232) : Ev (fun k => antiquaryref04_Valid.f k v) (decide (isVec v)) := by
  have h : Ev (fun k => antiquaryref04_Valid.f k v) _ := valid_l v [] (by simp; omega)
  exact ev_cast h (by rw [Bool.eq_iff_iff, decide_eq_true_eq, decide_eq_true_eq]; exact Iff.rfl)
theorem mag_f {x : Int} (h : -2000 ≤ x ∧ x ≤ 2000) : antiquaryref04_size.f x = some (Plain.mag x) := by
  unfold antiquaryref04_size.f Plain.mag
  split
  · rw [w64 (by omega) (by omega)]
  · rfl
theorem norm_l (m : Int) (v : List Int) : ∀ (pre : List Int) (acc : Int), (∀ x ∈ v, -2000 ≤ x ∧ x ≤ 2000) → 0 ≤ acc → acc + 4000000 * v.length ≤ 4611686018427387904 → ((pre ++ v).length : Int) ≤ 4611686018427387904 →
    Ev (fun k => antiquaryref04_Norm.l0 k m (pre ++ v) acc pre.length) (join m acc (norm m v)) := by
  induction v with
  | nil =>
    intro pre acc _ h0 _ hl
    refine ev_succ ?_
    simp only [antiquaryref04_Norm.l0, List.append_nil]
    refine ev_neg (by omega) (ev_some ?_)
    exact (join_zero m h0).symm
  | cons x v ih =>
    intro pre acc hv h0 hb hl
    have hlen := len_cast pre x v
    have hx := hv x List.mem_cons_self
    have hp0 := ptl_nonneg m x
    have hp1 := ptl_le m hx
    have hn := ih (pre ++ [x]) (join m acc (ptl m x)) (fun y hy => hv y (List.mem_cons_of_mem _ hy)) (join_nonneg m h0 hp0)
      (by have := join_le_add m h0 hp0; simp only [List.length_cons] at hb; omega) (by rw [← snoc_eq]; exact hl)
    rw [snoc_len, ← snoc_eq, join_assoc] at hn
    simp only [List.length_cons] at hb
    refine ev_succ ?_
    simp only [antiquaryref04_Norm.l0]
    refine ev_pos (by omega) ?_
    rw [rd_mid, wsucc _ (by omega)]
    by_cases h1 : m = 1
    · refine ev_pos h1 (ev_pos (by omega) (ev_ob (mag_f hx) ?_))
      have e : join m acc (ptl m x) = wrap64 (acc + Plain.mag x) := by
        have e1 : ptl m x = Plain.mag x := by unfold ptl; rw [if_neg (by omega)]
        rw [w64 (by omega) (by omega), e1]
        unfold join; rw [if_pos (.inl h1)]
      rw [e] at hn
      exact hn
    · refine ev_neg h1 ?_
      by_cases h2 : m = 2
      · refine ev_pos h2 (ev_pos (by omega) ?_)
        have e1 : ptl m x = x * x := by unfold ptl; rw [if_pos h2]
        have e : join m acc (ptl m x) = wrap64 (acc + wrap64 (x * x)) := by
          rw [w64 (x := x * x) (by omega) (by omega), w64 (by omega) (by omega), e1]
          unfold join; rw [if_pos (.inr h2)]
        rw [e] at hn
        exact hn
      · refine ev_neg h2 (ev_pos (by omega) (ev_ob (mag_f hx) ?_))
        have e : join m acc (ptl m x) = mx acc (Plain.mag x) := by
          unfold join ptl mx; rw [if_neg (by omega), if_neg h2]
        rw [e] at hn
        exact hn
theorem norm_ev (m : Int) (v : List Int) (hv : ∀ x ∈ v, -2000 ≤ x ∧ x ≤ 2000) (hl : v.length ≤ 1000000) : Ev (fun k => antiquaryref04_Norm.f k m v) (norm m v) := by
  have h : Ev (fun k => antiquaryref04_Norm.f k m v) _ := norm_l m v [] 0 hv (by omega) (by omega) (by simp; omega)
  exact ev_cast h (zero_join m (norm_nonneg m v))
theorem sub_l (p : List Int) : ∀ (q p0 q0 acc : List Int), p.length = q.length → p0.length = q0.length → acc.length = p0.length → (p0 ++ p).length ≤ 1000000 → (∀ x ∈ p, -1000 ≤ x ∧ x ≤ 1000) → (∀ x ∈ q, -1000 ≤ x ∧ x ≤ 1000) →
    Ev (fun k => antiquaryref04_Sub.l0 k (p0 ++ p) (q0 ++ q) acc p0.length) (acc ++ diffs p q) := by
  induction p with
  | nil =>
    intro q p0 q0 acc h1 h2 h3 hl _ _
    obtain rfl : q = [] := List.eq_nil_of_length_eq_zero (by simpa using h1.symm)
    refine ev_succ ?_
    simp only [antiquaryref04_Sub.l0, List.append_nil]
    refine ev_neg (by omega) (ev_some ?_)
    simp [diffs]
  | cons x p ih =>
    intro q p0 q0 acc h1 h2 h3 hl hp hq
    obtain ⟨y, q, rfl⟩ : ∃ y t, q = y :: t := by
      cases q with
      | nil => simp at h1
      | cons y t => exact ⟨y, t, rfl⟩
    have hlen := len_cast p0 x p
    have hlen2 := len_cast q0 y q
    have h1' : p.length = q.length := by simpa using h1
    have hx := hp x List.mem_cons_self
    have hy := hq y List.mem_cons_self
    have hn := ih q (p0 ++ [x]) (q0 ++ [y]) (acc ++ [x - y]) h1' (by simp [h2]) (by simp [h3]) (by simpa using hl) (fun z hz => hp z (List.mem_cons_of_mem _ hz)) (fun z hz => hq z (List.mem_cons_of_mem _ hz))
    rw [snoc_len, ← snoc_eq, ← snoc_eq] at hn
    have hl' : (p0 ++ x :: p).length ≤ 1000000 := hl
    refine ev_succ ?_
    simp only [antiquaryref04_Sub.l0]
    refine ev_pos (by omega) (ev_pos (by omega) (ev_pos (by omega) (ev_pos (by omega) ?_)))
    rw [rd_mid, show (p0.length : Int) = (q0.length : Int) by omega, rd_mid, ← show (p0.length : Int) = (q0.length : Int) by omega, wsucc _ (by omega), w64 (by omega) (by omega)]
    refine ev_cast hn ?_
    simp [diffs]
theorem sub_ev {p q : List Int} (h : alike p q) : Ev (fun k => antiquaryref04_Sub.f k p q) (diffs p q) := by
  have h : Ev (fun k => antiquaryref04_Sub.f k p q) _ := sub_l p q [] [] [] h.2.2 rfl rfl (by have := h.1.2.2; simp; omega) h.1.1 h.2.1.1
  exact h
theorem key_ev (m : Int) {p q : List Int} (h : alike p q) : Ev (fun k => antiquaryref04_Key.f k m p q) (key m p q) := by
  unfold antiquaryref04_Key.f
  refine ev_bind (sub_ev h) (ev_bind (norm_ev m _ (diffs_range p q h.1.1 h.2.1.1) ?_) (ev_some rfl))
  rw [diffs_length p q h.2.2]
  have := h.1.2.2
  omega
end Go.Proofs.Ytgpdfalopdhjlaa.Ref04
end
section
set_option linter.unusedVariables false
namespace Go.Proofs.Ytgpdfalopdhjlaa.Ev08
open Go.RowKit Go.Proofs.Ytgpdfalopdhjlaa.Q Go.Proofs.YtgpdfalopdhjlaaW.PrintWords Plain Go.Proofs.Ytgpdfalopdhjlaa.Book
theorem valid_any (v : List Int) (hl : v.length ≤ 9223372036854775807) : Ev (fun k => antiquaryref04_Valid.f k v) (decide (isVec v)) := by
  have bad : ∀ i, i < v.length → ¬ (-1000 ≤ rd v (i : Int) ∧ rd v (i : Int) ≤ 1000) → false = decide (isVec v) := fun i hi h => by
    symm
    rw [decide_eq_false_iff_not]
    intro h2
    rw [rdn v i hi] at h
    exact h (h2.1 _ (List.getElem_mem hi))
  refine ev_count (G := fun i k => antiquaryref04_Valid.l0 k v (i : Int)) (n := v.length) (fun i => ∀ j, j < i → -1000 ≤ rd v (j : Int) ∧ rd v (j : Int) ≤ 1000) (fun j hj => by omega) (fun i hi hI h => ?_) (fun hI => ?_)
  · refine ev_succ ?_
    simp only [antiquaryref04_Valid.l0]
    refine ev_pos (by omega) (ev_pos (by omega) ?_)
    by_cases c1 : rd v (i : Int) < -1000
    · exact ev_pos c1 (ev_some (bad i hi (by omega)))
    refine ev_neg c1 ?_
    by_cases c2 : rd v (i : Int) > 1000
    · exact ev_pos c2 (ev_some (bad i hi (by omega)))
    refine ev_neg c2 ?_
    rw [wsuc i (by omega)]
    exact h (fun j hj => by
      rcases Nat.lt_or_ge j i with h4 | h4
      · exact hI j h4
      · obtain rfl : j = i := by omega
        omega)
  · have hall : ∀ x ∈ v, -1000 ≤ x ∧ x ≤ 1000 := fun x hx => by
      obtain ⟨j, hj, rfl⟩ := List.mem_iff_getElem.1 hx
      have := hI j hj
      rwa [rdn v j hj] at this
    refine ev_succ ?_
    simp only [antiquaryref04_Valid.l0]
    refine ev_neg (by omega) ?_
    by_cases h1 : (v.length : Int) ≥ 1
    · refine ev_pos h1 (ev_some ?_)
      rw [decide_eq_decide]
      exact ⟨fun h => ⟨hall, by omega, by omega⟩, fun h => by have := h.2.2; omega⟩
    · refine ev_neg h1 (ev_some (decide_eq_false (fun h => by have := h.2.1; omega)).symm)
/-- a codebook with few words -/
def fewW (ws : List (List Int)) : Prop := (ws.length ≤ 30 ∨ (256 < ws.length ∧ ws.length ≤ 300)) ∧ ∀ j, j < ws.length → (rd_L1 ws (j : Int)).length ≤ 33
instance (ws : List (List Int)) : Decidable (fewW ws) := by unfold fewW; infer_instance
def few (cuts : List Int) (words : List (List (List Int))) : Prop := (words.length ≤ 9 ∧ cuts.length ≤ 9) ∧ ∀ i, i < words.length → fewW (wordsAt words i)
instance (cuts : List Int) (words : List (List (List Int))) : Decidable (few cuts words) := by unfold few; infer_instance
theorem few_ev (d : Int) (cuts : List Int) (words : List (List (List Int))) : Ev (fun k => antiquaryref08_Few.f k d cuts words) (decide (few cuts words)) := by
  have no : ¬ few cuts words → false = decide (few cuts words) := fun h => (decide_eq_false h).symm
  have bad : ∀ i, i < words.length → ¬ fewW (wordsAt words i) → false = decide (few cuts words) := fun i hi h => no (fun h2 => h (h2.2 i hi))
  unfold antiquaryref08_Few.f
  by_cases h1 : (words.length : Int) > 9
  · refine ev_pos h1 (ev_succ ?_)
    simp only [antiquaryref08_Few.j0]
    exact ev_pos trivial (ev_some (no (fun h => by have := h.1.1; omega)))
  refine ev_neg h1 (ev_succ ?_)
  simp only [antiquaryref08_Few.j0]
  by_cases h2 : (cuts.length : Int) > 9
  · exact ev_pos (decide_eq_true h2) (ev_some (no (fun h => by have := h.1.2; omega)))
  refine ev_neg (by simpa using h2) ?_
  refine ev_count (G := fun i k => antiquaryref08_Few.l0 k (i : Int) d cuts words) (n := words.length) (fun i => ∀ j, j < i → fewW (wordsAt words j)) (fun j hj => by omega) (fun i hi hI h => ?_) (fun hI => ?_)
  · refine ev_succ ?_
    simp only [antiquaryref08_Few.l0]
    rw [rd_L2_words]
    have inner : ((wordsAt words i).length ≤ 30 ∨ (256 < (wordsAt words i).length ∧ (wordsAt words i).length ≤ 300)) → Ev (fun k => antiquaryref08_Few.l1 k (i : Int) 0 d cuts words) (decide (few cuts words)) := fun hl => by
      refine ev_count (G := fun j k => antiquaryref08_Few.l1 k (i : Int) (j : Int) d cuts words) (n := (wordsAt words i).length) (fun j => ∀ j', j' < j → (rd_L1 (wordsAt words i) (j' : Int)).length ≤ 33) (fun j hj => by omega) (fun j hj hJ h2 => ?_) (fun hJ => ?_)
      · refine ev_succ ?_
        simp only [antiquaryref08_Few.l1]
        rw [rd_L2_words]
        refine ev_pos (by omega) (ev_pos (by omega) (ev_pos (by omega) (ev_pos (by omega) ?_)))
        by_cases h3 : ((rd_L1 (wordsAt words i) (j : Int)).length : Int) > 33
        · exact ev_pos h3 (ev_some (bad i hi (fun h4 => by have := h4.2 j hj; omega)))
        · refine ev_neg h3 ?_
          rw [wsuc j (by omega)]
          exact h2 (fun j' hj' => by
            rcases Nat.lt_or_ge j' j with h4 | h4
            · exact hJ j' h4
            · obtain rfl : j' = j := by omega
              omega)
      · refine ev_succ ?_
        simp only [antiquaryref08_Few.l1]
        rw [rd_L2_words]
        refine ev_pos (by omega) (ev_pos (by omega) (ev_neg (by omega) ?_))
        rw [wsuc i (by omega)]
        exact h (fun j hj => by
          rcases Nat.lt_or_ge j i with h4 | h4
          · exact hI j h4
          · obtain rfl : j = i := by omega
            exact ⟨hl, hJ⟩)
    have yes : ((wordsAt words i).length ≤ 30 ∨ (256 < (wordsAt words i).length ∧ (wordsAt words i).length ≤ 300)) → Ev (fun k => antiquaryref08_Few.j2 k (i : Int) false d cuts words) (decide (few cuts words)) := fun hl => by
      refine ev_succ ?_
      simp only [antiquaryref08_Few.j2]
      exact ev_neg (by simp) (inner hl)
    have nope : ¬ ((wordsAt words i).length ≤ 30 ∨ (256 < (wordsAt words i).length ∧ (wordsAt words i).length ≤ 300)) → Ev (fun k => antiquaryref08_Few.j2 k (i : Int) true d cuts words) (decide (few cuts words)) := fun hl => by
      refine ev_succ ?_
      simp only [antiquaryref08_Few.j2]
      exact ev_pos trivial (ev_some (bad i hi (fun h4 => hl h4.1)))
    refine ev_pos (by omega) (ev_pos (by omega) ?_)
    by_cases c1 : ((wordsAt words i).length : Int) > 30
    · refine ev_pos c1 ?_
      by_cases c2 : ((wordsAt words i).length : Int) ≤ 256
      · exact ev_pos c2 (nope (by omega))
      · refine ev_neg c2 ?_
        by_cases c3 : ((wordsAt words i).length : Int) > 300
        · rw [decide_eq_true c3]; exact nope (by omega)
        · rw [decide_eq_false c3]; exact yes (by omega)
    · refine ev_neg c1 ?_
      rw [decide_eq_false (by omega)]
      exact yes (by omega)
  · refine ev_succ ?_
    simp only [antiquaryref08_Few.l0]
    exact ev_neg (by omega) (ev_some (decide_eq_true ⟨⟨by omega, by omega⟩, hI⟩).symm)
theorem cut_ev (cuts : List Int) (dims : Int) (hl : cuts.length ≤ 4611686018427387904) : Ev (fun k => antiquaryref08_cut.f k cuts dims) (decide (cutOk cuts dims)) := by
  have no : ¬ cutOk cuts dims → Ev (fun k => antiquaryref08_cut.j0 k cuts dims true) (decide (cutOk cuts dims)) := fun h => by
    refine ev_succ ?_
    simp only [antiquaryref08_cut.j0]
    exact ev_pos trivial (ev_some (decide_eq_false h).symm)
  have bad : ∀ j, j < cuts.length → ¬ cutGood cuts dims j → false = decide (cutOk cuts dims) := fun j hj h => by
    symm
    rw [decide_eq_false_iff_not, cutOk_iff]
    exact fun h2 => h (h2.2.2 j hj)
  unfold antiquaryref08_cut.f
  by_cases h1 : dims < 1
  · exact ev_pos h1 (no (fun h => by have := h.1.1; omega))
  refine ev_neg h1 ?_
  by_cases h2 : dims > 32
  · exact ev_pos h2 (no (fun h => by have := h.1.2; omega))
  refine ev_neg h2 ?_
  by_cases h3 : (cuts.length : Int) < 1
  · exact ev_pos h3 (no (fun h => by have := h.2.1.1; omega))
  refine ev_neg h3 ?_
  by_cases h4 : (cuts.length : Int) > 8
  · exact ev_pos h4 (no (fun h => by have := h.2.1.2; omega))
  refine ev_neg h4 (ev_pos (by omega) ?_)
  by_cases h5 : rd cuts 0 = 0
  rotate_left
  · rw [show (rd cuts 0 != 0) = true by simpa using h5]
    exact no (fun h => h5 h.2.2.1)
  rw [show (rd cuts 0 != 0) = false by simpa using h5]
  refine ev_succ ?_
  simp only [antiquaryref08_cut.j0]
  refine ev_neg (by simp) ?_
  refine ev_count (G := fun i k => antiquaryref08_cut.l0 k cuts dims (i : Int)) (n := cuts.length) (fun i => ∀ j, j < i → cutGood cuts dims j) (fun j hj => by omega) (fun i hi hI h => ?_) (fun hI => ?_)
  · have next : cutGood cuts dims i → Ev (fun k => antiquaryref08_cut.l0 k cuts dims (wrap64 ((i : Int) + 1))) (decide (cutOk cuts dims)) := fun hg => by
      rw [wsuc i (by omega)]
      exact h (fun j hj => by
        rcases Nat.lt_or_ge j i with h4 | h4
        · exact hI j h4
        · obtain rfl : j = i := by omega
          exact hg)
    refine ev_succ ?_
    simp only [antiquaryref08_cut.l0]
    refine ev_pos (by omega) (ev_pos (by omega) ?_)
    by_cases c1 : rd cuts (i : Int) ≥ dims
    · exact ev_pos c1 (ev_some (bad i hi (fun h => by have := h.1; omega)))
    refine ev_neg c1 ?_
    by_cases c2 : (i : Int) > 0
    · obtain ⟨m, rfl⟩ : ∃ m, i = m + 1 := ⟨i - 1, by omega⟩
      rw [show wrap64 (((m + 1 : Nat) : Int) - 1) = (m : Int) by rw [Plain.w64 (by omega) (by omega)]; omega]
      refine ev_pos c2 (ev_pos (by omega) (ev_pos (by omega) ?_))
      by_cases c3 : rd cuts ((m + 1 : Nat) : Int) ≤ rd cuts (m : Int)
      · exact ev_pos c3 (ev_some (bad _ hi (fun h => by have := h.2.2 m rfl; omega)))
      · refine ev_neg c3 (next ⟨by omega, fun e => by omega, fun m' hm' => ?_⟩)
        obtain rfl : m' = m := by omega
        exact Int.not_le.1 c3
    · obtain rfl : i = 0 := by omega
      exact ev_neg c2 (next ⟨by omega, fun _ => h5, fun m' hm' => by omega⟩)
  · refine ev_succ ?_
    simp only [antiquaryref08_cut.l0]
    refine ev_neg (by omega) (ev_some ?_)
    symm
    rw [decide_eq_true_eq, cutOk_iff]
    exact ⟨⟨by omega, by omega⟩, ⟨by omega, by omega⟩, hI⟩
theorem end_is {cuts : List Int} {dims : Int} {i : Nat} (hi : i < cuts.length) (hl : cuts.length ≤ 4611686018427387904) : antiquaryref08_end.f cuts dims (i : Int) = some (cutAt cuts dims (i + 1)) := by
  unfold antiquaryref08_end.f cutAt
  rw [wsuc i (by omega)]
  by_cases h : i + 1 < cuts.length
  · rw [if_pos (by omega), if_pos (by omega), if_pos h]
  · rw [if_neg (by omega), if_neg h]
theorem check_ev (d : Int) (cuts : List Int) (words : List (List (List Int))) (hf : few cuts words) : Ev (fun k => antiquaryref08_Check.f k d cuts words) (if bookOk d cuts words then 0 else 80) := by
  have no : ¬ bookOk d cuts words → (80 : Int) = if bookOk d cuts words then 0 else 80 := fun h => (if_neg h).symm
  have nj : ¬ bookOk d cuts words → Ev (fun k => antiquaryref08_Check.j0 k true d cuts words) (if bookOk d cuts words then (0 : Int) else 80) := fun h => by
    refine ev_succ ?_
    simp only [antiquaryref08_Check.j0]
    exact ev_pos trivial (ev_some (no h))
  refine ev_bind (cut_ev cuts d (by have := hf.1.2; omega)) ?_
  by_cases h1 : cutOk cuts d
  rotate_left
  · exact ev_neg (by simpa using h1) (nj (fun h => h1 h.1))
  refine ev_pos (by simpa using h1) ?_
  by_cases h2 : words.length = cuts.length
  rotate_left
  · rw [show ((words.length : Int) != (cuts.length : Int)) = true by simp; omega]
    exact nj (fun h => h2 h.2.1)
  rw [show ((words.length : Int) != (cuts.length : Int)) = false by simp; omega]
  refine ev_succ ?_
  simp only [antiquaryref08_Check.j0]
  refine ev_neg (by simp) ?_
  have bad : ∀ i, i < cuts.length → ¬ partGood d cuts words i → (80 : Int) = if bookOk d cuts words then 0 else 80 := fun i hi h => no (fun h3 => h (((bookOk_iff _ _ _).1 h3).2 i hi))
  refine ev_count (G := fun i k => antiquaryref08_Check.l0 k (i : Int) d cuts words) (n := cuts.length) (fun i => ∀ j, j < i → partGood d cuts words j) (fun j hj => by omega) (fun i hi hI h => ?_) (fun hI => ?_)
  · refine ev_succ ?_
    simp only [antiquaryref08_Check.l0]
    rw [rd_L2_words]
    have hfw := hf.2 i (by omega)
    have hlen : (wordsAt words i).length ≤ 300 := by have := hfw.1; omega
    have hcr := cutAt_range h1 hi
    have hd := h1.1
    have hc9 := hf.1.2
    have inner : (1 ≤ (wordsAt words i).length ∧ (wordsAt words i).length ≤ 256) → Ev (fun k => antiquaryref08_Check.l1 k (i : Int) 0 d cuts words) (if bookOk d cuts words then (0 : Int) else 80) := fun hl => by
      refine ev_count (G := fun j k => antiquaryref08_Check.l1 k (i : Int) (j : Int) d cuts words) (n := (wordsAt words i).length) (fun j => ∀ j', j' < j → badW (cutAt cuts d (i + 1) - cutAt cuts d i) (rd_L1 (wordsAt words i) (j' : Int)) = false) (fun j hj => by omega) (fun j hj hJ h2 => ?_) (fun hJ => ?_)
      · have hb : badW (cutAt cuts d (i + 1) - cutAt cuts d i) (rd_L1 (wordsAt words i) (j : Int)) = true → (80 : Int) = if bookOk d cuts words then 0 else 80 := fun hb => bad i hi (fun hg => hg.2 ⟨_, rd_mem_L1 (wordsAt words i) (k := (j : Int)) (by omega) (by omega), by rw [partAt_cut hi]; exact hb⟩)
        refine ev_succ ?_
        simp only [antiquaryref08_Check.l1]
        rw [rd_L2_words]
        refine ev_pos (by omega) (ev_pos (by omega) (ev_pos (by omega) (ev_pos (by omega) ?_)))
        refine ev_bind (Ref04.valid_ev _ (by have := hfw.2 j hj; omega)) ?_
        by_cases c1 : isVec (rd_L1 (wordsAt words i) (j : Int))
        rotate_left
        · exact ev_neg (by simpa using c1) (ev_some (hb (by unfold badW; simp [c1])))
        refine ev_pos (by simpa using c1) (ev_ob (end_is hi (by have := hf.1.2; omega)) (ev_pos (by omega) ?_))
        rw [show rd cuts (i : Int) = cutAt cuts d i from (by unfold cutAt; rw [if_pos hi]), Plain.w64 (by omega) (by omega)]
        by_cases c2 : ((rd_L1 (wordsAt words i) (j : Int)).length : Int) = cutAt cuts d (i + 1) - cutAt cuts d i
        · refine ev_pos c2 ?_
          rw [wsuc j (by omega)]
          exact h2 (fun j' hj' => by
            rcases Nat.lt_or_ge j' j with h4 | h4
            · exact hJ j' h4
            · obtain rfl : j' = j := by omega
              unfold badW
              simp [c1, c2])
        · exact ev_neg c2 (ev_some (hb (by unfold badW; simp [c2])))
      · refine ev_succ ?_
        simp only [antiquaryref08_Check.l1]
        rw [rd_L2_words]
        refine ev_pos (by omega) (ev_pos (by omega) (ev_neg (by omega) ?_))
        rw [wsuc i (by omega)]
        exact h (fun j hj => by
          rcases Nat.lt_or_ge j i with h4 | h4
          · exact hI j h4
          · obtain rfl : j = i := by omega
            refine ⟨hl, ?_⟩
            rw [partAt_cut hi]
            rintro ⟨w, hw, hbw⟩
            obtain ⟨n, hn, rfl⟩ := List.mem_iff_getElem.1 hw
            have := hJ n hn
            rw [rdn_L1 _ n hn] at this
            rw [this] at hbw
            cases hbw)
    have yes : (1 ≤ (wordsAt words i).length ∧ (wordsAt words i).length ≤ 256) → Ev (fun k => antiquaryref08_Check.j2 k (i : Int) false d cuts words) (if bookOk d cuts words then (0 : Int) else 80) := fun hl => by
      refine ev_succ ?_
      simp only [antiquaryref08_Check.j2]
      exact ev_neg (by simp) (inner hl)
    have nope : ¬ (1 ≤ (wordsAt words i).length ∧ (wordsAt words i).length ≤ 256) → Ev (fun k => antiquaryref08_Check.j2 k (i : Int) true d cuts words) (if bookOk d cuts words then (0 : Int) else 80) := fun hl => by
      refine ev_succ ?_
      simp only [antiquaryref08_Check.j2]
      exact ev_pos trivial (ev_some (bad i hi (fun h4 => hl h4.1)))
    refine ev_pos (by omega) (ev_pos (by omega) (ev_pos (by omega) ?_))
    by_cases c1 : ((wordsAt words i).length : Int) < 1
    · exact ev_pos c1 (nope (by omega))
    · refine ev_neg c1 ?_
      by_cases c3 : ((wordsAt words i).length : Int) > 256
      · rw [decide_eq_true c3]; exact nope (by omega)
      · rw [decide_eq_false c3]; exact yes (by omega)
  · refine ev_succ ?_
    simp only [antiquaryref08_Check.l0]
    exact ev_neg (by omega) (ev_some (if_pos ((bookOk_iff _ _ _).2 ⟨⟨h1, h2⟩, hI⟩)).symm)
theorem metric_is (m : Int) : antiquaryref04_Metric.f m = some (decide (1 ≤ m ∧ m ≤ 3)) := by
  unfold antiquaryref04_Metric.f
  by_cases h : m ≥ 1
  · rw [if_pos h]
    congr 1
    rw [decide_eq_decide]
    omega
  · rw [if_neg h, decide_eq_false (by omega)]
/-- what the statements ask of a codebook, a metric and two vectors -/
def rightOk (d : Int) (cuts : List Int) (words : List (List (List Int))) (m : Int) (v q : List Int) : Prop := few cuts words ∧ bookOk d cuts words ∧ (1 ≤ m ∧ m ≤ 3) ∧ (isVec v ∧ isVec q) ∧ (v.length : Int) = d ∧ (q.length : Int) = d
instance (d : Int) (cuts : List Int) (words : List (List (List Int))) (m : Int) (v q : List Int) : Decidable (rightOk d cuts words m v q) := by unfold rightOk; infer_instance
theorem right_ev (d : Int) (cuts : List Int) (words : List (List (List Int))) (m : Int) (v q : List Int) (hv : v.length ≤ 9223372036854775807) (hq : q.length ≤ 9223372036854775807) :
    Ev (fun k => antiquarylaw08_right.f k d cuts words m v q) (decide (rightOk d cuts words m v q)) := by
  have no : ¬ rightOk d cuts words m v q → Ev (fun k => antiquarylaw08_right.j0 k v q true d cuts words) (decide (rightOk d cuts words m v q)) := fun h => by
    refine ev_succ ?_
    simp only [antiquarylaw08_right.j0]
    exact ev_pos trivial (ev_some (decide_eq_false h).symm)
  refine ev_bind (few_ev d cuts words) ?_
  by_cases h1 : few cuts words
  rotate_left
  · exact ev_neg (by simpa using h1) (no (fun h => h1 h.1))
  refine ev_pos (by simpa using h1) (ev_bind (check_ev d cuts words h1) ?_)
  by_cases h2 : bookOk d cuts words
  rotate_left
  · exact ev_neg (by rw [if_neg h2]; decide) (no (fun h => h2 h.2.1))
  refine ev_pos (if_pos h2) (ev_ob (metric_is m) ?_)
  by_cases h3 : 1 ≤ m ∧ m ≤ 3
  rotate_left
  · rw [decide_eq_false h3]; exact no (fun h => h3 h.2.2.1)
  rw [decide_eq_true h3]
  refine ev_succ ?_
  simp only [antiquarylaw08_right.j0]
  refine ev_neg (by simp) (ev_bind (valid_any v hv) (ev_bind (valid_any q hq) ?_))
  by_cases h4 : isVec v
  rotate_left
  · exact ev_neg (by simpa using h4) (ev_some (decide_eq_false (fun h => h4 h.2.2.2.1.1)).symm)
  refine ev_pos (by simpa using h4) ?_
  by_cases h5 : isVec q
  rotate_left
  · exact ev_neg (by simpa using h5) (ev_some (decide_eq_false (fun h => h5 h.2.2.2.1.2)).symm)
  refine ev_pos (by simpa using h5) ?_
  by_cases h6 : (v.length : Int) = d
  rotate_left
  · exact ev_neg h6 (ev_some (decide_eq_false (fun h => h6 h.2.2.2.2.1)).symm)
  refine ev_pos h6 (ev_some ?_)
  rw [Bool.eq_iff_iff, beq_iff_eq, decide_eq_true_eq]
  exact ⟨fun h => ⟨h1, h2, h3, ⟨h4, h5⟩, h6, h⟩, fun h => h.2.2.2.2.2⟩
end Go.Proofs.Ytgpdfalopdhjlaa.Ev08
end
section
set_option linter.unusedVariables false
namespace Go.Proofs.Ytgpdfalopdhjlaa.EvRead
open Go.RowKit Go.Proofs.Ytgpdfalopdhjlaa.Q Go.Proofs.YtgpdfalopdhjlaaW.PrintWords Go.Proofs.YtgpdfalopdhjlaaW.PrintMore Plain Go.Proofs.Ytgpdfalopdhjlaa.Book Go.Proofs.Ytgpdfalopdhjlaa.Ev08
theorem fin_step {P : Nat → Prop} {i : Nat} (h : ∀ j, j < i → P j) (hi : P i) : ∀ j, j < i + 1 → P j := fun j hj => by
  rcases Nat.lt_or_ge j i with h4 | h4
  · exact h j h4
  · obtain rfl : j = i := by omega
    exact hi
theorem decode_no {words : List (List (List Int))} {c : List Int} (h : ¬ isCode words c) : (([], 1) : List Int × Int) = decodeOf words c := (if_neg h).symm
theorem decode_ev {d : Int} {cuts : List Int} {words : List (List (List Int))} (c : List Int) (hf : few cuts words) (hl : c.length ≤ 20) : Ev (fun k => code_Decode.f k d cuts words c) (decodeOf words c) := by
  by_cases h1 : c.length = words.length
  rotate_left
  · exact ev_neg (by omega) (ev_some (decode_no (fun h => h1 h.1)))
  refine ev_pos (by omega) ?_
  refine ev_count (G := fun i k => code_Decode.l0 k (standUpTo words c i) c (c.length : Int) (i : Int) d cuts words) (n := c.length) (fun i => ∀ j, j < i → 0 ≤ rd c (j : Int) ∧ rd c (j : Int) < (wordsAt words j).length) (fun j hj => by omega) (fun i hi hI h => ?_) (fun hI => ?_)
  · refine ev_succ ?_
    simp only [code_Decode.l0]
    rw [rd_L2_words]
    refine ev_pos (by omega) (ev_pos (by omega) (ev_pos (by omega) ?_))
    by_cases c1 : rd c (i : Int) < 0
    · exact ev_pos c1 (ev_some (decode_no (fun h => by have := (h.2 i hi).1; omega)))
    refine ev_neg c1 (ev_pos (by omega) ?_)
    by_cases c2 : rd c (i : Int) ≥ (wordsAt words i).length
    · exact ev_pos c2 (ev_some (decode_no (fun h => by have := (h.2 i hi).2; omega)))
    have hlen : (standUpTo words c i).length + (rd_L1 (wordsAt words i) (rd c (i : Int))).length < 17592186044416 := by
      have e : c.take i = c.take i := rfl
      have h2 := (hf.2 i (by omega)).2 (rd c (i : Int)).toNat (by omega)
      rw [Int.toNat_of_nonneg (by omega)] at h2
      have h3 : ∀ n, n ≤ i → (standUpTo words c n).length ≤ 33 * n := by
        intro n
        induction n with
        | zero => intro _; simp [standUpTo]
        | succ n ih =>
          intro hn
          have h5 := ih (by omega)
          have hc := hI n (by omega)
          have h6 := (hf.2 n (by omega)).2 (rd c (n : Int)).toNat (by omega)
          rw [Int.toNat_of_nonneg hc.1] at h6
          have h7 : (wordOf words c n).length ≤ 33 := h6
          rw [standUpTo, List.length_append]
          omega
      have := h3 i (Nat.le_refl _)
      omega
    refine ev_neg c2 (ev_pos (by omega) (ev_pos (by omega) (ev_pos hlen ?_)))
    rw [wsuc i (by omega)]
    exact h (fin_step hI ⟨by omega, by omega⟩)
  · refine ev_succ ?_
    simp only [code_Decode.l0]
    exact ev_neg (by omega) (ev_some (by rw [decodeOf, if_pos ⟨h1, hI⟩]))
/-- what a vector and a codebook that is right are asked for -/
theorem read_is {d : Int} {cuts : List Int} {words : List (List (List Int))} {m : Int} {v : List Int} (hm : 1 ≤ m ∧ m ≤ 3) (hb : bookOk d cuts words) (hs : isVec v) (hv : (v.length : Int) = d) : readOk d cuts words m v := ⟨hm, hb, hs, hv⟩
end Go.Proofs.Ytgpdfalopdhjlaa.EvRead
end
section
set_option linter.unusedVariables false
namespace Go.Proofs.Ytgpdfalopdhjlaa.Sane
open Go.RowKit Go.Proofs.Ytgpdfalopdhjlaa.Q Go.Proofs.YtgpdfalopdhjlaaW.PrintWords Plain
theorem sanity_is : antiquarylaw08_sanity.f 60 = some true := by decide +kernel
theorem sanity_ev : Ev (fun k => antiquarylaw08_sanity.f k) true := ev_ofx (fun k => antiquarylaw08_sanity.mono k) ⟨60, sanity_is⟩
end Go.Proofs.Ytgpdfalopdhjlaa.Sane
end
section
set_option linter.unusedVariables false
namespace Go.Proofs.Ytgpdfalopdhjlaa.Pure
open Go.RowKit Go.Proofs.Ytgpdfalopdhjlaa.Q Go.Proofs.YtgpdfalopdhjlaaW.PrintWords Plain Go.Proofs.Ytgpdfalopdhjlaa.Book Go.Proofs.Ytgpdfalopdhjlaa.Ev08 Go.Proofs.Ytgpdfalopdhjlaa.EvRead
theorem CodeIsNearest (d : Int) (cuts : List Int) (words : List (List (List Int))) (m : Int) (v c : List Int) (_ : cuts.length ≤ Go.maxLen) (_ : words.length ≤ Go.maxLen) (hv : v.length ≤ Go.maxLen) (hc : c.length ≤ Go.maxLen) :
    ∃ k, antiquarylaw08_CodeIsNearest.f k d cuts words m v c = some true := by
  unfold Go.maxLen at hv hc
  refine ev_ex ?_
  have other : Ev (fun k => antiquarylaw08_CodeIsNearest.j0 k m v c true d cuts words) true := by
    refine ev_succ ?_
    simp only [antiquarylaw08_CodeIsNearest.j0]
    exact ev_pos trivial (ev_bind Sane.sanity_ev (ev_some rfl))
  refine ev_bind (right_ev d cuts words m v v (by omega) (by omega)) ?_
  by_cases h3 : rightOk d cuts words m v v
  rotate_left
  · exact ev_neg (by simpa using h3) other
  refine ev_pos (by simpa using h3) ?_
  by_cases h2 : (c.length : Int) > 20
  · rw [decide_eq_true h2]; exact other
  rw [decide_eq_false h2]
  obtain ⟨h1, hb, hm, ⟨hs, _⟩, hvl, _⟩ := h3
  have hr := read_is hm hb hs hvl
  have hcl := hb.1.2.1
  have he := encode_code m hb hs hvl
  have hel := encode_length d cuts words m v
  have hst := stand_vec hb he
  have hres := residual_is m hb hs hvl
  refine ev_succ ?_
  simp only [antiquarylaw08_CodeIsNearest.j0]
  refine ev_neg (by simp) (ev_ob (show code_Encode.f d cuts words m v = some _ from if_pos hr) (ev_bind (decode_ev _ h1 (by omega)) ?_))
  rw [decodeOf, if_pos he, hel]
  refine ev_pos rfl (ev_pos (by dsimp only; omega) (ev_bind (Ref04.key_ev m ⟨hs, hst.1, by dsimp only; omega⟩) (ev_ob (show code_Residual.f d cuts words m v = some _ from if_pos hr) ?_)))
  dsimp only
  rw [hres, show (key m v (standUpTo words (encodeOf d cuts words m v (List.finRange cuts.length)) cuts.length) != key m v (standUpTo words (encodeOf d cuts words m v (List.finRange cuts.length)) cuts.length)) = false by simp]
  refine ev_succ ?_
  simp only [antiquarylaw08_CodeIsNearest.j1]
  refine ev_neg (by simp) (ev_bind (decode_ev c h1 (by omega)) ?_)
  by_cases h4 : isCode words c
  rotate_left
  · rw [decodeOf, if_neg h4]
    exact ev_neg (by decide) (ev_bind Sane.sanity_ev (ev_some rfl))
  have hl : c.length = cuts.length := by rw [h4.1, hb.2.1]
  have hst2 := stand_vec hb h4
  rw [decodeOf, if_pos h4, hl]
  refine ev_pos rfl (ev_bind Sane.sanity_ev (ev_pos rfl (ev_pos (by dsimp only; omega) (ev_bind (Ref04.key_ev m ⟨hs, hst2.1, by dsimp only; omega⟩) (ev_ob (show code_Residual.f d cuts words m v = some _ from if_pos hr) (ev_pos (residual_le m hb h4 hs hvl) ?_))))))
  refine ev_ob (show code_Residual.f d cuts words m _ = some _ from if_pos (read_is hm hb hst2.1 hst2.2)) (ev_some ?_)
  rw [residual_zero m hb h4]
  rfl
end Go.Proofs.Ytgpdfalopdhjlaa.Pure
end
section
set_option linter.unusedVariables false
namespace Go.Proofs.Ytgpdfalopdhjlaa.Open
open Go.RowKit Go.Proofs.Ytgpdfalopdhjlaa.Q Go.Proofs.YtgpdfalopdhjlaaW.PrintWords Go.Deep
theorem choice {α β : Type} {r : α → β → Prop} (h : ∀ x, ∃ y, r x y) : ∃ f : α → β, ∀ x, r x (f x) := ⟨fun x => Classical.choose (h x), fun x => Classical.choose_spec (h x)⟩
theorem open_rows {H : Type} {enc : TypeId × Value → H} {P : Program} {w : World} {base : Nat} {held : Bool} {t e q : TypeId} {a : Option Addr} {len cap : Nat} {d : DataW H} {ps : List MemPlace}
    (ht : P.underlying t = some (.slice e)) (he : P.underlying e = some (.slice q)) (hq : P.underlying q = some (.int .i64)) (ce : P.cellsOf e = 1) (cq : P.cellsOf q = 1) (h : DataW.Trod enc P w base (fun _ => true) held t (.slice a len cap) d ps) (ty : Nat) :
    ∃ l : List (List Int), l.length = len ∧ len ≤ cap ∧ cap ≤ maxLen ∧ Kd.C (Kd.slice ty (Kd.int .i64)) w a len l ∧ ∀ v ∈ l, v.length ≤ maxLen ∧ ∀ x ∈ v, (Lit.int .i64 x).wf = true := by
  obtain ⟨fuel, hf⟩ := h
  rcases open_int_rows ht he hq ce cq hf with ⟨hcs, _⟩ | ⟨x, len', cap', A, L, C, Z, hcs, _, hl, hm, _, hx⟩
  · simp [Value.cells] at hcs
    obtain ⟨rfl, rfl, rfl⟩ := hcs
    exact ⟨[], rfl, Nat.le_refl _, Nat.zero_le _, Kd.C_nil _ _, by simp⟩
  · simp [Value.cells] at hcs
    obtain ⟨rfl, rfl, rfl⟩ := hcs
    have hlen : ∀ r, r < cap → ((Z r).take (L r)).length = L r := fun r hr => by
      have := hx r hr
      rw [List.length_take]; omega
    refine ⟨(List.range len).map (fun r => (Z r).take (L r)), by simp, hl, hm, ⟨by simp, by have := hm; unfold maxLen at this; omega, fun _ => ⟨x, rfl, fun j p hp => ?_⟩⟩, ?_⟩
    · have hj : j < len := by
        rcases Nat.lt_or_ge j len with h | h
        · exact h
        · rw [List.getElem?_eq_none (by simp; omega)] at hp; cases hp
      rw [List.getElem?_map, List.getElem?_range hj] at hp
      cases hp
      obtain ⟨hc, hLC, hCm, hZ, hwf, hnone, hsome⟩ := hx j (by omega)
      have hL := hlen j (by omega)
      refine ⟨[.slice (A j) (L j) (C j)], rfl, ⟨A j, C j, by rw [hL], by rw [hL]; exact hLC, ?_⟩, fun i u hu => ?_⟩
      · refine ⟨rfl, by rw [hL]; unfold maxLen at hCm; omega, fun hpos => ?_⟩
        cases hA : A j with
        | none =>
          have hp2 : 0 < L j := by rw [← hL]; exact hpos
          have := hnone hA
          omega
        | some a' =>
          refine ⟨a', rfl, fun c p hp => ⟨[.int .i64 p], rfl, ?_, fun i u hu => ?_⟩⟩
          · exact rfl
          · have hc2 : c < L j := by
              have h6 : c < (List.take (L j) (Z j)).length := (List.getElem?_eq_some_iff.1 hp).1
              omega
            match i, hu with
            | 0, hu =>
              cases hu
              have h3 := (hsome a' hA).2 c (by omega)
              have h4 : (Z j).getD c 0 = p := by
                rw [List.getElem?_take, if_pos hc2] at hp
                rw [List.getD_eq_getElem?_getD, hp]; rfl
              rw [h4] at h3
              show w.cell? (a'.add (c * 1 + 0)) = _
              rw [Nat.mul_one]
              exact h3
            | i + 1, hu => simp at hu
      · match i, hu with
        | 0, hu => cases hu; simpa [Kd.slice] using hc
        | i + 1, hu => simp at hu
    · intro v hv
      obtain ⟨r, hr, rfl⟩ := List.mem_map.1 hv
      have hr := List.mem_range.1 hr
      obtain ⟨_, hLC, hCm, hZ, hwf, _⟩ := hx r (by omega)
      exact ⟨by rw [hlen r (by omega)]; omega, fun y hy => hwf y (List.mem_of_mem_take hy)⟩
theorem rows_of {H : Type} {enc : TypeId × Value → H} {P : Program} {w : World} {base fuel : Nat} {held : Bool} {t e q : TypeId} {v : Value} {x : DataW H × List MemPlace}
    (ht : P.underlying t = some (.slice e)) (he : P.underlying e = some (.slice q)) (hq : P.underlying q = some (.int .i64)) (ce : P.cellsOf e = 1) (cq : P.cellsOf q = 1) (h : DataW.trod enc P w base (fun _ => true) held fuel t [v] = some x) (ty : Nat) :
    ∃ (A : Option Addr) (c : Nat) (l : List (List Int)), v = .slice A l.length c ∧ l.length ≤ c ∧ c ≤ maxLen ∧ Kd.C (Kd.slice ty (Kd.int .i64)) w A l.length l ∧ ∀ v ∈ l, v.length ≤ maxLen ∧ ∀ x ∈ v, (Lit.int .i64 x).wf = true := by
  have hv : ∃ A n c, v = .slice A n c := by
    rcases open_slice1 ht ce h with ⟨hcs, _⟩ | ⟨a, len, cap, _, _, _, _, _, hcs, _⟩
    · exact ⟨_, _, _, by simpa using hcs⟩
    · exact ⟨_, _, _, by simpa using hcs⟩
  obtain ⟨A, n, c, rfl⟩ := hv
  obtain ⟨l, hl, h1, h2, h3, h4⟩ := open_rows (d := x.1) (ps := x.2) ht he hq ce cq ⟨fuel, by simpa [Value.cells] using h⟩ ty
  subst hl
  exact ⟨A, c, l, rfl, h1, h2, h3, h4⟩
theorem ints_of {H : Type} {enc : TypeId × Value → H} {P : Program} {w : World} {base fuel : Nat} {held : Bool} {t e : TypeId} {v : Value} {x : DataW H × List MemPlace}
    (ht : P.underlying t = some (.slice e)) (he : P.underlying e = some (.int .i64)) (ce : P.cellsOf e = 1) (h : DataW.trod enc P w base (fun _ => true) held fuel t [v] = some x) :
    ∃ (A : Option Addr) (c : Nat) (l : List Int), v = .slice A l.length c ∧ l.length ≤ c ∧ c ≤ maxLen ∧ Kd.C (Kd.int .i64) w A l.length l ∧ ∀ x ∈ l, (Lit.int .i64 x).wf = true := by
  rcases Go.ChangeShapes.open_ints ht he ce h with ⟨hcs, _⟩ | ⟨a, len, cap, zs, hcs, _, hl, hm, hz, _, hcell, hwz⟩
  · obtain rfl : v = .slice none 0 0 := by simpa using hcs
    exact ⟨none, 0, [], rfl, Nat.le_refl _, Nat.zero_le _, Kd.C_nil _ _, by simp⟩
  · obtain rfl : v = .slice (some a) len cap := by simpa using hcs
    simp only [if_true] at hz
    have hL : (zs.take len).length = len := by rw [List.length_take]; omega
    refine ⟨some a, cap, zs.take len, by rw [hL], by rw [hL]; exact hl, hm, ?_, fun x hx => hwz x (List.mem_of_mem_take hx)⟩
    refine ⟨rfl, by rw [hL]; unfold maxLen at hm; omega, fun _ => ⟨a, rfl, fun c p hp => ⟨[.int .i64 p], rfl, rfl, fun i u hu => ?_⟩⟩⟩
    have hc2 : c < len := by
      have h6 : c < (zs.take len).length := (List.getElem?_eq_some_iff.1 hp).1
      omega
    match i, hu with
    | 0, hu =>
      cases hu
      have h3 := hcell c (by omega)
      have h4 : zs.getD c 0 = p := by
        rw [List.getElem?_take, if_pos hc2] at hp
        rw [List.getD_eq_getElem?_getD, hp]; rfl
      rw [h4] at h3
      show w.cell? (a.add (c * 1 + 0)) = _
      rw [Nat.mul_one]
      exact h3
    | i + 1, hu => simp at hu
theorem rows3_of {H : Type} {enc : TypeId × Value → H} {P : Program} {w : World} {base fuel : Nat} {held : Bool} {t e q r : TypeId} {v : Value} {x : DataW H × List MemPlace}
    (ht : P.underlying t = some (.slice e)) (he : P.underlying e = some (.slice q)) (hq : P.underlying q = some (.slice r)) (hr : P.underlying r = some (.int .i64)) (ce : P.cellsOf e = 1) (cq : P.cellsOf q = 1) (cr : P.cellsOf r = 1)
    (h : DataW.trod enc P w base (fun _ => true) held fuel t [v] = some x) (ty ty2 : Nat) :
    ∃ (A : Option Addr) (c : Nat) (l : List (List (List Int))), v = .slice A l.length c ∧ l.length ≤ c ∧ c ≤ maxLen ∧ Kd.C (Kd.slice ty2 (Kd.slice ty (Kd.int .i64))) w A l.length l ∧ ∀ ws ∈ l, ws.length ≤ maxLen ∧ ∀ v ∈ ws, v.length ≤ maxLen ∧ ∀ x ∈ v, (Lit.int .i64 x).wf = true := by
  rcases open_slice1 ht ce h with ⟨hcs, _⟩ | ⟨a, len, cap, m, n, V, D, Pl, hcs, _, hl, hm, hmm, _, hx⟩
  · obtain rfl : v = .slice none 0 0 := by simpa using hcs
    exact ⟨none, 0, [], rfl, Nat.le_refl _, Nat.zero_le _, Kd.C_nil _ _, by simp⟩
  · obtain rfl : v = .slice (some a) len cap := by simpa using hcs
    simp only [if_true] at hmm
    have each : ∀ i, ∃ y : Option Addr × Nat × List (List Int), i < len → V i = .slice y.1 y.2.2.length y.2.1 ∧ y.2.2.length ≤ y.2.1 ∧ y.2.1 ≤ maxLen ∧ Kd.C (Kd.slice ty (Kd.int .i64)) w y.1 y.2.2.length y.2.2 ∧ ∀ v ∈ y.2.2, v.length ≤ maxLen ∧ ∀ x ∈ v, (Lit.int .i64 x).wf = true := fun i => by
      by_cases hi : i < len
      · obtain ⟨A, c, l, h1⟩ := rows_of he hq hr cq cr (hx i (by omega)).2 ty
        exact ⟨(A, c, l), fun _ => h1⟩
      · exact ⟨(none, 0, []), fun h => absurd h hi⟩
    obtain ⟨f, hf⟩ := choice each
    refine ⟨some a, cap, (List.range len).map (fun i => (f i).2.2), by simp, by simpa using hl, hm, ?_, ?_⟩
    · refine ⟨by simp, by simp; unfold maxLen at hm; omega, fun _ => ⟨a, rfl, fun j p hp => ?_⟩⟩
      have hj : j < len := by
        rcases Nat.lt_or_ge j len with h | h
        · exact h
        · rw [List.getElem?_eq_none (by simp; omega)] at hp; cases hp
      rw [List.getElem?_map, List.getElem?_range hj] at hp
      cases hp
      obtain ⟨e1, e2, e3, e4, _⟩ := hf j hj
      have hc := (hx j (by omega)).1
      rw [e1] at hc
      refine ⟨[.slice (f j).1 (f j).2.2.length (f j).2.1], rfl, ⟨(f j).1, (f j).2.1, rfl, e2, e4⟩, fun i u hu => ?_⟩
      match i, hu with
      | 0, hu => cases hu; simpa [Kd.slice] using hc
      | i + 1, hu => simp at hu
    · intro ws hws
      obtain ⟨i, hi, rfl⟩ := List.mem_map.1 hws
      obtain ⟨_, e2, e3, _, e5⟩ := hf i (List.mem_range.1 hi)
      exact ⟨Nat.le_trans e2 e3, e5⟩
theorem open_book {H : Type} {enc : TypeId × Value → H} {P : Program} {w : World} {base b0 : Nat} {rc : Reach} {held : Bool} {t e1 e2 e3 e4 : TypeId} {f0 f1 f2 : Field} {v : Value} {d : DataW H} {ps : List MemPlace}
    (hs : P.underlying t = some (.struct #[f0, f1, f2])) (hone : oneCellFields P #[f0, f1, f2] = true) (hC : P.cellsOf t = 3) (u0 : P.underlying f0.type = some (.int .i64)) (u1 : P.underlying f1.type = some (.slice e1)) (v1 : P.underlying e1 = some (.int .i64)) (c1 : P.cellsOf e1 = 1)
    (u2 : P.underlying f2.type = some (.slice e2)) (v2 : P.underlying e2 = some (.slice e3)) (v3 : P.underlying e3 = some (.slice e4)) (v4 : P.underlying e4 = some (.int .i64)) (c2 : P.cellsOf e2 = 1) (c3 : P.cellsOf e3 = 1) (c4 : P.cellsOf e4 = 1)
    (hv : Value.okWide P w rc b0 t v) (h : DataW.Trod enc P w base (fun _ => true) held t v d ps) (ty ty2 : Nat) :
    ∃ (n : Int) (A1 : Option Addr) (k1 : Nat) (l1 : List Int) (A2 : Option Addr) (k2 : Nat) (l2 : List (List (List Int))), v = .agg #[.int .i64 n, .slice A1 l1.length k1, .slice A2 l2.length k2] ∧ (Lit.int .i64 n).wf = true ∧
      (l1.length ≤ k1 ∧ k1 ≤ maxLen ∧ Kd.C (Kd.int .i64) w A1 l1.length l1 ∧ ∀ x ∈ l1, (Lit.int .i64 x).wf = true) ∧
      (l2.length ≤ k2 ∧ k2 ≤ maxLen ∧ Kd.C (Kd.slice ty2 (Kd.slice ty (Kd.int .i64))) w A2 l2.length l2 ∧ ∀ ws ∈ l2, ws.length ≤ maxLen ∧ ∀ v ∈ ws, v.length ≤ maxLen ∧ ∀ x ∈ v, (Lit.int .i64 x).wf = true) := by
  obtain ⟨w0, w1, w2, y0, y1, y2, n, rfl, _, _, t0, t1, t2⟩ := Go.Joins.open_agg3 hs hone hC hv h
  obtain ⟨m, hm, _, hw⟩ := DataW.trod_int u0 t0
  obtain rfl : w0 = .int .i64 m := by simpa using hm
  obtain ⟨A1, k1, l1, rfl, h1⟩ := ints_of u1 v1 c1 t1
  obtain ⟨A2, k2, l2, rfl, h2⟩ := rows3_of u2 v2 v3 v4 c2 c3 c4 t2 ty ty2
  exact ⟨m, A1, k1, l1, A2, k2, l2, rfl, hw, h1, h2⟩
end Go.Proofs.Ytgpdfalopdhjlaa.Open
end
