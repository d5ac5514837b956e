/- A part of the proof of PivotChoosesAsSpecified: what the row's text reaches (packed by a program of this claim out of its texts). -/
import Derived.Test.YtoidpkpgeeeggaaKPivotChoosesAsSpecifiedd
import Derived.Deep.Matrix
import Derived.Deep.SlicePairs
import Derived.ChangeShapes
section
namespace Go.Proofs.Ytoidpkpgeeeggaa.Q
open Go.RowKit Go.Proofs.YtoidpkpgeeeggaaW.PrintWords Go.Proofs.YtoidpkpgeeeggaaW.PrintLast Go.Proofs.YtoidpkpgeeeggaaW.PrintMore
attribute [local go_sem] max2_int min2_int max_two min_two max_three min_three max_four min_four   -- for this text's walks alone
set_option linter.unusedVariables false
set_option linter.unusedSimpArgs false
namespace R4
open Plain
theorem rd_mid (pre : List Int) (x : Int) (v : List Int) : rd (pre ++ x :: v) (pre.length : Int) = x := by
  unfold rd
  simp
theorem len_cast (pre : List Int) (x : Int) (v : List Int) : ((pre ++ x :: v).length : Int) = pre.length + 1 + v.length := by
  simp; omega
theorem snoc_len (pre : List Int) (x : Int) : ((pre ++ [x]).length : Int) = pre.length + 1 := by simp
theorem snoc_eq (pre : List Int) (x : Int) (v : List Int) : pre ++ x :: v = (pre ++ [x]) ++ v := by simp
theorem wsucc (n : Nat) (h : (n : Int) ≤ 4611686018427387904) : wrap64 ((n : Int) + 1) = (n : Int) + 1 := by unfold wrap64; omega
theorem valid_l (v : List Int) : ∀ pre : List Int, ((pre ++ v).length : Int) ≤ 4611686018427387904 →
    Ev (fun k => antiquaryref04_Valid.l0 k (pre ++ v) pre.length) (decide ((∀ x ∈ v, -1000 ≤ x ∧ x ≤ 1000) ∧ 1 ≤ (pre ++ v).length ∧ (pre ++ v).length ≤ 32)) := by
  induction v with
  | nil =>
    intro pre hl
    refine ev_succ ?_
    simp only [antiquaryref04_Valid.l0, List.append_nil]
    refine ev_neg (by omega) ?_
    by_cases h1 : (pre.length : Int) ≥ 1
    · exact ev_pos h1 (ev_some (by rw [Bool.eq_iff_iff]; simp; omega))
    · exact ev_neg h1 (ev_some (by rw [Bool.eq_iff_iff]; simp; omega))
  | cons x v ih =>
    intro pre hl
    have hlen := len_cast pre x v
    refine ev_succ ?_
    simp only [antiquaryref04_Valid.l0]
    refine ev_pos (by omega) (ev_pos (by omega) ?_)
    rw [rd_mid]
    by_cases h1 : x < -1000
    · refine ev_pos h1 (ev_some ?_)
      symm
      rw [decide_eq_false_iff_not]
      rintro ⟨h, _⟩
      have := h x List.mem_cons_self
      omega
    · refine ev_neg h1 ?_
      by_cases h2 : x > 1000
      · refine ev_pos h2 (ev_some ?_)
        symm
        rw [decide_eq_false_iff_not]
        rintro ⟨h, _⟩
        have := h x List.mem_cons_self
        omega
      · refine ev_neg h2 ?_
        have := ih (pre ++ [x]) (by rw [← snoc_eq]; exact hl)
        rw [snoc_len, ← snoc_eq] at this
        rw [wsucc _ (by omega)]
        refine ev_cast this ?_
        rw [Bool.eq_iff_iff, decide_eq_true_eq, decide_eq_true_eq]
        refine and_congr_left (fun _ => ⟨fun h y hy => ?_, fun h y hy => h y (List.mem_cons_of_mem _ hy)⟩)
        rcases List.mem_cons.mp hy with rfl | hy
        · omega
        · exact h y hy
theorem valid_ev (v : List Int) (hl : v.length * 8 ≤ 140737488351232) : Ev (fun k => antiquaryref04_Valid.f k v) (decide (isVec v)) := by
  have h : Ev (fun k => antiquaryref04_Valid.f k v) _ := valid_l v [] (by simp; omega)
  exact ev_cast h (by rw [Bool.eq_iff_iff, decide_eq_true_eq, decide_eq_true_eq]; exact Iff.rfl)
theorem alike_ev (p q : List Int) (hp : p.length * 8 ≤ 140737488351232) (hq : q.length * 8 ≤ 140737488351232) : Ev (fun k => antiquaryref04_Alike.f k p q) (decide (alike p q)) := by
  unfold antiquaryref04_Alike.f
  refine ev_bind (valid_ev p hp) ?_
  by_cases h1 : isVec p
  · refine ev_pos (by simpa using h1) (ev_bind (valid_ev q hq) ?_)
    by_cases h2 : isVec q
    · refine ev_pos (by simpa using h2) (ev_some ?_)
      rw [Bool.eq_iff_iff, beq_iff_eq, decide_eq_true_eq]
      exact ⟨fun h => ⟨h1, h2, by omega⟩, fun h => by have := h.2.2; omega⟩
    · refine ev_neg (by simpa using h2) (ev_some ?_)
      symm
      rw [decide_eq_false_iff_not]
      exact fun h => h2 h.2.1
  · refine ev_neg (by simpa using h1) (ev_some ?_)
    symm
    rw [decide_eq_false_iff_not]
    exact fun h => h1 h.1
theorem mag_f {x : Int} (h : -2000 ≤ x ∧ x ≤ 2000) : antiquaryref04_size.f x = some (Plain.mag x) := by
  unfold antiquaryref04_size.f Plain.mag
  split
  · rw [w64 (by omega) (by omega)]
  · rfl
theorem norm_l (m : Int) (v : List Int) : ∀ (pre : List Int) (acc : Int), (∀ x ∈ v, -2000 ≤ x ∧ x ≤ 2000) → 0 ≤ acc → acc + 4000000 * v.length ≤ 4611686018427387904 → ((pre ++ v).length : Int) ≤ 4611686018427387904 →
    Ev (fun k => antiquaryref04_Norm.l0 k m (pre ++ v) acc pre.length) (join m acc (norm m v)) := by
  induction v with
  | nil =>
    intro pre acc _ h0 _ hl
    refine ev_succ ?_
    simp only [antiquaryref04_Norm.l0, List.append_nil]
    refine ev_neg (by omega) (ev_some ?_)
    exact (join_zero m h0).symm
  | cons x v ih =>
    intro pre acc hv h0 hb hl
    have hlen := len_cast pre x v
    have hx := hv x List.mem_cons_self
    have hp0 := ptl_nonneg m x
    have hp1 := ptl_le m hx
    have hn := ih (pre ++ [x]) (join m acc (ptl m x)) (fun y hy => hv y (List.mem_cons_of_mem _ hy)) (join_nonneg m h0 hp0)
      (by have := join_le_add m h0 hp0; simp only [List.length_cons] at hb; omega) (by rw [← snoc_eq]; exact hl)
    rw [snoc_len, ← snoc_eq, join_assoc] at hn
    simp only [List.length_cons] at hb
    refine ev_succ ?_
    simp only [antiquaryref04_Norm.l0]
    refine ev_pos (by omega) ?_
    rw [rd_mid, wsucc _ (by omega)]
    by_cases h1 : m = 1
    · refine ev_pos h1 (ev_pos (by omega) (ev_ob (mag_f hx) ?_))
      have e : join m acc (ptl m x) = wrap64 (acc + Plain.mag x) := by
        have e1 : ptl m x = Plain.mag x := by unfold ptl; rw [if_neg (by omega)]
        rw [w64 (by omega) (by omega), e1]
        unfold join; rw [if_pos (.inl h1)]
      rw [e] at hn
      exact hn
    · refine ev_neg h1 ?_
      by_cases h2 : m = 2
      · refine ev_pos h2 (ev_pos (by omega) ?_)
        have e1 : ptl m x = x * x := by unfold ptl; rw [if_pos h2]
        have e : join m acc (ptl m x) = wrap64 (acc + wrap64 (x * x)) := by
          rw [w64 (x := x * x) (by omega) (by omega), w64 (by omega) (by omega), e1]
          unfold join; rw [if_pos (.inr h2)]
        rw [e] at hn
        exact hn
      · refine ev_neg h2 (ev_pos (by omega) (ev_ob (mag_f hx) ?_))
        have e : join m acc (ptl m x) = mx acc (Plain.mag x) := by
          unfold join ptl mx; rw [if_neg (by omega), if_neg h2]
        rw [e] at hn
        exact hn
theorem norm_ev (m : Int) (v : List Int) (hv : ∀ x ∈ v, -2000 ≤ x ∧ x ≤ 2000) (hl : v.length ≤ 1000000) : Ev (fun k => antiquaryref04_Norm.f k m v) (norm m v) := by
  have h : Ev (fun k => antiquaryref04_Norm.f k m v) _ := norm_l m v [] 0 hv (by omega) (by omega) (by simp; omega)
  exact ev_cast h (zero_join m (norm_nonneg m v))
theorem sub_l (p : List Int) : ∀ (q p0 q0 acc : List Int), p.length = q.length → p0.length = q0.length → acc.length = p0.length → (p0 ++ p).length ≤ 1000000 → (∀ x ∈ p, -1000 ≤ x ∧ x ≤ 1000) → (∀ x ∈ q, -1000 ≤ x ∧ x ≤ 1000) →
    Ev (fun k => antiquaryref04_Sub.l0 k (p0 ++ p) (q0 ++ q) acc p0.length) (acc ++ diffs p q) := by
  induction p with
  | nil =>
    intro q p0 q0 acc h1 h2 h3 hl _ _
    obtain rfl : q = [] := List.eq_nil_of_length_eq_zero (by simpa using h1.symm)
    refine ev_succ ?_
    simp only [antiquaryref04_Sub.l0, List.append_nil]
    refine ev_neg (by omega) (ev_some ?_)
    simp [diffs]
  | cons x p ih =>
    intro q p0 q0 acc h1 h2 h3 hl hp hq
    obtain ⟨y, q, rfl⟩ : ∃ y t, q = y :: t := by
      cases q with
      | nil => simp at h1
      | cons y t => exact ⟨y, t, rfl⟩
    have hlen := len_cast p0 x p
    have hlen2 := len_cast q0 y q
    have h1' : p.length = q.length := by simpa using h1
    have hx := hp x List.mem_cons_self
    have hy := hq y List.mem_cons_self
    have hn := ih q (p0 ++ [x]) (q0 ++ [y]) (acc ++ [x - y]) h1' (by simp [h2]) (by simp [h3]) (by simpa using hl) (fun z hz => hp z (List.mem_cons_of_mem _ hz)) (fun z hz => hq z (List.mem_cons_of_mem _ hz))
    rw [snoc_len, ← snoc_eq, ← snoc_eq] at hn
    have hl' : (p0 ++ x :: p).length ≤ 1000000 := hl
    refine ev_succ ?_
    simp only [antiquaryref04_Sub.l0]
    refine ev_pos (by omega) (ev_pos (by omega) (ev_pos (by omega) (ev_pos (by omega) ?_)))
    rw [rd_mid, show (p0.length : Int) = (q0.length : Int) by omega, rd_mid, ← show (p0.length : Int) = (q0.length : Int) by omega, wsucc _ (by omega), w64 (by omega) (by omega)]
    refine ev_cast hn ?_
    simp [diffs]
theorem sub_ev {p q : List Int} (h : alike p q) : Ev (fun k => antiquaryref04_Sub.f k p q) (diffs p q) := by
  have h : Ev (fun k => antiquaryref04_Sub.f k p q) _ := sub_l p q [] [] [] h.2.2 rfl rfl (by have := h.1.2.2; simp; omega) h.1.1 h.2.1.1
  exact h
theorem key_ev (m : Int) {p q : List Int} (h : alike p q) : Ev (fun k => antiquaryref04_Key.f k m p q) (key m p q) := by
  unfold antiquaryref04_Key.f
  refine ev_bind (sub_ev h) (ev_bind (norm_ev m _ (diffs_range p q h.1.1 h.2.1.1) ?_) (ev_some rfl))
  rw [diffs_length p q h.2.2]
  have := h.1.2.2
  omega
end R4
def pivot_few (l : List (List Int)) : Prop := l.length ≤ 4096 ∧ ∀ v ∈ l, v.length ≤ 4096
instance (l : List (List Int)) : Decidable (pivot_few l) := by unfold pivot_few; infer_instance
theorem ref09_Metric_is (m : Int) : antiquaryref09_Metric.f m = some (decide (1 ≤ m ∧ m ≤ 3)) := by
  unfold antiquaryref09_Metric.f
  by_cases h1 : m ≥ 1
  · rw [if_pos h1]; congr 1; rw [Bool.eq_iff_iff, decide_eq_true_eq, decide_eq_true_eq]; omega
  · rw [if_neg h1]; congr 1; symm; rw [decide_eq_false_iff_not]; omega
theorem ref09_Fit_l (l : List (List Int)) (hl : pivot_few l) (q : List (List Int)) : ∀ pre : List (List Int), l = pre ++ q → (∀ v ∈ pre, Plain.isVec v ∧ v.length = (rowOf l 0).length) →
    Ev (fun k => antiquaryref09_Fit.l0 k l (pre.length : Int)) (decide (pivot_isFit l)) := by
  induction q with
  | nil =>
    intro pre hx hp
    have h2 : l.length = pre.length := by rw [hx]; simp
    have hlp : l = pre := by rw [hx, List.append_nil]
    refine Plain.ev_succ ?_
    simp only [antiquaryref09_Fit.l0]
    refine Plain.ev_neg (by omega) ?_
    by_cases h1 : (l.length : Int) ≥ 1
    · refine Plain.ev_pos h1 (Plain.ev_some ?_)
      have h0 : rowOf l 0 ∈ l := rowOf_mem (by omega)
      rw [Bool.eq_iff_iff, decide_eq_true_eq, decide_eq_true_eq]
      exact ⟨fun h => ⟨by omega, by omega, fun v hv => ⟨(hp _ (hlp ▸ h0)).1, (hp _ (hlp ▸ hv)).1, (hp _ (hlp ▸ hv)).2.symm⟩⟩, fun h => by have := h.2.1; omega⟩
    · refine Plain.ev_neg h1 (Plain.ev_some ?_)
      symm; rw [decide_eq_false_iff_not]; exact fun h => h1 (by have := h.1; omega)
  | cons x q ih =>
    intro pre hx hp
    have h2 : (l.length : Int) = pre.length + 1 + q.length := by rw [hx]; simp; omega
    have hxl : x ∈ l := by rw [hx]; simp
    refine Plain.ev_succ ?_
    simp only [antiquaryref09_Fit.l0]
    refine Plain.ev_pos (by omega) (Plain.ev_pos (by omega) ?_)
    rw [show rd_L1 l (pre.length : Int) = x by rw [hx]; exact rdL_mid _ _ _]
    refine Plain.ev_bind (R4.valid_ev x (by have := hl.2 x hxl; omega)) ?_
    by_cases h3 : Plain.isVec x
    · refine Plain.ev_pos (decide_eq_true h3) (Plain.ev_pos (by omega) ?_)
      rw [show rd_L1 l 0 = rowOf l 0 from rdL_row l 0]
      by_cases h4 : (x.length : Int) = ((rowOf l 0).length : Int)
      · refine Plain.ev_pos h4 ?_
        have hn := ih (pre ++ [x]) (by rw [hx]; simp) (fun v hv => by
          rcases List.mem_append.1 hv with h | h
          · exact hp v h
          · obtain rfl := List.mem_singleton.1 h
            exact ⟨h3, by omega⟩)
        rw [show ((pre ++ [x]).length : Int) = (pre.length : Int) + 1 by simp] at hn
        rw [Plain.w64 (by omega) (by have := hl.1; omega)]
        exact hn
      · refine Plain.ev_neg h4 (Plain.ev_some ?_)
        symm; rw [decide_eq_false_iff_not]; exact fun h => h4 (by have := (h.2.2 x hxl).2.2; omega)
    · refine Plain.ev_neg (by simpa using h3) (Plain.ev_some ?_)
      symm; rw [decide_eq_false_iff_not]; exact fun h => h3 (h.2.2 x hxl).2.1
theorem ref09_Fit_ev {l : List (List Int)} (hl : pivot_few l) : Ev (fun k => antiquaryref09_Fit.f k l) (decide (pivot_isFit l)) := ref09_Fit_l l hl l [] rfl (fun v hv => by cases hv)
/-- the first vector with the least key -/
def nearAt (m : Int) (v : List Int) : List (List Int) → Nat → Int × Int → Int × Int
  | [], _, b => b
  | q :: c, i, b => nearAt m v c (i + 1) (if Plain.key m q v < b.2 then ((i : Int), Plain.key m q v) else b)
def nearOf (m : Int) (c : List (List Int)) (v : List Int) : Int × Int := nearAt m v c 0 (0, Plain.key m (rowOf c 0) v)
theorem ref09_near_l (m : Int) (c : List (List Int)) (hc : c.length ≤ 4096) (v : List Int) (q : List (List Int)) : ∀ (pre : List (List Int)) (b : Int × Int), c = pre ++ q → (∀ x ∈ q, Plain.alike x v) →
    Ev (fun k => antiquaryref09_nearest.l0 k m c v (pre.length : Int) b.1 b.2 0) ((nearAt m v q pre.length b).1, (nearAt m v q pre.length b).2, 0) := by
  induction q with
  | nil =>
    intro pre b hx _
    have h2 : c.length = pre.length := by rw [hx]; simp
    refine Plain.ev_succ ?_
    simp only [antiquaryref09_nearest.l0]
    exact Plain.ev_neg (by omega) (Plain.ev_some rfl)
  | cons x q ih =>
    intro pre b hx ha
    have h2 : (c.length : Int) = pre.length + 1 + q.length := by rw [hx]; simp; omega
    refine Plain.ev_succ ?_
    simp only [antiquaryref09_nearest.l0]
    refine Plain.ev_pos (by omega) (Plain.ev_pos (by omega) ?_)
    rw [show rd_L1 c (pre.length : Int) = x by rw [hx]; exact rdL_mid _ _ _]
    refine Plain.ev_bind (R4.key_ev m (ha x List.mem_cons_self)) ?_
    rw [Plain.w64 (by omega) (by omega)]
    have hn := fun b => ih (pre ++ [x]) b (by rw [hx]; simp) (fun y hy => ha y (List.mem_cons_of_mem _ hy))
    by_cases h3 : Plain.key m x v < b.2
    · have hn := hn ((pre.length : Int), Plain.key m x v)
      rw [show ((pre ++ [x]).length : Int) = (pre.length : Int) + 1 by simp, show (pre ++ [x]).length = pre.length + 1 by simp] at hn
      refine Plain.ev_pos h3 (Plain.ev_cast hn ?_)
      simp only [nearAt, if_pos h3]
    · have hn := hn b
      rw [show ((pre ++ [x]).length : Int) = (pre.length : Int) + 1 by simp, show (pre ++ [x]).length = pre.length + 1 by simp] at hn
      refine Plain.ev_neg h3 (Plain.ev_cast hn ?_)
      simp only [nearAt, if_neg h3]
theorem ref09_near_ev (m : Int) {c : List (List Int)} (h0 : 0 < c.length) (hc : c.length ≤ 4096) {v : List Int} (ha : ∀ x ∈ c, Plain.alike x v) : Ev (fun k => antiquaryref09_nearest.f k m c v) ((nearOf m c v).1, (nearOf m c v).2, 0) := by
  unfold antiquaryref09_nearest.f
  refine Plain.ev_pos (by omega) ?_
  rw [show rd_L1 c 0 = rowOf c 0 from rdL_row c 0]
  exact Plain.ev_bind (R4.key_ev m (ha _ (rowOf_mem h0))) (ref09_near_l m c hc v c [] (0, Plain.key m (rowOf c 0) v) rfl ha)
/-- the farthest vector -/
def farN (m : Int) (l ch : List (List Int)) : Nat → Nat × Int
  | 0 => (0, 0)
  | i + 1 => if (nearOf m ch (rowOf l i)).2 > (farN m l ch i).2 then (i, (nearOf m ch (rowOf l i)).2) else farN m l ch i
theorem farN_lt (m : Int) (l ch : List (List Int)) (h0 : 0 < l.length) : ∀ i, i ≤ l.length → (farN m l ch i).1 < l.length
  | 0, _ => h0
  | i + 1, h => by
    unfold farN
    split
    · exact h
    · exact farN_lt m l ch h0 i (by omega)
def rchooseL (m : Int) (l : List (List Int)) (most : Int) : Nat → List Int → List (List Int) → List Int
  | 0, out, _ => out
  | n + 1, out, ch => if (out.length : Int) < most then (if (farN m l ch l.length).2 = 0 then out else rchooseL m l most n (out ++ [((farN m l ch l.length).1 : Int)]) (ch ++ [rowOf l (farN m l ch l.length).1])) else out
def rchooseOf (m : Int) (l : List (List Int)) (most : Int) : List Int := rchooseL m l most 8 [0] [rowOf l 0]
def antiquaryref09_Choose.f (a0 : Int) (l1 : List (List Int)) (a2 : Int) : Option (List Int × Int) := if pivot_few l1 then some (if chooseOk a0 l1 a2 then (rchooseOf a0 l1 a2, 0) else ([], 1)) else none
set_option maxHeartbeats 1000000 in
set_option maxRecDepth 100000 in
theorem ref09_Choose_no.calls (a0 : Int) (A1 : Option Addr) (c1 : Nat) (l1 : List (List Int)) (a2 : Int) (w : World) (hr1 : Kd.C (Kd.slice 3 (Kd.int .i64)) w A1 l1.length l1) (hc1 : l1.length ≤ c1) (hs : pivot_few l1) (hno : ¬ chooseOk a0 l1 a2) :
    Calls Try.prog 15 #[.int .i64 a0, .slice A1 l1.length c1, .int .i64 a2] w fun e w' => e = .returned (.agg #[.slice none 0 0, .int .i64 1]) ∧ Below w.heap.size w w' := by
  have HM := Aside0.mk (fun W => antiquaryref09_Metric.calls a0 _ W (ref09_Metric_is a0))
  obtain ⟨kf, hkf⟩ := Plain.ev_ex (ref09_Fit_ev hs)
  have HF := Aside0.mk (fun W hW => antiquaryref09_Fit.calls kf A1 c1 l1 (decide (pivot_isFit l1)) W hW hc1 hkf)
  have HR := Aside0.mk hr1
  have hu := Try.underlying36
  clear hkf hr1 hs hc1
  by_cases h1 : 1 ≤ a0 ∧ a0 ≤ 3
  · rw [decide_eq_true h1] at HM
    by_cases h2 : pivot_isFit l1
    · rw [decide_eq_true h2] at HF
      by_cases h3 : a2 < 1
      · have d3 : decide (a2 < 1) = true := decide_eq_true h3
        clear h1 h2 h3 hno
        go_enter Try.func15, Try.ntmps15
        go_wp2_with ((with_reducible refine gate_dst (N := 6) rfl ?_); refine box_event ?hg (N := 6) ?hd (cs := #[.slice none 0 0, .int .i64 0]) (t := 36) ?hr ?_; (case hd => rfl); (case hg => rfl); (case hr => first | (go_simp; done) | (go_simp; rfl)); intro rb hrb w0 hbox hb0; have HB0 := Aside0.mk hb0; have BK := Aside0.mk hbox; have GRB : Aside0 (w.heap.size ≤ rb) := ⟨by rw [hrb]; exact Nat.le_refl _⟩; clear hb0 hbox hrb)
        refine (HM.out _).mono ?_
        rintro e w1 ⟨rfl, hd⟩
        obtain ⟨n1, rfl⟩ := hd.out
        clear hd
        go_wp2_with fail
        refine (HF.out _ (Kd.C_drewN (Kd.C_below HR.out HB0.out) n1)).mono ?_
        rintro e w2 ⟨rfl, hd⟩
        obtain ⟨n2, rfl⟩ := hd.out
        clear hd
        rw [World.drewN_drewN]
        generalize n1 + n2 = n3 at *
        have hz0 : (w0.drewN n3).cell? ⟨rb, 0, none⟩ = some (.slice none 0 0) := (blk_cell (blk_drewN BK.out n3) 0).trans rfl
        have hz1 : (w0.drewN n3).cell? ⟨rb, 1, none⟩ = some (.int .i64 0) := (blk_cell (blk_drewN BK.out n3) 1).trans rfl
        have hy0 := blk_frozen (blk_drewN BK.out n3) 0
        have hy1 := blk_frozen (blk_drewN BK.out n3) 1
        go_wp2
        (try simp only [Exit.inBlock, Exit.then])
        refine bodyPost_ret (results_cell_row rfl _ _ rb 36 #[.slice none 0 0, .int .i64 1] (0, 0) _ rfl (by refine blk_put (cs := #[.slice none 0 0, .int .i64 0]) ?_ 1 _ rfl; refine blk_put (cs := #[.slice none 0 0, .int .i64 0]) ?_ 0 _ rfl; exact blk_drewN BK.out n3) Try.underlying36 rfl (by kernel_rfl)) rfl ?_
        exact ⟨rfl, below_set (below_set (pw_below_drewN HB0.out n3) GRB.out) GRB.out⟩
      · have h4 : a2 > 8 := by
          by_cases h : a2 > 8
          · exact h
          · exact absurd ⟨h1, h2, by omega, by omega⟩ hno
        have d3 : decide (a2 < 1) = false := decide_eq_false h3
        have d4 : decide (a2 > 8) = true := decide_eq_true h4
        clear h1 h2 h3 h4 hno
        go_enter Try.func15, Try.ntmps15
        go_wp2_with ((with_reducible refine gate_dst (N := 6) rfl ?_); refine box_event ?hg (N := 6) ?hd (cs := #[.slice none 0 0, .int .i64 0]) (t := 36) ?hr ?_; (case hd => rfl); (case hg => rfl); (case hr => first | (go_simp; done) | (go_simp; rfl)); intro rb hrb w0 hbox hb0; have HB0 := Aside0.mk hb0; have BK := Aside0.mk hbox; have GRB : Aside0 (w.heap.size ≤ rb) := ⟨by rw [hrb]; exact Nat.le_refl _⟩; clear hb0 hbox hrb)
        refine (HM.out _).mono ?_
        rintro e w1 ⟨rfl, hd⟩
        obtain ⟨n1, rfl⟩ := hd.out
        clear hd
        go_wp2_with fail
        refine (HF.out _ (Kd.C_drewN (Kd.C_below HR.out HB0.out) n1)).mono ?_
        rintro e w2 ⟨rfl, hd⟩
        obtain ⟨n2, rfl⟩ := hd.out
        clear hd
        rw [World.drewN_drewN]
        generalize n1 + n2 = n3 at *
        have hz0 : (w0.drewN n3).cell? ⟨rb, 0, none⟩ = some (.slice none 0 0) := (blk_cell (blk_drewN BK.out n3) 0).trans rfl
        have hz1 : (w0.drewN n3).cell? ⟨rb, 1, none⟩ = some (.int .i64 0) := (blk_cell (blk_drewN BK.out n3) 1).trans rfl
        have hy0 := blk_frozen (blk_drewN BK.out n3) 0
        have hy1 := blk_frozen (blk_drewN BK.out n3) 1
        go_wp2
        (try simp only [Exit.inBlock, Exit.then])
        refine bodyPost_ret (results_cell_row rfl _ _ rb 36 #[.slice none 0 0, .int .i64 1] (0, 0) _ rfl (by refine blk_put (cs := #[.slice none 0 0, .int .i64 0]) ?_ 1 _ rfl; refine blk_put (cs := #[.slice none 0 0, .int .i64 0]) ?_ 0 _ rfl; exact blk_drewN BK.out n3) Try.underlying36 rfl (by kernel_rfl)) rfl ?_
        exact ⟨rfl, below_set (below_set (pw_below_drewN HB0.out n3) GRB.out) GRB.out⟩
    · rw [decide_eq_false h2] at HF
      clear h1 h2 hno
      go_enter Try.func15, Try.ntmps15
      go_wp2_with ((with_reducible refine gate_dst (N := 6) rfl ?_); refine box_event ?hg (N := 6) ?hd (cs := #[.slice none 0 0, .int .i64 0]) (t := 36) ?hr ?_; (case hd => rfl); (case hg => rfl); (case hr => first | (go_simp; done) | (go_simp; rfl)); intro rb hrb w0 hbox hb0; have HB0 := Aside0.mk hb0; have BK := Aside0.mk hbox; have GRB : Aside0 (w.heap.size ≤ rb) := ⟨by rw [hrb]; exact Nat.le_refl _⟩; clear hb0 hbox hrb)
      refine (HM.out _).mono ?_
      rintro e w1 ⟨rfl, hd⟩
      obtain ⟨n1, rfl⟩ := hd.out
      clear hd
      go_wp2_with fail
      refine (HF.out _ (Kd.C_drewN (Kd.C_below HR.out HB0.out) n1)).mono ?_
      rintro e w2 ⟨rfl, hd⟩
      obtain ⟨n2, rfl⟩ := hd.out
      clear hd
      rw [World.drewN_drewN]
      generalize n1 + n2 = n3 at *
      have hz0 : (w0.drewN n3).cell? ⟨rb, 0, none⟩ = some (.slice none 0 0) := (blk_cell (blk_drewN BK.out n3) 0).trans rfl
      have hz1 : (w0.drewN n3).cell? ⟨rb, 1, none⟩ = some (.int .i64 0) := (blk_cell (blk_drewN BK.out n3) 1).trans rfl
      have hy0 := blk_frozen (blk_drewN BK.out n3) 0
      have hy1 := blk_frozen (blk_drewN BK.out n3) 1
      go_wp2
      (try simp only [Exit.inBlock, Exit.then])
      refine bodyPost_ret (results_cell_row rfl _ _ rb 36 #[.slice none 0 0, .int .i64 1] (0, 0) _ rfl (by refine blk_put (cs := #[.slice none 0 0, .int .i64 0]) ?_ 1 _ rfl; refine blk_put (cs := #[.slice none 0 0, .int .i64 0]) ?_ 0 _ rfl; exact blk_drewN BK.out n3) Try.underlying36 rfl (by kernel_rfl)) rfl ?_
      exact ⟨rfl, below_set (below_set (pw_below_drewN HB0.out n3) GRB.out) GRB.out⟩
  · rw [decide_eq_false h1] at HM
    clear h1 hno
    go_enter Try.func15, Try.ntmps15
    go_wp2_with ((with_reducible refine gate_dst (N := 6) rfl ?_); refine box_event ?hg (N := 6) ?hd (cs := #[.slice none 0 0, .int .i64 0]) (t := 36) ?hr ?_; (case hd => rfl); (case hg => rfl); (case hr => first | (go_simp; done) | (go_simp; rfl)); intro rb hrb w0 hbox hb0; have HB0 := Aside0.mk hb0; have BK := Aside0.mk hbox; have GRB : Aside0 (w.heap.size ≤ rb) := ⟨by rw [hrb]; exact Nat.le_refl _⟩; clear hb0 hbox hrb)
    refine (HM.out _).mono ?_
    rintro e w1 ⟨rfl, hd⟩
    obtain ⟨n1, rfl⟩ := hd.out
    clear hd
    have hz0 : (w0.drewN n1).cell? ⟨rb, 0, none⟩ = some (.slice none 0 0) := (blk_cell (blk_drewN BK.out n1) 0).trans rfl
    have hz1 : (w0.drewN n1).cell? ⟨rb, 1, none⟩ = some (.int .i64 0) := (blk_cell (blk_drewN BK.out n1) 1).trans rfl
    have hy0 := blk_frozen (blk_drewN BK.out n1) 0
    have hy1 := blk_frozen (blk_drewN BK.out n1) 1
    go_wp2
    (try simp only [Exit.inBlock, Exit.then])
    refine bodyPost_ret (results_cell_row rfl _ _ rb 36 #[.slice none 0 0, .int .i64 1] (0, 0) _ rfl (by refine blk_put (cs := #[.slice none 0 0, .int .i64 0]) ?_ 1 _ rfl; refine blk_put (cs := #[.slice none 0 0, .int .i64 0]) ?_ 0 _ rfl; exact blk_drewN BK.out n1) Try.underlying36 rfl (by kernel_rfl)) rfl ?_
    exact ⟨rfl, below_set (below_set (pw_below_drewN HB0.out n1) GRB.out) GRB.out⟩
/-- a row with one row that came in -/
theorem owns_rows_one {W : World} {base : Nat} {x : List Int} {u : Value} (hb : base ≤ W.heap.size) (ok okp : Nat → Prop) (hok : ok W.heap.size) (hF : Kd.FK (Kd.slice 3 (Kd.int .i64)) W okp x [u]) (hokp : ∀ k, okp k → ok k ∧ k ≠ W.heap.size) :
    Kd.N (Kd.slice 3 (Kd.int .i64)) 23 (W.alloc (.cells #[u] 23)) base ok (.slice (some ⟨W.heap.size, 0, none⟩) [x].length 1) [x] := by
  have hone : u.oneCell' = true := Kd.K_one _ (Kd.FK_now hF) u (by simp)
  refine ⟨fun k hk => ?_, [[u]], rfl, ⟨fun k hk => hk.symm, [u], ⟨rfl, .inr ⟨W.heap.size, 1, #[u], rfl, hb, heap_alloc_new W _, Nat.le_refl _, by unfold maxLen; omega, rfl, rfl⟩⟩, rfl, fun j p hj => ?_⟩, fun j y c hy hc => ?_⟩
  · have : W.heap.size = k := by simpa [Value.ownBlock] using hk
    subst this
    exact hok
  · cases j with
    | zero => cases hj; exact ⟨rfl, rfl, fun y hy => by
        have hy2 : y ∈ [u] := hy
        rw [List.mem_singleton.1 hy2]; exact hone⟩
    | succ j => simp at hj
  · cases j with
    | zero =>
      cases hy; cases hc
      exact Kd.FK_mono (Kd.FK_below hF (below_alloc (Below.refl _ _) _)) (fun k hk => ⟨(hokp k hk).1, fun he => (hokp k hk).2 (by simpa [Value.ownBlock] using he)⟩)
    | succ j => simp at hy
set_option maxHeartbeats 8000000 in
set_option maxRecDepth 100000 in
theorem ref09_Choose_yes.calls (a0 : Int) (A1 : Option Addr) (c1 : Nat) (l1 : List (List Int)) (a2 : Int) (w : World) (hr1 : Kd.C (Kd.slice 3 (Kd.int .i64)) w A1 l1.length l1) (hc1 : l1.length ≤ c1) (hs : pivot_few l1) (hok : chooseOk a0 l1 a2) :
    Calls Try.prog 15 #[.int .i64 a0, .slice A1 l1.length c1, .int .i64 a2] w fun e w' => ∃ v0_ : Value, e = .returned (.agg #[v0_, .int .i64 0]) ∧ Kd.R (Kd.int .i64) 3 w' w.heap.size (fun _ => True) v0_ (rchooseOf a0 l1 a2) ∧ Below w.heap.size w w' := by
  obtain ⟨hm, hfit, h21, h28⟩ := hok
  have HNR := Aside0.mk (fun (W : World) (Ac : Option Addr) (cc : Nat) (ch : List (List Int)) (hC : Kd.C (Kd.slice 3 (Kd.int .i64)) W Ac ch.length ch) (hcc : ch.length ≤ cc) (h0 : 0 < ch.length) (hl : ch.length ≤ 4096) (hin : ∀ x ∈ ch, x ∈ l1) (i : Nat) (hi : i < l1.length) (Ai : Option Addr) (ci : Nat) (hR : Kd.C (Kd.int .i64) W Ai (rowOf l1 i).length (rowOf l1 i)) (hci : (rowOf l1 i).length ≤ ci) =>
    (Plain.ev_ex (ref09_near_ev a0 h0 hl (v := rowOf l1 i) (fun x hx => fit_alike hfit (hin x hx) (rowOf_mem hi)))).elim fun kn hkn => antiquaryref09_nearest.calls kn a0 Ac cc ch Ai ci (rowOf l1 i) _ _ _ W hC hcc hR hci hkn)
  have HLP := Aside0.mk hfit.1
  have HLM := Aside0.mk hfit.2.1
  have d3 : decide (a2 < 1) = false := decide_eq_false (by omega)
  have d4 : decide (a2 > 8) = false := decide_eq_false (by omega)
  have H28 := Aside0.mk h28
  have HM := Aside0.mk (fun W => antiquaryref09_Metric.calls a0 _ W (ref09_Metric_is a0))
  obtain ⟨kf, hkf⟩ := Plain.ev_ex (ref09_Fit_ev hs)
  have HF := Aside0.mk (fun W hW => antiquaryref09_Fit.calls kf A1 c1 l1 (decide (pivot_isFit l1)) W hW hc1 hkf)
  have HR := Aside0.mk hr1
  have hu := Try.underlying36
  clear hkf hr1 hs hc1
  have hu2 := Try.underlying39
  rw [decide_eq_true hm] at HM
  rw [decide_eq_true hfit] at HF
  obtain ⟨ad, A0, c0, e0, ha0, hc00, hR0⟩ := rows_at HR.out 0 hfit.1
  subst e0
  rw [show ad.add 0 = ad from rfl] at ha0
  have HA0 := Aside0.mk ha0
  have HFK0 : Aside0 (Kd.F (Kd.int .i64) w (fun k => k < w.heap.size) A0 (rowOf l1 0).length (rowOf l1 0)) := ⟨Kd.C_F Kd.heap_scalar hR0⟩
  have HC00 := Aside0.mk hc00
  clear ha0 hR0 hc00 hm hfit h21 h28
  go_enter Try.func15, Try.ntmps15
  go_wp2_with ((with_reducible refine gate_dst (N := 6) rfl ?_); refine box_event ?hg (N := 6) ?hd (cs := #[.slice none 0 0, .int .i64 0]) (t := 36) ?hr ?_; (case hd => rfl); (case hg => rfl); (case hr => first | (go_simp; done) | (go_simp; rfl)); intro rb hrb w0 hbox hb0; have HB0 := Aside0.mk hb0; have BK := Aside0.mk hbox; have GRB : Aside0 (w.heap.size ≤ rb) := ⟨by rw [hrb]; exact Nat.le_refl _⟩; clear hb0 hbox hrb)
  refine (HM.out _).mono ?_
  rintro e w1 ⟨rfl, hd⟩
  obtain ⟨n1, rfl⟩ := hd.out
  clear hd
  go_wp2_with fail
  refine (HF.out _ (Kd.C_drewN (Kd.C_below HR.out HB0.out) n1)).mono ?_
  rintro e w2 ⟨rfl, hd⟩
  obtain ⟨n2, rfl⟩ := hd.out
  clear hd
  rw [World.drewN_drewN]
  generalize n1 + n2 = n3 at *
  have ha1 : (w0.drewN n3).cell? ad = some (.slice A0 (rowOf l1 0).length c0) := pw_cell_below (pw_below_drewN HB0.out n3) HA0.out
  have HB1 := Aside0.mk (pw_below_drewN HB0.out n3)
  have BK1 : Aside0 ((w0.drewN n3).heap[rb]? = some (.cells #[.slice none 0 0, .int .i64 0] 36 (0, 0))) := ⟨blk_drewN BK.out n3⟩
  have HGLT : rb < (w0.drewN n3).heap.size := blk_lt BK1.out
  generalize w0.drewN n3 = w5 at *
  have hq0 : 0 < l1.length := HLP.out
  have ha2 : (w5.alloc (.cells #[.int .i64 0] 3)).cell? ad = some (.slice A0 (rowOf l1 0).length c0) := (World.cell?_alloc_lt _ _ _ (World.block_lt_of_cell? _ _ ha1)).trans ha1
  clear HB0 BK HM HF ha1
  go_wp2_with fail
  have HO1 : Aside0 (Kd.R (Kd.int .i64) 3 ((w5.alloc (.cells #[.int .i64 0] 3)).alloc (.cells #[.slice A0 (rowOf l1 0).length c0] 23)) w.heap.size (fun k => k ≠ rb ∧ some k ≠ (Value.slice (some ⟨w5.heap.size + 1, 0, none⟩) 1 1).ownBlock) (.slice (some ⟨w5.heap.size, 0, none⟩) 1 1) [0]) := ⟨Kd.R_alloc (owns_one HB1.out.size _ ⟨by omega, by simp [Value.ownBlock]⟩) _⟩
  have hw6 : (w5.alloc (.cells #[.int .i64 0] 3)).heap.size = w5.heap.size + 1 := by unfold World.alloc; exact Array.size_push _
  have HN1 : Aside0 (Kd.N (Kd.slice 3 (Kd.int .i64)) 23 ((w5.alloc (.cells #[.int .i64 0] 3)).alloc (.cells #[.slice A0 (rowOf l1 0).length c0] 23)) w.heap.size (fun k => k ≠ rb ∧ some k ≠ (Value.slice (some ⟨w5.heap.size, 0, none⟩) 1 1).ownBlock) (.slice (some ⟨w5.heap.size + 1, 0, none⟩) 1 1) [rowOf l1 0]) := ⟨by
    have h := owns_rows_one (W := w5.alloc (.cells #[.int .i64 0] 3)) (base := w.heap.size) (x := rowOf l1 0) (u := .slice A0 (rowOf l1 0).length c0) (by rw [hw6]; have := HB1.out.size; omega) (fun k => k ≠ rb ∧ some k ≠ (Value.slice (some ⟨w5.heap.size, 0, none⟩) 1 1).ownBlock) (fun k => k < w.heap.size) (by rw [hw6]; exact ⟨by omega, by simp [Value.ownBlock]⟩) (Kd.FK_slice_mk HC00.out (Kd.F_below HFK0.out (below_alloc HB1.out _))) (fun k hk => ⟨⟨by have := GRB.out; omega, by simp only [Value.ownBlock]; intro he; injection he with he; have := HB1.out.size; omega⟩, by rw [hw6]; have := HB1.out.size; omega⟩)
    rw [hw6] at h
    exact h⟩
  have HB2 := Aside0.mk (below_alloc (below_alloc HB1.out (.cells #[.int .i64 0] 3)) (.cells #[.slice A0 (rowOf l1 0).length c0] 23))
  have BK2 : Aside0 (((w5.alloc (.cells #[.int .i64 0] 3)).alloc (.cells #[.slice A0 (rowOf l1 0).length c0] 23)).heap[rb]? = some (.cells #[.slice none 0 0, .int .i64 0] 36 (0, 0))) := ⟨blk_alloc (blk_alloc BK1.out _) _⟩
  skip
  go_loopw [7, 8] (fun vo vc wr => ∃ (f : Nat) (out : List Int) (ch : List (List Int)) (ao ac : Option Addr) (co cc : Nat), vo = .slice ao out.length co ∧ vc = .slice ac ch.length cc ∧ Aside0 (f + out.length = 9) ∧ Aside0 (0 < ch.length) ∧ Aside0 (ch.length + f ≤ 9) ∧ Aside0 (∀ x ∈ ch, x ∈ l1) ∧ Aside0 (rchooseL a0 l1 a2 f out ch = rchooseOf a0 l1 a2) ∧ Aside0 (Kd.R (Kd.int .i64) 3 wr w.heap.size (fun k => k ≠ rb ∧ some k ≠ (Value.slice ac ch.length cc : Value).ownBlock) (.slice ao out.length co) out) ∧ Aside0 (Kd.N (Kd.slice 3 (Kd.int .i64)) 23 wr w.heap.size (fun k => k ≠ rb ∧ some k ≠ (Value.slice ao out.length co : Value).ownBlock) (.slice ac ch.length cc) ch) ∧ Aside0 (wr.heap[rb]? = some (.cells #[.slice none 0 0, .int .i64 0] 36 (0, 0))) ∧ Aside0 (Below w.heap.size w wr)) (fun v _ _ => 9 - lenV v)
  case atStart => exact ⟨8, [0], [rowOf l1 0], _, _, _, _, rfl, rfl, ⟨rfl⟩, ⟨by simp⟩, ⟨by simp⟩, ⟨fun x hx => by rw [List.mem_singleton.1 hx]; exact rowOf_mem HLP.out⟩, ⟨rfl⟩, HO1, HN1, BK2, HB2⟩
  case round =>
    clear HO1 HN1 BK2 HB2 hw6 HB1 BK1 HGLT ha2 hq0
    obtain ⟨f, out, ch, ao, ac, co, cc, rfl, rfl, hf, hcp, hcl, hin, hrec, HO, HN, BK, HB⟩ := hrel
    by_cases hlt : (out.length : Int) < a2
    · have d1 : decide ((out.length : Int) < a2) = true := decide_eq_true hlt
      obtain ⟨f, rfl⟩ : ∃ f1, f = f1 + 1 := ⟨f - 1, by have := hf.out; have := H28.out; omega⟩
      have hrec2 := hrec.out
      rw [rchooseL, if_pos hlt] at hrec2
      have HREC := Aside0.mk hrec2
      clear hrec hrec2 hlt
      go_wp2_with fail
      have HBW := Aside0.mk (Below.refl wr.heap.size wr)
      go_loopw [9, 10, 11] (fun vb vf vi w2 => ∃ j : Nat, vb = .int .i64 (farN a0 l1 ch j).1 ∧ vf = .int .i64 (farN a0 l1 ch j).2 ∧ vi = .int .i64 j ∧ j ≤ l1.length ∧ Aside0 (Below wr.heap.size wr w2)) (fun _ _ vi _ => l1.length - (intOf vi).toNat)
      case atStart => exact ⟨0, rfl, rfl, rfl, Nat.zero_le _, HBW⟩
      case round =>
        clear HBW
        obtain ⟨j, rfl, rfl, rfl, hj, HBW⟩ := hrel
        by_cases hlt2 : j < l1.length
        · have d2 : decide ((j : Int) < (l1.length : Int)) = true := decide_eq_true (by omega)
          obtain ⟨ad1, Aj, cj, e1, ha1, hcj, hRj⟩ := rows_at HR.out j hlt2
          cases e1
          have HBWW := below_step HB.out HBW.out
          replace ha1 := (HBWW.cell (World.block_lt_of_cell? _ _ ha1)).trans ha1
          have hCc := (Kd.N_reads' (Kd.N_below HN.out HBW.out))
          have HC := Aside0.mk (HNR.out wr ac cc ch hCc.2.2 hCc.2.1 hcp.out (by have := hcl.out; omega) hin.out j hlt2 Aj cj (Kd.C_below hRj HBWW) hcj)
          have hst : farN a0 l1 ch (j + 1) = if (nearOf a0 ch (rowOf l1 j)).2 > (farN a0 l1 ch j).2 then (j, (nearOf a0 ch (rowOf l1 j)).2) else farN a0 l1 ch j := rfl
          have p1 : (0 : Int) ≤ (j : Int) := by omega
          have q1 : (j : Int) < (l1.length : Int) := by omega
          obtain ⟨fb, hfb⟩ : ∃ fb, farN a0 l1 ch j = fb := ⟨_, rfl⟩
          obtain ⟨nb, hnb⟩ : ∃ nb, nearOf a0 ch (rowOf l1 j) = nb := ⟨_, rfl⟩
          rw [hfb, hnb] at hst
          rw [hfb]
          rw [hnb] at HC
          generalize rowOf l1 j = rj at *
          obtain ⟨fb1, fb2⟩ := fb
          obtain ⟨nb1, nb2⟩ := nb
          clear hCc hfb hnb hcj hRj HBWW
          by_cases hgt : nb2 > fb2
          · rw [if_pos hgt] at hst
            have HST := Aside0.mk hst
            have d4 : decide (nb2 > fb2) = true := decide_eq_true hgt
            clear hst hgt
            go_wp2_with fail
            refine HC.out.mono ?_
            rintro e w3 ⟨rfl, hb⟩
            have HB3 := Aside0.mk (below_step HBW.out hb)
            clear hb HC HBW ha1
            go_wp2
            go_roundw
            case rel => exact ⟨j + 1, by rw [HST.out], by rw [HST.out], congrArg (Value.int .i64) (wrap_succ j (by have := HLM.out; omega)), by omega, ⟨below_alloc HB3.out _⟩⟩
            case measure =>
              rw [wrap_succ j (by have := HLM.out; omega)]
              show l1.length - ((j + 1 : Nat) : Int).toNat < l1.length - ((j : Nat) : Int).toNat
              rw [Int.toNat_natCast, Int.toNat_natCast]
              omega
          · rw [if_neg hgt] at hst
            have HST := Aside0.mk hst
            have d4 : decide (nb2 > fb2) = false := decide_eq_false hgt
            clear hst hgt
            go_wp2_with fail
            refine HC.out.mono ?_
            rintro e w3 ⟨rfl, hb⟩
            have HB3 := Aside0.mk (below_step HBW.out hb)
            clear hb HC HBW ha1
            go_wp2
            go_roundw
            case rel => exact ⟨j + 1, by rw [HST.out], by rw [HST.out], congrArg (Value.int .i64) (wrap_succ j (by have := HLM.out; omega)), by omega, ⟨below_alloc HB3.out _⟩⟩
            case measure =>
              rw [wrap_succ j (by have := HLM.out; omega)]
              show l1.length - ((j + 1 : Nat) : Int).toNat < l1.length - ((j : Nat) : Int).toNat
              rw [Int.toNat_natCast, Int.toNat_natCast]
              omega
        · obtain rfl : j = l1.length := by omega
          have d2 : decide ((l1.length : Int) < (l1.length : Int)) = false := decide_eq_false (by omega)
          have HO3 := Aside0.mk (Kd.R_below HO.out HBW.out)
          have HN3 := Aside0.mk (Kd.N_below HN.out HBW.out)
          have BK3 : Aside0 (wr.heap[rb]? = some (.cells #[.slice none 0 0, .int .i64 0] 36 (0, 0))) := ⟨blk_below BK.out HBW.out⟩
          have HB3 := Aside0.mk (below_step HB.out HBW.out)
          clear HO HN BK HB HBW
          have hfl := farN_lt a0 l1 ch HLP.out l1.length (Nat.le_refl _)
          obtain ⟨fb, hfb⟩ : ∃ fb, farN a0 l1 ch l1.length = fb := ⟨_, rfl⟩
          rw [hfb] at HREC hfl ⊢
          obtain ⟨fb1, fb2⟩ := fb
          clear hfb
          by_cases hz : fb2 = 0
          · subst hz
            have hrec2 := HREC.out
            rw [if_pos rfl] at hrec2
            have HREC2 := Aside0.mk hrec2
            clear hrec2 HREC
            have hz0 : wr.cell? ⟨rb, 0, none⟩ = some (.slice none 0 0) := (blk_cell BK3.out 0).trans rfl
            have hz1 : wr.cell? ⟨rb, 1, none⟩ = some (.int .i64 0) := (blk_cell BK3.out 1).trans rfl
            have hy0 := blk_frozen BK3.out 0
            have hy1 := blk_frozen BK3.out 1
            go_wp2
            (try simp only [Exit.inBlock, Exit.then])
            refine bodyPost_ret (results_cell_row rfl _ _ rb 36 #[.slice ao out.length co, .int .i64 0] (0, 0) _ rfl (by refine blk_put (cs := #[.slice ao out.length co, .int .i64 0]) ?_ 1 _ rfl; refine blk_put (cs := #[.slice none 0 0, .int .i64 0]) ?_ 0 _ rfl; exact BK3.out) Try.underlying36 rfl (by kernel_rfl)) rfl ?_
            exact ⟨_, rfl, by rw [← HREC2.out]; exact Kd.R_mono (Kd.R_far (p := ⟨rb, 1, none⟩) (Kd.R_far (p := ⟨rb, 0, none⟩) HO3.out (fun _ hk => hk.1) _) (fun _ hk => hk.1) _) (fun _ _ => trivial), below_set (below_set HB3.out GRB.out) GRB.out⟩
          · have d5 : (fb2 == 0) = false := by simpa using hz
            have hrec2 := HREC.out
            rw [if_neg hz] at hrec2
            have HREC2 := Aside0.mk hrec2
            clear hrec2 HREC hz
            obtain ⟨ad1, Aj, cj, e1, ha1, hcj, hRj⟩ := rows_at HR.out fb1 hfl
            cases e1
            have HFK := Aside0.mk (Kd.C_F Kd.heap_scalar hRj)
            have HA1 := Aside0.mk ha1
            have HCJ := Aside0.mk hcj
            have hin2 := rowOf_mem hfl
            have HIN := Aside0.mk hin2
            have p1 : (0 : Int) ≤ (fb1 : Int) := by omega
            have q1 : (fb1 : Int) < (l1.length : Int) := by omega
            generalize rowOf l1 fb1 = rj at *
            clear hRj ha1 hcj hfl hin2
            go_wp2_with (first | ((with_reducible refine gate_builtin (b := .append) (xs := #[.tmp 63, .tmp 65]) rfl ?_); at_builtin; refine Kd.R_append (Kd.int .i64) (w0 := w) w.heap.size rfl (.tmp 63) (.tmp 65) 23 3 (.int .i64 0) 8 rfl Try.underlying23 info3 rfl (by decide) (by omega) (.slice ao out.length co) out (fb1 : Int) [.int .i64 fb1] (fun k => k ≠ rb ∧ some k ≠ (Value.slice ac ch.length cc).ownBlock) (fun _ => False) rfl rfl ?aP (fun _ hk => hk.elim) ?aF ?aO ?aB ?aS ?aL ?_; (case aP => exact rfl); (case aF => exact (fun k hk => ⟨by have := blk_lt BK3.out; omega, fun he => by have := Kd.N_lt HN3.out k he.symm; omega⟩)); (case aO => exact HO3.out); (case aB => exact HB3.out); (case aS => exact HB3.out.size); (case aL => have := hf.out; omega); intro v10 w10 ho hb hg hat; obtain ⟨a10, c10, hv10⟩ := Kd.R_slice ho; subst hv10; have HO10 := Aside0.mk ho; have HN10 := Aside0.mk (Kd.N_after HN3.out hg hat); have BK10 := Aside0.mk (blk_grown BK3.out hg (fun he => (HO3.out.1 rb he.symm).1 rfl)); have HB10 := Aside0.mk hb; have ha10 := (hb.cell (World.block_lt_of_cell? _ _ HA1.out)).trans HA1.out; clear ho hb hg hat HO3 HN3 BK3 HB3) | ((with_reducible refine gate_builtin (b := .append) (xs := #[.tmp 67, .tmp 72]) rfl ?_); at_builtin; refine Kd.N_append (Kd.slice 3 (Kd.int .i64)) (w0 := w) w.heap.size rfl (.tmp 67) (.tmp 72) 22 23 (.slice none 0 0) 24 rfl Try.underlying22 info23 rfl (by decide) (by omega) (.slice ac ch.length cc) ch rj [.slice Aj rj.length cj] (fun k => k ≠ rb ∧ some k ≠ (Value.slice a10 (out ++ [(fb1 : Int)]).length c10).ownBlock) (fun k => k < w.heap.size) rfl rfl ?aP ?aK ?aF ?aO ?aB ?aS ?aL ?_; (case aP => exact Kd.FK_slice_mk HCJ.out (Kd.F_below HFK.out HB10.out)); (case aK => exact (fun k hk => ⟨⟨by have := GRB.out; omega, fun he => by have := Kd.R_base HO10.out k he.symm; omega⟩, fun he => by have := Kd.N_base HN10.out k he.symm; omega⟩)); (case aF => exact (fun k hk => ⟨by have := blk_lt BK10.out; omega, fun he => by have := Kd.R_lt HO10.out k he.symm; omega⟩)); (case aO => exact HN10.out); (case aB => exact HB10.out); (case aS => exact HB10.out.size); (case aL => have := hcl.out; omega); intro v11 w11 ho hb hg hat; obtain ⟨a11, c11, hv11⟩ := Kd.N_slice ho; subst hv11; have HN11 := Aside0.mk ho; have HO11 := Aside0.mk (Kd.R_after HO10.out hg hat); have BK11 := Aside0.mk (blk_grown BK10.out hg (fun he => (HN10.out.1 rb he.symm).1 rfl)); have HB11 := Aside0.mk hb; clear ho hb hg hat HO10 HN10 BK10 HB10 ha10))
            go_wp2
            go_roundw
            case rel => exact ⟨f, out ++ [(fb1 : Int)], ch ++ [rj], a10, a11, c10, c11, by simp, by simp, ⟨by have := hf.out; simp; omega⟩, ⟨by simp⟩, ⟨by have := hcl.out; simp; omega⟩, ⟨fun x hx => by
                  rcases List.mem_append.1 hx with h | h
                  · exact hin.out x h
                  · rw [List.mem_singleton.1 h]; exact HIN.out⟩, ⟨HREC2.out⟩, HO11, HN11, BK11, HB11⟩
            case measure => have := hf.out; simp [lenV]; omega
    · have d1 : decide ((out.length : Int) < a2) = false := decide_eq_false hlt
      have HREC2 : Aside0 (out = rchooseOf a0 l1 a2) := ⟨by
        have h := hrec.out
        cases f with
        | zero => exact h
        | succ f => rw [rchooseL, if_neg hlt] at h; exact h⟩
      clear hrec hlt
      have hz0 : wr.cell? ⟨rb, 0, none⟩ = some (.slice none 0 0) := (blk_cell BK.out 0).trans rfl
      have hz1 : wr.cell? ⟨rb, 1, none⟩ = some (.int .i64 0) := (blk_cell BK.out 1).trans rfl
      have hy0 := blk_frozen BK.out 0
      have hy1 := blk_frozen BK.out 1
      go_wp2
      (try simp only [Exit.inBlock, Exit.then])
      refine bodyPost_ret (results_cell_row rfl _ _ rb 36 #[.slice ao out.length co, .int .i64 0] (0, 0) _ rfl (by refine blk_put (cs := #[.slice ao out.length co, .int .i64 0]) ?_ 1 _ rfl; refine blk_put (cs := #[.slice none 0 0, .int .i64 0]) ?_ 0 _ rfl; exact BK.out) Try.underlying36 rfl (by kernel_rfl)) rfl ?_
      exact ⟨_, rfl, by rw [← HREC2.out]; exact Kd.R_mono (Kd.R_far (p := ⟨rb, 1, none⟩) (Kd.R_far (p := ⟨rb, 0, none⟩) HO.out (fun _ hk => hk.1) _) (fun _ hk => hk.1) _) (fun _ _ => trivial), below_set (below_set HB.out GRB.out) GRB.out⟩
theorem antiquaryref09_Choose.calls (a0 : Int) (A1 : Option Addr) (c1 : Nat) (l1 : List (List Int)) (a2 : Int) (r1 : List Int) (r2 : Int) (w : World) (hr1 : Kd.C (Kd.slice 3 (Kd.int .i64)) w A1 l1.length l1) (hc1 : l1.length ≤ c1) (h : antiquaryref09_Choose.f a0 l1 a2 = some (r1, r2)) :
    Calls Try.prog 15 #[.int .i64 a0, .slice A1 l1.length c1, .int .i64 a2] w fun e w' => ∃ v0_ : Value, e = .returned (.agg #[v0_, .int .i64 r2]) ∧ Kd.R (Kd.int .i64) 3 w' w.heap.size (fun _ => True) v0_ r1 ∧ Below w.heap.size w w' := by
  unfold antiquaryref09_Choose.f at h
  by_cases hs : pivot_few l1
  · rw [if_pos hs] at h
    by_cases hok : chooseOk a0 l1 a2
    · rw [if_pos hok] at h
      obtain ⟨rfl, rfl⟩ := Prod.mk.inj (Option.some.inj h)
      exact ref09_Choose_yes.calls a0 A1 c1 l1 a2 w hr1 hc1 hs hok
    · rw [if_neg hok] at h
      obtain ⟨rfl, rfl⟩ := Prod.mk.inj (Option.some.inj h)
      refine (ref09_Choose_no.calls a0 A1 c1 l1 a2 w hr1 hc1 hs hok).mono ?_
      rintro e w' ⟨rfl, hb⟩
      exact ⟨_, rfl, Kd.R_nil _ _ _ _ _, hb⟩
  · rw [if_neg hs] at h; cases h
def antiquaryref09_Pivots.f (k : Nat) (a0 : Int) (l1 : List (List Int)) : Option (Bool) := (antiquaryref09_Metric.f a0).bind fun t304 => (if t304 = true then ((antiquaryref09_Fit.f k l1).bind fun t305 => (if t305 = true then (some (decide ((l1.length : Int) ≤ 8))) else (some false))) else (some false))
set_option maxHeartbeats 8000000 in
set_option maxRecDepth 100000 in
theorem antiquaryref09_Pivots.calls (k : Nat) (a0 : Int) (A1 : Option Addr) (c1 : Nat) (l1 : List (List Int)) (r : Bool) (w : World) (hr1 : Kd.C (Kd.slice 3 (Kd.int .i64)) w A1 l1.length l1) (hc1 : l1.length ≤ c1) (h : antiquaryref09_Pivots.f k a0 l1 = some r) :
    Calls Try.prog 51 #[.int .i64 a0, .slice A1 l1.length c1] w fun e w' => e = .returned (.bool r) ∧ Drawn0 w w' := by
  have HR1 := Aside0.mk hr1
  have HC1 := Aside0.mk hc1
  clear hr1 hc1
  have H : ((antiquaryref09_Metric.f a0).bind fun t304 => (if t304 = true then ((antiquaryref09_Fit.f k l1).bind fun t305 => (if t305 = true then (some (decide ((l1.length : Int) ≤ 8))) else (some false))) else (some false))) = some r := h
  clear h
  replace H := Option.bind_eq_some_iff.mp H
  obtain ⟨t304, A30, H⟩ := H
  replace H : (if t304 = true then ((antiquaryref09_Fit.f k l1).bind fun t305 => (if t305 = true then (some (decide ((l1.length : Int) ≤ 8))) else (some false))) else (some false)) = some r := H
  have A3 := Aside0.mk A30
  clear A30
  by_cases c4 : t304 = true
  · subst c4
    have H1 : ((antiquaryref09_Fit.f k l1).bind fun t305 => (if t305 = true then (some (decide ((l1.length : Int) ≤ 8))) else (some false))) = some r := by rw [if_pos rfl] at H; exact H
    clear H
    have H := H1
    clear H1
    replace H := Option.bind_eq_some_iff.mp H
    obtain ⟨t305, A50, H⟩ := H
    replace H : (if t305 = true then (some (decide ((l1.length : Int) ≤ 8))) else (some false)) = some r := H
    have A5 := Aside0.mk A50
    clear A50
    by_cases c6 : t305 = true
    · subst c6
      have H1 : (some (decide ((l1.length : Int) ≤ 8))) = some r := by rw [if_pos rfl] at H; exact H
      clear H
      have H := H1
      clear H1
      obtain rfl := Option.some.inj H
      go_enter Try.func51, Try.ntmps51
      go_wp2_with (first | ((with_reducible refine gate_callee (f := 29) rfl ?_); refine goesL_ (some 6) rfl rfl Try.func29 (by kernel_rfl) rfl #[.int .i64 a0] rfl (by (try simp only [List.map_toArray, List.map_cons, List.map_nil]); first | done | rfl | (simp only [List.length_drop, List.length_take]; rfl)) ?_; (with_reducible refine (antiquaryref09_Metric.calls a0 true _ A3.out).mono ?_); rintro e w' ⟨rfl, ⟨nd, rfl⟩⟩; refine ⟨_, rfl, ?_⟩) | (go_at_call 30; (with_reducible refine (antiquaryref09_Fit.calls k _ _ l1 true _ ?side1 ?side2 A5.out).mono ?_); (case side1 => repeat (first | exact HR1.out | (with_reducible refine Kd.C_alloc ?_ _) | (with_reducible refine Kd.C_drewN ?_ _) | (with_reducible refine Kd.C_drew ?_))); (case side2 => exact HC1.out); rintro e w' ⟨rfl, ⟨nd, rfl⟩⟩))
      go_ret
      exact ⟨by first | rfl | (simp; done) | (simp [*]; done), by repeat (first | exact Drawn0.refl _ | apply Drawn0.step)⟩
    · replace c6 := Bool.eq_false_iff.mpr c6
      subst c6
      have H1 : (some false) = some r := by rw [if_neg (show ¬ (false = true) by decide)] at H; exact H
      clear H
      have H := H1
      clear H1
      obtain rfl := Option.some.inj H
      go_enter Try.func51, Try.ntmps51
      go_wp2_with (first | ((with_reducible refine gate_callee (f := 29) rfl ?_); refine goesL_ (some 6) rfl rfl Try.func29 (by kernel_rfl) rfl #[.int .i64 a0] rfl (by (try simp only [List.map_toArray, List.map_cons, List.map_nil]); first | done | rfl | (simp only [List.length_drop, List.length_take]; rfl)) ?_; (with_reducible refine (antiquaryref09_Metric.calls a0 true _ A3.out).mono ?_); rintro e w' ⟨rfl, ⟨nd, rfl⟩⟩; refine ⟨_, rfl, ?_⟩) | (go_at_call 30; (with_reducible refine (antiquaryref09_Fit.calls k _ _ l1 false _ ?side1 ?side2 A5.out).mono ?_); (case side1 => repeat (first | exact HR1.out | (with_reducible refine Kd.C_alloc ?_ _) | (with_reducible refine Kd.C_drewN ?_ _) | (with_reducible refine Kd.C_drew ?_))); (case side2 => exact HC1.out); rintro e w' ⟨rfl, ⟨nd, rfl⟩⟩))
      go_ret
      exact ⟨by first | rfl | (simp; done) | (simp [*]; done), by repeat (first | exact Drawn0.refl _ | apply Drawn0.step)⟩
  · replace c4 := Bool.eq_false_iff.mpr c4
    subst c4
    have H1 : (some false) = some r := by rw [if_neg (show ¬ (false = true) by decide)] at H; exact H
    clear H
    have H := H1
    clear H1
    obtain rfl := Option.some.inj H
    go_enter Try.func51, Try.ntmps51
    go_wp2_with (first | ((with_reducible refine gate_callee (f := 29) rfl ?_); refine goesL_ (some 6) rfl rfl Try.func29 (by kernel_rfl) rfl #[.int .i64 a0] rfl (by (try simp only [List.map_toArray, List.map_cons, List.map_nil]); first | done | rfl | (simp only [List.length_drop, List.length_take]; rfl)) ?_; (with_reducible refine (antiquaryref09_Metric.calls a0 false _ A3.out).mono ?_); rintro e w' ⟨rfl, ⟨nd, rfl⟩⟩; refine ⟨_, rfl, ?_⟩))
    go_ret
    exact ⟨by first | rfl | (simp; done) | (simp [*]; done), by repeat (first | exact Drawn0.refl _ | apply Drawn0.step)⟩
def antiquaryref09_Nearest.f (k : Nat) (a0 : Int) (l1 : List (List Int)) (l2 : List Int) : Option (Int × Int × Int) := (antiquaryref09_Pivots.f k a0 l1).bind fun t307 => (if t307 = true then (if 0 < (l1.length : Int) then ((antiquaryref04_Alike.f k (rd_L1 l1 0) l2).bind fun t309 => (if t309 = true then ((antiquaryref09_nearest.f k a0 l1 l2).bind fun bt310 => (some (bt310.1, bt310.2.1, bt310.2.2))) else (some (0, 0, 1)))) else (none)) else (some (0, 0, 1)))
set_option maxHeartbeats 8000000 in
set_option maxRecDepth 100000 in
theorem antiquaryref09_Nearest.calls (k : Nat) (a0 : Int) (A1 : Option Addr) (c1 : Nat) (l1 : List (List Int)) (A2 : Option Addr) (c2 : Nat) (l2 : List Int) (r1 : Int) (r2 : Int) (r3 : Int) (w : World) (hr1 : Kd.C (Kd.slice 3 (Kd.int .i64)) w A1 l1.length l1) (hc1 : l1.length ≤ c1) (hr2 : Kd.C (Kd.int .i64) w A2 l2.length l2) (hc2 : l2.length ≤ c2) (h : antiquaryref09_Nearest.f k a0 l1 l2 = some (r1, r2, r3)) :
    Calls Try.prog 16 #[.int .i64 a0, .slice A1 l1.length c1, .slice A2 l2.length c2] w fun e w' => e = .returned (.agg #[.int .i64 r1, .int .i64 r2, .int .i64 r3]) ∧ Below w.heap.size w w' := by
  have hu39 := Try.underlying39
  have HR1 := Aside0.mk hr1
  have HC1 := Aside0.mk hc1
  clear hr1 hc1
  have HR2 := Aside0.mk hr2
  have HC2 := Aside0.mk hc2
  clear hr2 hc2
  have HB := Aside0.mk (Below.refl w.heap.size w)
  have H : ((antiquaryref09_Pivots.f k a0 l1).bind fun t307 => (if t307 = true then (if 0 < (l1.length : Int) then ((antiquaryref04_Alike.f k (rd_L1 l1 0) l2).bind fun t309 => (if t309 = true then ((antiquaryref09_nearest.f k a0 l1 l2).bind fun bt310 => (some (bt310.1, bt310.2.1, bt310.2.2))) else (some (0, 0, 1)))) else (none)) else (some (0, 0, 1)))) = some (r1, r2, r3) := h
  clear h
  replace H := Option.bind_eq_some_iff.mp H
  obtain ⟨t307, A40, H⟩ := H
  replace H : (if t307 = true then (if 0 < (l1.length : Int) then ((antiquaryref04_Alike.f k (rd_L1 l1 0) l2).bind fun t309 => (if t309 = true then ((antiquaryref09_nearest.f k a0 l1 l2).bind fun bt310 => (some (bt310.1, bt310.2.1, bt310.2.2))) else (some (0, 0, 1)))) else (none)) else (some (0, 0, 1))) = some (r1, r2, r3) := H
  have A4 := Aside0.mk A40
  clear A40
  by_cases c5 : t307 = true
  · subst c5
    have H1 : (if 0 < (l1.length : Int) then ((antiquaryref04_Alike.f k (rd_L1 l1 0) l2).bind fun t309 => (if t309 = true then ((antiquaryref09_nearest.f k a0 l1 l2).bind fun bt310 => (some (bt310.1, bt310.2.1, bt310.2.2))) else (some (0, 0, 1)))) else (none)) = some (r1, r2, r3) := by rw [if_pos rfl] at H; exact H
    clear H
    have H := H1
    clear H1
    by_cases c6 : 0 < (l1.length : Int)
    · rw [if_pos c6] at H
      have c6b0 : decide (0 < (l1.length : Int)) = true := decide_eq_true c6
      have c6b1 : decide (0 < l1.length) = true := decide_eq_true (by omega)
      clear c6
      replace H := Option.bind_eq_some_iff.mp H
      obtain ⟨t309, A70, H⟩ := H
      replace H : (if t309 = true then ((antiquaryref09_nearest.f k a0 l1 l2).bind fun bt310 => (some (bt310.1, bt310.2.1, bt310.2.2))) else (some (0, 0, 1))) = some (r1, r2, r3) := H
      have A7 := Aside0.mk A70
      clear A70
      by_cases c8 : t309 = true
      · subst c8
        have H1 : ((antiquaryref09_nearest.f k a0 l1 l2).bind fun bt310 => (some (bt310.1, bt310.2.1, bt310.2.2))) = some (r1, r2, r3) := by rw [if_pos rfl] at H; exact H
        clear H
        have H := H1
        clear H1
        replace H := Option.bind_eq_some_iff.mp H
        obtain ⟨⟨t310, t311, t312⟩, A90, H⟩ := H
        replace H : (some (t310, t311, t312)) = some (r1, r2, r3) := H
        have A9 := Aside0.mk A90
        clear A90
        simp only [Option.some.injEq, Prod.mk.injEq] at H
        obtain ⟨rfl, rfl, rfl⟩ := H
        go_enter Try.func16, Try.ntmps16
        go_wp2_with (first | ((with_reducible refine gate_dst (N := 6) rfl ?_); refine box_event ?hg (N := 6) ?hd (cs := #[.int .i64 0, .int .i64 0, .int .i64 0]) (t := 39) ?hr ?_; (case hd => rfl); (case hg => rfl); (case hr => first | (go_simp; done) | (go_simp; rfl)); intro gb306 hg w10 hbox hb; have n0_ := Aside0.mk (below_step (by repeat (first | (with_reducible first | exact HB.out | apply below_alloc | apply pw_below_drewN | apply below_drew1) | exact HB.out)) hb); have n1_ := Aside0.mk (hbox); have n2_ := Aside0.mk ((by rw [hg]; exact (below_size (by repeat (first | (with_reducible first | exact HB.out | apply below_alloc | apply pw_below_drewN | apply below_drew1) | exact HB.out))) : w.heap.size ≤ gb306)); have n3_ := Aside0.mk ((by rw [hg]; exact (below_size (by repeat (first | (with_reducible first | exact HB.out | apply below_alloc | apply pw_below_drewN | apply below_drew1) | exact HB.out))) : w.heap.size ≤ gb306)); clear HB; have HB := n0_; have BK306 := n1_; have GW306 := n2_; have GE306 := n3_; clear n0_ n1_ n2_ n3_; clear hb hbox hg) | ((with_reducible refine gate_callee (f := 51) rfl ?_); refine goesL_ (some 9) rfl rfl Try.func51 (by kernel_rfl) rfl #[.int .i64 a0, .slice A1 l1.length c1] rfl (by (try simp only [List.map_toArray, List.map_cons, List.map_nil]); first | done | rfl | (simp only [List.length_drop, List.length_take]; rfl)) ?_; (with_reducible refine (antiquaryref09_Pivots.calls k a0 _ _ l1 true _ ?side1 ?side2 A4.out).mono ?_); (case side1 => repeat (first | exact (Kd.C_below HR1.out HB.out) | (with_reducible refine Kd.C_alloc ?_ _) | (with_reducible refine Kd.C_drewN ?_ _) | (with_reducible refine Kd.C_drew ?_))); (case side2 => exact HC1.out); rintro e w' ⟨rfl, ⟨nd, rfl⟩⟩; refine ⟨_, rfl, ?_⟩; (try (rw [drewN_self w10]; generalize hq_ : World.drewN w10 _ = w10; have n0_ : Aside0 (w10.heap[gb306]? = some (.cells #[.int .i64 0, .int .i64 0, .int .i64 0] 39 (0, 0))) := ⟨by rw [← hq_]; exact (by (with_reducible repeat (first | refine blk_drewN ?_ _ | refine blk_drew ?_ | refine blk_alloc ?_ _)); exact BK306.out)⟩; have n1_ : Aside0 (Below w.heap.size w w10) := ⟨by rw [← hq_]; exact (by repeat (first | (with_reducible first | exact HB.out | apply below_alloc | apply pw_below_drewN | apply below_drew1 | refine below_set ?_ GE306.out) | exact HB.out))⟩; clear BK306 HB hq_; have BK306 := n0_; have HB := n1_; clear n0_ n1_)); have p308 : 0 ≤ (0 : Int) := (by omega); have q308 : 0 < (l1.length : Int) := of_decide_eq_true (by first | (with_reducible assumption) | assumption); obtain ⟨ad308, A308_0, c308_0, e308, hx308_0, hl308_0, hi308_0⟩ := at_L1 HR1.out 0 p308 q308; cases e308; have qi308 : (0 < l1.length) = True := eq_true (by omega); (try rw [show ((0 : Int)).toNat = 0 from rfl] at hx308_0); (try rw [Addr.add_zero'] at hx308_0); replace hx308_0 := (HB.out.cell (World.block_lt_of_cell? w _ hx308_0)).trans hx308_0; have HR308_0 := Aside0.mk hi308_0; have HC308_0 := Aside0.mk hl308_0; clear hi308_0 hl308_0; replace p308 := eq_true p308; replace q308 := eq_true q308) | (go_at_call 52; (with_reducible refine (antiquaryref04_Alike.calls k _ _ (rd_L1 l1 0) _ _ l2 true _ ?side1 ?side2 ?side3 ?side4 A7.out).mono ?_); (case side1 => repeat (first | exact (Kd.C_below HR308_0.out HB.out) | (with_reducible refine Kd.C_alloc ?_ _) | (with_reducible refine Kd.C_drewN ?_ _) | (with_reducible refine Kd.C_drew ?_))); (case side2 => exact HC308_0.out); (case side3 => repeat (first | exact (Kd.C_below HR2.out HB.out) | (with_reducible refine Kd.C_alloc ?_ _) | (with_reducible refine Kd.C_drewN ?_ _) | (with_reducible refine Kd.C_drew ?_))); (case side4 => exact HC2.out); rintro e w' ⟨rfl, ⟨nd, rfl⟩⟩; (try (rw [drewN_self w10]; generalize hq_ : World.drewN w10 _ = w10; have n0_ : Aside0 (w10.heap[gb306]? = some (.cells #[.int .i64 0, .int .i64 0, .int .i64 0] 39 (0, 0))) := ⟨by rw [← hq_]; exact (by (with_reducible repeat (first | refine blk_drewN ?_ _ | refine blk_drew ?_ | refine blk_alloc ?_ _)); exact BK306.out)⟩; have n1_ : Aside0 (Below w.heap.size w w10) := ⟨by rw [← hq_]; exact (by repeat (first | (with_reducible first | exact HB.out | apply below_alloc | apply pw_below_drewN | apply below_drew1 | refine below_set ?_ GE306.out) | exact HB.out))⟩; clear BK306 HB hq_; have BK306 := n0_; have HB := n1_; clear n0_ n1_))) | ((with_reducible refine gate_callee (f := 50) rfl ?_); refine goesL_ (some 23) rfl rfl Try.func50 (by kernel_rfl) rfl #[.int .i64 a0, .slice (some ad308) l1.length c1, .slice A2 l2.length c2] rfl (by (try simp only [List.map_toArray, List.map_cons, List.map_nil]); first | done | rfl | (simp only [List.length_drop, List.length_take]; rfl)) ?_; (with_reducible refine (antiquaryref09_nearest.calls k a0 _ _ l1 _ _ l2 t310 t311 t312 _ ?side1 ?side2 ?side3 ?side4 A9.out).mono ?_); (case side1 => repeat (first | exact (Kd.C_below HR1.out HB.out) | (with_reducible refine Kd.C_alloc ?_ _) | (with_reducible refine Kd.C_drewN ?_ _) | (with_reducible refine Kd.C_drew ?_))); (case side2 => exact HC1.out); (case side3 => repeat (first | exact (Kd.C_below HR2.out HB.out) | (with_reducible refine Kd.C_alloc ?_ _) | (with_reducible refine Kd.C_drewN ?_ _) | (with_reducible refine Kd.C_drew ?_))); (case side4 => exact HC2.out); rintro e w11 ⟨rfl, hb⟩; refine ⟨_, rfl, ?_⟩; have n0_ := Aside0.mk (blk_below (g := gb306) (o := .cells #[.int .i64 0, .int .i64 0, .int .i64 0] 39 (0, 0)) (by (with_reducible repeat (first | refine blk_drewN ?_ _ | refine blk_drew ?_ | refine blk_alloc ?_ _)); exact BK306.out) hb); have n1_ := Aside0.mk (below_step (by repeat (first | (with_reducible first | exact HB.out | apply below_alloc | apply pw_below_drewN | apply below_drew1 | refine below_set ?_ GE306.out) | exact HB.out)) hb); clear BK306; clear HB; have BK306 := n0_; have HB := n1_; clear n0_ n1_; (try clear hb); (try clear hb2); (try clear hk); (try clear hi); have hcz12_0 : w11.cell? ⟨gb306, 0, none⟩ = some (.int .i64 0) := (blk_cell BK306.out 0).trans rfl; have hcz12_1 : w11.cell? ⟨gb306, 1, none⟩ = some (.int .i64 0) := (blk_cell BK306.out 1).trans rfl; have hcz12_2 : w11.cell? ⟨gb306, 2, none⟩ = some (.int .i64 0) := (blk_cell BK306.out 2).trans rfl; have hfz12_0 := blk_frozen BK306.out 0; have hfz12_1 := blk_frozen BK306.out 1; have hfz12_2 := blk_frozen BK306.out 2))
        refine bodyPost_ret (results_cell_row rfl _ _ gb306 39 #[.int .i64 t310, .int .i64 t311, .int .i64 t312] (0, 0) _ rfl (by (with_reducible repeat (first | refine blk_drewN ?_ _ | refine blk_drew ?_ | refine blk_alloc ?_ _)); refine blk_put (cs := #[.int .i64 t310, .int .i64 t311, .int .i64 0]) ?_ 2 _ rfl; (with_reducible repeat (first | refine blk_drewN ?_ _ | refine blk_drew ?_ | refine blk_alloc ?_ _)); refine blk_put (cs := #[.int .i64 t310, .int .i64 0, .int .i64 0]) ?_ 1 _ rfl; (with_reducible repeat (first | refine blk_drewN ?_ _ | refine blk_drew ?_ | refine blk_alloc ?_ _)); refine blk_put (cs := #[.int .i64 0, .int .i64 0, .int .i64 0]) ?_ 0 _ rfl; (with_reducible repeat (first | refine blk_drewN ?_ _ | refine blk_drew ?_ | refine blk_alloc ?_ _)); exact BK306.out) Try.underlying39 rfl (by kernel_rfl)) rfl ?_
        exact ⟨by first | rfl | (simp [errW_none, errW_some] <;> rfl) | (simp [*, errW_none, errW_some] <;> rfl), by repeat (first | (with_reducible first | exact HB.out | apply below_alloc | apply pw_below_drewN | apply below_drew1 | refine below_set ?_ GE306.out) | exact HB.out)⟩
      · replace c8 := Bool.eq_false_iff.mpr c8
        subst c8
        have H1 : (some (0, 0, 1)) = some (r1, r2, r3) := by rw [if_neg (show ¬ (false = true) by decide)] at H; exact H
        clear H
        have H := H1
        clear H1
        simp only [Option.some.injEq, Prod.mk.injEq] at H
        obtain ⟨rfl, rfl, rfl⟩ := H
        go_enter Try.func16, Try.ntmps16
        go_wp2_with (first | ((with_reducible refine gate_dst (N := 6) rfl ?_); refine box_event ?hg (N := 6) ?hd (cs := #[.int .i64 0, .int .i64 0, .int .i64 0]) (t := 39) ?hr ?_; (case hd => rfl); (case hg => rfl); (case hr => first | (go_simp; done) | (go_simp; rfl)); intro gb306 hg w13 hbox hb; have n0_ := Aside0.mk (below_step (by repeat (first | (with_reducible first | exact HB.out | apply below_alloc | apply pw_below_drewN | apply below_drew1) | exact HB.out)) hb); have n1_ := Aside0.mk (hbox); have n2_ := Aside0.mk ((by rw [hg]; exact (below_size (by repeat (first | (with_reducible first | exact HB.out | apply below_alloc | apply pw_below_drewN | apply below_drew1) | exact HB.out))) : w.heap.size ≤ gb306)); have n3_ := Aside0.mk ((by rw [hg]; exact (below_size (by repeat (first | (with_reducible first | exact HB.out | apply below_alloc | apply pw_below_drewN | apply below_drew1) | exact HB.out))) : w.heap.size ≤ gb306)); clear HB; have HB := n0_; have BK306 := n1_; have GW306 := n2_; have GE306 := n3_; clear n0_ n1_ n2_ n3_; clear hb hbox hg) | ((with_reducible refine gate_callee (f := 51) rfl ?_); refine goesL_ (some 9) rfl rfl Try.func51 (by kernel_rfl) rfl #[.int .i64 a0, .slice A1 l1.length c1] rfl (by (try simp only [List.map_toArray, List.map_cons, List.map_nil]); first | done | rfl | (simp only [List.length_drop, List.length_take]; rfl)) ?_; (with_reducible refine (antiquaryref09_Pivots.calls k a0 _ _ l1 true _ ?side1 ?side2 A4.out).mono ?_); (case side1 => repeat (first | exact (Kd.C_below HR1.out HB.out) | (with_reducible refine Kd.C_alloc ?_ _) | (with_reducible refine Kd.C_drewN ?_ _) | (with_reducible refine Kd.C_drew ?_))); (case side2 => exact HC1.out); rintro e w' ⟨rfl, ⟨nd, rfl⟩⟩; refine ⟨_, rfl, ?_⟩; (try (rw [drewN_self w13]; generalize hq_ : World.drewN w13 _ = w13; have n0_ : Aside0 (w13.heap[gb306]? = some (.cells #[.int .i64 0, .int .i64 0, .int .i64 0] 39 (0, 0))) := ⟨by rw [← hq_]; exact (by (with_reducible repeat (first | refine blk_drewN ?_ _ | refine blk_drew ?_ | refine blk_alloc ?_ _)); exact BK306.out)⟩; have n1_ : Aside0 (Below w.heap.size w w13) := ⟨by rw [← hq_]; exact (by repeat (first | (with_reducible first | exact HB.out | apply below_alloc | apply pw_below_drewN | apply below_drew1 | refine below_set ?_ GE306.out) | exact HB.out))⟩; clear BK306 HB hq_; have BK306 := n0_; have HB := n1_; clear n0_ n1_)); have p308 : 0 ≤ (0 : Int) := (by omega); have q308 : 0 < (l1.length : Int) := of_decide_eq_true (by first | (with_reducible assumption) | assumption); obtain ⟨ad308, A308_0, c308_0, e308, hx308_0, hl308_0, hi308_0⟩ := at_L1 HR1.out 0 p308 q308; cases e308; have qi308 : (0 < l1.length) = True := eq_true (by omega); (try rw [show ((0 : Int)).toNat = 0 from rfl] at hx308_0); (try rw [Addr.add_zero'] at hx308_0); replace hx308_0 := (HB.out.cell (World.block_lt_of_cell? w _ hx308_0)).trans hx308_0; have HR308_0 := Aside0.mk hi308_0; have HC308_0 := Aside0.mk hl308_0; clear hi308_0 hl308_0; replace p308 := eq_true p308; replace q308 := eq_true q308) | (go_at_call 52; (with_reducible refine (antiquaryref04_Alike.calls k _ _ (rd_L1 l1 0) _ _ l2 false _ ?side1 ?side2 ?side3 ?side4 A7.out).mono ?_); (case side1 => repeat (first | exact (Kd.C_below HR308_0.out HB.out) | (with_reducible refine Kd.C_alloc ?_ _) | (with_reducible refine Kd.C_drewN ?_ _) | (with_reducible refine Kd.C_drew ?_))); (case side2 => exact HC308_0.out); (case side3 => repeat (first | exact (Kd.C_below HR2.out HB.out) | (with_reducible refine Kd.C_alloc ?_ _) | (with_reducible refine Kd.C_drewN ?_ _) | (with_reducible refine Kd.C_drew ?_))); (case side4 => exact HC2.out); rintro e w' ⟨rfl, ⟨nd, rfl⟩⟩; (try (rw [drewN_self w13]; generalize hq_ : World.drewN w13 _ = w13; have n0_ : Aside0 (w13.heap[gb306]? = some (.cells #[.int .i64 0, .int .i64 0, .int .i64 0] 39 (0, 0))) := ⟨by rw [← hq_]; exact (by (with_reducible repeat (first | refine blk_drewN ?_ _ | refine blk_drew ?_ | refine blk_alloc ?_ _)); exact BK306.out)⟩; have n1_ : Aside0 (Below w.heap.size w w13) := ⟨by rw [← hq_]; exact (by repeat (first | (with_reducible first | exact HB.out | apply below_alloc | apply pw_below_drewN | apply below_drew1 | refine below_set ?_ GE306.out) | exact HB.out))⟩; clear BK306 HB hq_; have BK306 := n0_; have HB := n1_; clear n0_ n1_)); have hcz14_0 : w13.cell? ⟨gb306, 0, none⟩ = some (.int .i64 0) := (blk_cell BK306.out 0).trans rfl; have hcz14_1 : w13.cell? ⟨gb306, 1, none⟩ = some (.int .i64 0) := (blk_cell BK306.out 1).trans rfl; have hcz14_2 : w13.cell? ⟨gb306, 2, none⟩ = some (.int .i64 0) := (blk_cell BK306.out 2).trans rfl; have hfz14_0 := blk_frozen BK306.out 0; have hfz14_1 := blk_frozen BK306.out 1; have hfz14_2 := blk_frozen BK306.out 2))
        refine bodyPost_ret (results_cell_row rfl _ _ gb306 39 #[.int .i64 0, .int .i64 0, .int .i64 1] (0, 0) _ rfl (by (with_reducible repeat (first | refine blk_drewN ?_ _ | refine blk_drew ?_ | refine blk_alloc ?_ _)); refine blk_put (cs := #[.int .i64 0, .int .i64 0, .int .i64 0]) ?_ 2 _ rfl; (with_reducible repeat (first | refine blk_drewN ?_ _ | refine blk_drew ?_ | refine blk_alloc ?_ _)); refine blk_put (cs := #[.int .i64 0, .int .i64 0, .int .i64 0]) ?_ 1 _ rfl; (with_reducible repeat (first | refine blk_drewN ?_ _ | refine blk_drew ?_ | refine blk_alloc ?_ _)); refine blk_put (cs := #[.int .i64 0, .int .i64 0, .int .i64 0]) ?_ 0 _ rfl; (with_reducible repeat (first | refine blk_drewN ?_ _ | refine blk_drew ?_ | refine blk_alloc ?_ _)); exact BK306.out) Try.underlying39 rfl (by kernel_rfl)) rfl ?_
        exact ⟨by first | rfl | (simp [errW_none, errW_some] <;> rfl) | (simp [*, errW_none, errW_some] <;> rfl), by repeat (first | (with_reducible first | exact HB.out | apply below_alloc | apply pw_below_drewN | apply below_drew1 | refine below_set ?_ GE306.out) | exact HB.out)⟩
    · rw [if_neg c6] at H
      exact absurd H (by simp)
  · replace c5 := Bool.eq_false_iff.mpr c5
    subst c5
    have H1 : (some (0, 0, 1)) = some (r1, r2, r3) := by rw [if_neg (show ¬ (false = true) by decide)] at H; exact H
    clear H
    have H := H1
    clear H1
    simp only [Option.some.injEq, Prod.mk.injEq] at H
    obtain ⟨rfl, rfl, rfl⟩ := H
    go_enter Try.func16, Try.ntmps16
    go_wp2_with (first | ((with_reducible refine gate_dst (N := 6) rfl ?_); refine box_event ?hg (N := 6) ?hd (cs := #[.int .i64 0, .int .i64 0, .int .i64 0]) (t := 39) ?hr ?_; (case hd => rfl); (case hg => rfl); (case hr => first | (go_simp; done) | (go_simp; rfl)); intro gb306 hg w15 hbox hb; have n0_ := Aside0.mk (below_step (by repeat (first | (with_reducible first | exact HB.out | apply below_alloc | apply pw_below_drewN | apply below_drew1) | exact HB.out)) hb); have n1_ := Aside0.mk (hbox); have n2_ := Aside0.mk ((by rw [hg]; exact (below_size (by repeat (first | (with_reducible first | exact HB.out | apply below_alloc | apply pw_below_drewN | apply below_drew1) | exact HB.out))) : w.heap.size ≤ gb306)); have n3_ := Aside0.mk ((by rw [hg]; exact (below_size (by repeat (first | (with_reducible first | exact HB.out | apply below_alloc | apply pw_below_drewN | apply below_drew1) | exact HB.out))) : w.heap.size ≤ gb306)); clear HB; have HB := n0_; have BK306 := n1_; have GW306 := n2_; have GE306 := n3_; clear n0_ n1_ n2_ n3_; clear hb hbox hg) | ((with_reducible refine gate_callee (f := 51) rfl ?_); refine goesL_ (some 9) rfl rfl Try.func51 (by kernel_rfl) rfl #[.int .i64 a0, .slice A1 l1.length c1] rfl (by (try simp only [List.map_toArray, List.map_cons, List.map_nil]); first | done | rfl | (simp only [List.length_drop, List.length_take]; rfl)) ?_; (with_reducible refine (antiquaryref09_Pivots.calls k a0 _ _ l1 false _ ?side1 ?side2 A4.out).mono ?_); (case side1 => repeat (first | exact (Kd.C_below HR1.out HB.out) | (with_reducible refine Kd.C_alloc ?_ _) | (with_reducible refine Kd.C_drewN ?_ _) | (with_reducible refine Kd.C_drew ?_))); (case side2 => exact HC1.out); rintro e w' ⟨rfl, ⟨nd, rfl⟩⟩; refine ⟨_, rfl, ?_⟩; (try (rw [drewN_self w15]; generalize hq_ : World.drewN w15 _ = w15; have n0_ : Aside0 (w15.heap[gb306]? = some (.cells #[.int .i64 0, .int .i64 0, .int .i64 0] 39 (0, 0))) := ⟨by rw [← hq_]; exact (by (with_reducible repeat (first | refine blk_drewN ?_ _ | refine blk_drew ?_ | refine blk_alloc ?_ _)); exact BK306.out)⟩; have n1_ : Aside0 (Below w.heap.size w w15) := ⟨by rw [← hq_]; exact (by repeat (first | (with_reducible first | exact HB.out | apply below_alloc | apply pw_below_drewN | apply below_drew1 | refine below_set ?_ GE306.out) | exact HB.out))⟩; clear BK306 HB hq_; have BK306 := n0_; have HB := n1_; clear n0_ n1_)); have hcz16_0 : w15.cell? ⟨gb306, 0, none⟩ = some (.int .i64 0) := (blk_cell BK306.out 0).trans rfl; have hcz16_1 : w15.cell? ⟨gb306, 1, none⟩ = some (.int .i64 0) := (blk_cell BK306.out 1).trans rfl; have hcz16_2 : w15.cell? ⟨gb306, 2, none⟩ = some (.int .i64 0) := (blk_cell BK306.out 2).trans rfl; have hfz16_0 := blk_frozen BK306.out 0; have hfz16_1 := blk_frozen BK306.out 1; have hfz16_2 := blk_frozen BK306.out 2))
    refine bodyPost_ret (results_cell_row rfl _ _ gb306 39 #[.int .i64 0, .int .i64 0, .int .i64 1] (0, 0) _ rfl (by (with_reducible repeat (first | refine blk_drewN ?_ _ | refine blk_drew ?_ | refine blk_alloc ?_ _)); refine blk_put (cs := #[.int .i64 0, .int .i64 0, .int .i64 0]) ?_ 2 _ rfl; (with_reducible repeat (first | refine blk_drewN ?_ _ | refine blk_drew ?_ | refine blk_alloc ?_ _)); refine blk_put (cs := #[.int .i64 0, .int .i64 0, .int .i64 0]) ?_ 1 _ rfl; (with_reducible repeat (first | refine blk_drewN ?_ _ | refine blk_drew ?_ | refine blk_alloc ?_ _)); refine blk_put (cs := #[.int .i64 0, .int .i64 0, .int .i64 0]) ?_ 0 _ rfl; (with_reducible repeat (first | refine blk_drewN ?_ _ | refine blk_drew ?_ | refine blk_alloc ?_ _)); exact BK306.out) Try.underlying39 rfl (by kernel_rfl)) rfl ?_
    exact ⟨by first | rfl | (simp [errW_none, errW_some] <;> rfl) | (simp [*, errW_none, errW_some] <;> rfl), by repeat (first | (with_reducible first | exact HB.out | apply below_alloc | apply pw_below_drewN | apply below_drew1 | refine below_set ?_ GE306.out) | exact HB.out)⟩
def antiquaryref09_Both.f (k : Nat) (a0 : Int) (l1 : List (List Int)) (l2 : List (List Int)) : Option (Bool) := (antiquaryref09_Pivots.f k a0 l1).bind fun t313 => (if t313 = true then ((antiquaryref09_Fit.f k l2).bind fun t314 => (if t314 = true then (if 0 < (l2.length : Int) then (if 0 < (l1.length : Int) then (some (((rd_L1 l2 0).length : Int) == ((rd_L1 l1 0).length : Int))) else (none)) else (none)) else (some false))) else (some false))
set_option maxHeartbeats 8000000 in
set_option maxRecDepth 100000 in
theorem antiquaryref09_Both.calls (k : Nat) (a0 : Int) (A1 : Option Addr) (c1 : Nat) (l1 : List (List Int)) (A2 : Option Addr) (c2 : Nat) (l2 : List (List Int)) (r : Bool) (w : World) (hr1 : Kd.C (Kd.slice 3 (Kd.int .i64)) w A1 l1.length l1) (hc1 : l1.length ≤ c1) (hr2 : Kd.C (Kd.slice 3 (Kd.int .i64)) w A2 l2.length l2) (hc2 : l2.length ≤ c2) (h : antiquaryref09_Both.f k a0 l1 l2 = some r) :
    Calls Try.prog 21 #[.int .i64 a0, .slice A1 l1.length c1, .slice A2 l2.length c2] w fun e w' => e = .returned (.bool r) ∧ Drawn0 w w' := by
  have HR1 := Aside0.mk hr1
  have HC1 := Aside0.mk hc1
  clear hr1 hc1
  have HR2 := Aside0.mk hr2
  have HC2 := Aside0.mk hc2
  clear hr2 hc2
  have H : ((antiquaryref09_Pivots.f k a0 l1).bind fun t313 => (if t313 = true then ((antiquaryref09_Fit.f k l2).bind fun t314 => (if t314 = true then (if 0 < (l2.length : Int) then (if 0 < (l1.length : Int) then (some (((rd_L1 l2 0).length : Int) == ((rd_L1 l1 0).length : Int))) else (none)) else (none)) else (some false))) else (some false))) = some r := h
  clear h
  replace H := Option.bind_eq_some_iff.mp H
  obtain ⟨t313, A40, H⟩ := H
  replace H : (if t313 = true then ((antiquaryref09_Fit.f k l2).bind fun t314 => (if t314 = true then (if 0 < (l2.length : Int) then (if 0 < (l1.length : Int) then (some (((rd_L1 l2 0).length : Int) == ((rd_L1 l1 0).length : Int))) else (none)) else (none)) else (some false))) else (some false)) = some r := H
  have A4 := Aside0.mk A40
  clear A40
  by_cases c5 : t313 = true
  · subst c5
    have H1 : ((antiquaryref09_Fit.f k l2).bind fun t314 => (if t314 = true then (if 0 < (l2.length : Int) then (if 0 < (l1.length : Int) then (some (((rd_L1 l2 0).length : Int) == ((rd_L1 l1 0).length : Int))) else (none)) else (none)) else (some false))) = some r := by rw [if_pos rfl] at H; exact H
    clear H
    have H := H1
    clear H1
    replace H := Option.bind_eq_some_iff.mp H
    obtain ⟨t314, A60, H⟩ := H
    replace H : (if t314 = true then (if 0 < (l2.length : Int) then (if 0 < (l1.length : Int) then (some (((rd_L1 l2 0).length : Int) == ((rd_L1 l1 0).length : Int))) else (none)) else (none)) else (some false)) = some r := H
    have A6 := Aside0.mk A60
    clear A60
    by_cases c7 : t314 = true
    · subst c7
      have H1 : (if 0 < (l2.length : Int) then (if 0 < (l1.length : Int) then (some (((rd_L1 l2 0).length : Int) == ((rd_L1 l1 0).length : Int))) else (none)) else (none)) = some r := by rw [if_pos rfl] at H; exact H
      clear H
      have H := H1
      clear H1
      by_cases c8 : 0 < (l2.length : Int)
      · rw [if_pos c8] at H
        have c8b0 : decide (0 < (l2.length : Int)) = true := decide_eq_true c8
        have c8b1 : decide (0 < l2.length) = true := decide_eq_true (by omega)
        clear c8
        by_cases c9 : 0 < (l1.length : Int)
        · rw [if_pos c9] at H
          have c9b0 : decide (0 < (l1.length : Int)) = true := decide_eq_true c9
          have c9b1 : decide (0 < l1.length) = true := decide_eq_true (by omega)
          clear c9
          obtain rfl := Option.some.inj H
          go_enter Try.func21, Try.ntmps21
          go_wp2_with (first | (go_at_call 51; (with_reducible refine (antiquaryref09_Pivots.calls k a0 _ _ l1 true _ ?side1 ?side2 A4.out).mono ?_); (case side1 => repeat (first | exact HR1.out | (with_reducible refine Kd.C_alloc ?_ _) | (with_reducible refine Kd.C_drewN ?_ _) | (with_reducible refine Kd.C_drew ?_))); (case side2 => exact HC1.out); rintro e w' ⟨rfl, ⟨nd, rfl⟩⟩; (try first | exact ⟨rfl, _, World.drewN_drewN _ _ _⟩ | exact ⟨rfl, _, Eq.trans (World.drewN_drewN _ _ _) (congrArg (World.drewN _) (Nat.add_assoc _ _ _))⟩)) | (go_at_call 30; (with_reducible refine (antiquaryref09_Fit.calls k _ _ l2 true _ ?side1 ?side2 A6.out).mono ?_); (case side1 => repeat (first | exact HR2.out | (with_reducible refine Kd.C_alloc ?_ _) | (with_reducible refine Kd.C_drewN ?_ _) | (with_reducible refine Kd.C_drew ?_))); (case side2 => exact HC2.out); rintro e w' ⟨rfl, ⟨nd, rfl⟩⟩; (try first | exact ⟨rfl, _, World.drewN_drewN _ _ _⟩ | exact ⟨rfl, _, Eq.trans (World.drewN_drewN _ _ _) (congrArg (World.drewN _) (Nat.add_assoc _ _ _))⟩); have p315 : 0 ≤ (0 : Int) := (by omega); have q315 : 0 < (l2.length : Int) := of_decide_eq_true (by first | (with_reducible assumption) | assumption); obtain ⟨ad315, A315_0, c315_0, e315, hx315_0, hl315_0, hi315_0⟩ := at_L1 HR2.out 0 p315 q315; cases e315; have qi315 : (0 < l2.length) = True := eq_true (by omega); (try rw [show ((0 : Int)).toNat = 0 from rfl] at hx315_0); (try rw [Addr.add_zero'] at hx315_0); have HR315_0 := Aside0.mk hi315_0; have HC315_0 := Aside0.mk hl315_0; clear hi315_0 hl315_0; replace p315 := eq_true p315; replace q315 := eq_true q315; have p316 : 0 ≤ (0 : Int) := (by omega); have q316 : 0 < (l1.length : Int) := of_decide_eq_true (by first | (with_reducible assumption) | assumption); obtain ⟨ad316, A316_0, c316_0, e316, hx316_0, hl316_0, hi316_0⟩ := at_L1 HR1.out 0 p316 q316; cases e316; have qi316 : (0 < l1.length) = True := eq_true (by omega); (try rw [show ((0 : Int)).toNat = 0 from rfl] at hx316_0); (try rw [Addr.add_zero'] at hx316_0); have HR316_0 := Aside0.mk hi316_0; have HC316_0 := Aside0.mk hl316_0; clear hi316_0 hl316_0; replace p316 := eq_true p316; replace q316 := eq_true q316))
          repeat (go_quiet (first | (go_at_call 51; (with_reducible refine (antiquaryref09_Pivots.calls k a0 _ _ l1 true _ ?side1 ?side2 A4.out).mono ?_); (case side1 => repeat (first | exact HR1.out | (with_reducible refine Kd.C_alloc ?_ _) | (with_reducible refine Kd.C_drewN ?_ _) | (with_reducible refine Kd.C_drew ?_))); (case side2 => exact HC1.out); rintro e w' ⟨rfl, ⟨nd, rfl⟩⟩; (try first | exact ⟨rfl, _, World.drewN_drewN _ _ _⟩ | exact ⟨rfl, _, Eq.trans (World.drewN_drewN _ _ _) (congrArg (World.drewN _) (Nat.add_assoc _ _ _))⟩)) | (go_at_call 30; (with_reducible refine (antiquaryref09_Fit.calls k _ _ l2 true _ ?side1 ?side2 A6.out).mono ?_); (case side1 => repeat (first | exact HR2.out | (with_reducible refine Kd.C_alloc ?_ _) | (with_reducible refine Kd.C_drewN ?_ _) | (with_reducible refine Kd.C_drew ?_))); (case side2 => exact HC2.out); rintro e w' ⟨rfl, ⟨nd, rfl⟩⟩; (try first | exact ⟨rfl, _, World.drewN_drewN _ _ _⟩ | exact ⟨rfl, _, Eq.trans (World.drewN_drewN _ _ _) (congrArg (World.drewN _) (Nat.add_assoc _ _ _))⟩); have p315 : 0 ≤ (0 : Int) := (by omega); have q315 : 0 < (l2.length : Int) := of_decide_eq_true (by first | (with_reducible assumption) | assumption); obtain ⟨ad315, A315_0, c315_0, e315, hx315_0, hl315_0, hi315_0⟩ := at_L1 HR2.out 0 p315 q315; cases e315; have qi315 : (0 < l2.length) = True := eq_true (by omega); (try rw [show ((0 : Int)).toNat = 0 from rfl] at hx315_0); (try rw [Addr.add_zero'] at hx315_0); have HR315_0 := Aside0.mk hi315_0; have HC315_0 := Aside0.mk hl315_0; clear hi315_0 hl315_0; replace p315 := eq_true p315; replace q315 := eq_true q315; have p316 : 0 ≤ (0 : Int) := (by omega); have q316 : 0 < (l1.length : Int) := of_decide_eq_true (by first | (with_reducible assumption) | assumption); obtain ⟨ad316, A316_0, c316_0, e316, hx316_0, hl316_0, hi316_0⟩ := at_L1 HR1.out 0 p316 q316; cases e316; have qi316 : (0 < l1.length) = True := eq_true (by omega); (try rw [show ((0 : Int)).toNat = 0 from rfl] at hx316_0); (try rw [Addr.add_zero'] at hx316_0); have HR316_0 := Aside0.mk hi316_0; have HC316_0 := Aside0.mk hl316_0; clear hi316_0 hl316_0; replace p316 := eq_true p316; replace q316 := eq_true q316)); try go_wp2_with (first | (go_at_call 51; (with_reducible refine (antiquaryref09_Pivots.calls k a0 _ _ l1 true _ ?side1 ?side2 A4.out).mono ?_); (case side1 => repeat (first | exact HR1.out | (with_reducible refine Kd.C_alloc ?_ _) | (with_reducible refine Kd.C_drewN ?_ _) | (with_reducible refine Kd.C_drew ?_))); (case side2 => exact HC1.out); rintro e w' ⟨rfl, ⟨nd, rfl⟩⟩; (try first | exact ⟨rfl, _, World.drewN_drewN _ _ _⟩ | exact ⟨rfl, _, Eq.trans (World.drewN_drewN _ _ _) (congrArg (World.drewN _) (Nat.add_assoc _ _ _))⟩)) | (go_at_call 30; (with_reducible refine (antiquaryref09_Fit.calls k _ _ l2 true _ ?side1 ?side2 A6.out).mono ?_); (case side1 => repeat (first | exact HR2.out | (with_reducible refine Kd.C_alloc ?_ _) | (with_reducible refine Kd.C_drewN ?_ _) | (with_reducible refine Kd.C_drew ?_))); (case side2 => exact HC2.out); rintro e w' ⟨rfl, ⟨nd, rfl⟩⟩; (try first | exact ⟨rfl, _, World.drewN_drewN _ _ _⟩ | exact ⟨rfl, _, Eq.trans (World.drewN_drewN _ _ _) (congrArg (World.drewN _) (Nat.add_assoc _ _ _))⟩); have p315 : 0 ≤ (0 : Int) := (by omega); have q315 : 0 < (l2.length : Int) := of_decide_eq_true (by first | (with_reducible assumption) | assumption); obtain ⟨ad315, A315_0, c315_0, e315, hx315_0, hl315_0, hi315_0⟩ := at_L1 HR2.out 0 p315 q315; cases e315; have qi315 : (0 < l2.length) = True := eq_true (by omega); (try rw [show ((0 : Int)).toNat = 0 from rfl] at hx315_0); (try rw [Addr.add_zero'] at hx315_0); have HR315_0 := Aside0.mk hi315_0; have HC315_0 := Aside0.mk hl315_0; clear hi315_0 hl315_0; replace p315 := eq_true p315; replace q315 := eq_true q315; have p316 : 0 ≤ (0 : Int) := (by omega); have q316 : 0 < (l1.length : Int) := of_decide_eq_true (by first | (with_reducible assumption) | assumption); obtain ⟨ad316, A316_0, c316_0, e316, hx316_0, hl316_0, hi316_0⟩ := at_L1 HR1.out 0 p316 q316; cases e316; have qi316 : (0 < l1.length) = True := eq_true (by omega); (try rw [show ((0 : Int)).toNat = 0 from rfl] at hx316_0); (try rw [Addr.add_zero'] at hx316_0); have HR316_0 := Aside0.mk hi316_0; have HC316_0 := Aside0.mk hl316_0; clear hi316_0 hl316_0; replace p316 := eq_true p316; replace q316 := eq_true q316)))
          go_ret
          exact ⟨by first | rfl | (simp; done) | (simp [*]; done), by repeat (first | exact Drawn0.refl _ | apply Drawn0.step)⟩
        · rw [if_neg c9] at H
          exact absurd H (by simp)
      · rw [if_neg c8] at H
        exact absurd H (by simp)
    · replace c7 := Bool.eq_false_iff.mpr c7
      subst c7
      have H1 : (some false) = some r := by rw [if_neg (show ¬ (false = true) by decide)] at H; exact H
      clear H
      have H := H1
      clear H1
      obtain rfl := Option.some.inj H
      go_enter Try.func21, Try.ntmps21
      go_wp2_with (first | (go_at_call 51; (with_reducible refine (antiquaryref09_Pivots.calls k a0 _ _ l1 true _ ?side1 ?side2 A4.out).mono ?_); (case side1 => repeat (first | exact HR1.out | (with_reducible refine Kd.C_alloc ?_ _) | (with_reducible refine Kd.C_drewN ?_ _) | (with_reducible refine Kd.C_drew ?_))); (case side2 => exact HC1.out); rintro e w' ⟨rfl, ⟨nd, rfl⟩⟩; (try first | exact ⟨rfl, _, World.drewN_drewN _ _ _⟩ | exact ⟨rfl, _, Eq.trans (World.drewN_drewN _ _ _) (congrArg (World.drewN _) (Nat.add_assoc _ _ _))⟩)) | (go_at_call 30; (with_reducible refine (antiquaryref09_Fit.calls k _ _ l2 false _ ?side1 ?side2 A6.out).mono ?_); (case side1 => repeat (first | exact HR2.out | (with_reducible refine Kd.C_alloc ?_ _) | (with_reducible refine Kd.C_drewN ?_ _) | (with_reducible refine Kd.C_drew ?_))); (case side2 => exact HC2.out); rintro e w' ⟨rfl, ⟨nd, rfl⟩⟩; (try first | exact ⟨rfl, _, World.drewN_drewN _ _ _⟩ | exact ⟨rfl, _, Eq.trans (World.drewN_drewN _ _ _) (congrArg (World.drewN _) (Nat.add_assoc _ _ _))⟩)))
      repeat (go_quiet (first | (go_at_call 51; (with_reducible refine (antiquaryref09_Pivots.calls k a0 _ _ l1 true _ ?side1 ?side2 A4.out).mono ?_); (case side1 => repeat (first | exact HR1.out | (with_reducible refine Kd.C_alloc ?_ _) | (with_reducible refine Kd.C_drewN ?_ _) | (with_reducible refine Kd.C_drew ?_))); (case side2 => exact HC1.out); rintro e w' ⟨rfl, ⟨nd, rfl⟩⟩; (try first | exact ⟨rfl, _, World.drewN_drewN _ _ _⟩ | exact ⟨rfl, _, Eq.trans (World.drewN_drewN _ _ _) (congrArg (World.drewN _) (Nat.add_assoc _ _ _))⟩)) | (go_at_call 30; (with_reducible refine (antiquaryref09_Fit.calls k _ _ l2 false _ ?side1 ?side2 A6.out).mono ?_); (case side1 => repeat (first | exact HR2.out | (with_reducible refine Kd.C_alloc ?_ _) | (with_reducible refine Kd.C_drewN ?_ _) | (with_reducible refine Kd.C_drew ?_))); (case side2 => exact HC2.out); rintro e w' ⟨rfl, ⟨nd, rfl⟩⟩; (try first | exact ⟨rfl, _, World.drewN_drewN _ _ _⟩ | exact ⟨rfl, _, Eq.trans (World.drewN_drewN _ _ _) (congrArg (World.drewN _) (Nat.add_assoc _ _ _))⟩))); try go_wp2_with (first | (go_at_call 51; (with_reducible refine (antiquaryref09_Pivots.calls k a0 _ _ l1 true _ ?side1 ?side2 A4.out).mono ?_); (case side1 => repeat (first | exact HR1.out | (with_reducible refine Kd.C_alloc ?_ _) | (with_reducible refine Kd.C_drewN ?_ _) | (with_reducible refine Kd.C_drew ?_))); (case side2 => exact HC1.out); rintro e w' ⟨rfl, ⟨nd, rfl⟩⟩; (try first | exact ⟨rfl, _, World.drewN_drewN _ _ _⟩ | exact ⟨rfl, _, Eq.trans (World.drewN_drewN _ _ _) (congrArg (World.drewN _) (Nat.add_assoc _ _ _))⟩)) | (go_at_call 30; (with_reducible refine (antiquaryref09_Fit.calls k _ _ l2 false _ ?side1 ?side2 A6.out).mono ?_); (case side1 => repeat (first | exact HR2.out | (with_reducible refine Kd.C_alloc ?_ _) | (with_reducible refine Kd.C_drewN ?_ _) | (with_reducible refine Kd.C_drew ?_))); (case side2 => exact HC2.out); rintro e w' ⟨rfl, ⟨nd, rfl⟩⟩; (try first | exact ⟨rfl, _, World.drewN_drewN _ _ _⟩ | exact ⟨rfl, _, Eq.trans (World.drewN_drewN _ _ _) (congrArg (World.drewN _) (Nat.add_assoc _ _ _))⟩))))
      go_ret
      exact ⟨by first | rfl | (simp; done) | (simp [*]; done), by repeat (first | exact Drawn0.refl _ | apply Drawn0.step)⟩
  · replace c5 := Bool.eq_false_iff.mpr c5
    subst c5
    have H1 : (some false) = some r := by rw [if_neg (show ¬ (false = true) by decide)] at H; exact H
    clear H
    have H := H1
    clear H1
    obtain rfl := Option.some.inj H
    go_enter Try.func21, Try.ntmps21
    go_wp2_with (first | (go_at_call 51; (with_reducible refine (antiquaryref09_Pivots.calls k a0 _ _ l1 false _ ?side1 ?side2 A4.out).mono ?_); (case side1 => repeat (first | exact HR1.out | (with_reducible refine Kd.C_alloc ?_ _) | (with_reducible refine Kd.C_drewN ?_ _) | (with_reducible refine Kd.C_drew ?_))); (case side2 => exact HC1.out); rintro e w' ⟨rfl, ⟨nd, rfl⟩⟩; (try first | exact ⟨rfl, _, World.drewN_drewN _ _ _⟩ | exact ⟨rfl, _, Eq.trans (World.drewN_drewN _ _ _) (congrArg (World.drewN _) (Nat.add_assoc _ _ _))⟩)))
    repeat (go_quiet (first | (go_at_call 51; (with_reducible refine (antiquaryref09_Pivots.calls k a0 _ _ l1 false _ ?side1 ?side2 A4.out).mono ?_); (case side1 => repeat (first | exact HR1.out | (with_reducible refine Kd.C_alloc ?_ _) | (with_reducible refine Kd.C_drewN ?_ _) | (with_reducible refine Kd.C_drew ?_))); (case side2 => exact HC1.out); rintro e w' ⟨rfl, ⟨nd, rfl⟩⟩; (try first | exact ⟨rfl, _, World.drewN_drewN _ _ _⟩ | exact ⟨rfl, _, Eq.trans (World.drewN_drewN _ _ _) (congrArg (World.drewN _) (Nat.add_assoc _ _ _))⟩))); try go_wp2_with (first | (go_at_call 51; (with_reducible refine (antiquaryref09_Pivots.calls k a0 _ _ l1 false _ ?side1 ?side2 A4.out).mono ?_); (case side1 => repeat (first | exact HR1.out | (with_reducible refine Kd.C_alloc ?_ _) | (with_reducible refine Kd.C_drewN ?_ _) | (with_reducible refine Kd.C_drew ?_))); (case side2 => exact HC1.out); rintro e w' ⟨rfl, ⟨nd, rfl⟩⟩; (try first | exact ⟨rfl, _, World.drewN_drewN _ _ _⟩ | exact ⟨rfl, _, Eq.trans (World.drewN_drewN _ _ _) (congrArg (World.drewN _) (Nat.add_assoc _ _ _))⟩))))
    go_ret
    exact ⟨by first | rfl | (simp; done) | (simp [*]; done), by repeat (first | exact Drawn0.refl _ | apply Drawn0.step)⟩
end Go.Proofs.Ytoidpkpgeeeggaa.Q
end
section
namespace Go.Proofs.Ytoidpkpgeeeggaa.Q
open Go.RowKit Go.Proofs.YtoidpkpgeeeggaaW.PrintWords Go.Proofs.YtoidpkpgeeeggaaW.PrintLast Go.Proofs.YtoidpkpgeeeggaaW.PrintMore
attribute [local go_sem] max2_int min2_int max_two min_two max_three min_three max_four min_four   -- for this text's walks alone
set_option linter.unusedVariables false
set_option linter.unusedSimpArgs false
def antiquaryref09_Cover.l0 : Nat → Int → List (List Int) → List (List Int) → Int → Int → Option (Int × Int × Int)
  | 0, _, _, _, _, _ => none
  | k + 1, x0, x1, x2, x8, x9 => if x9 < (x2.length : Int) then (if 0 ≤ x9 then ((antiquaryref09_nearest.f k x0 x1 (rd_L1 x2 x9)).bind fun bt320 => (antiquaryref09_Cover.l0 k x0 x1 x2 (mx x8 bt320.2.1) (wrap64 (x9 + 1)))) else (none)) else (some (0, x8, 0))
def antiquaryref09_Cover.f (k : Nat) (a0 : Int) (l1 : List (List Int)) (l2 : List (List Int)) : Option (Int × Int × Int) := (antiquaryref09_Both.f k a0 l1 l2).bind fun t318 => (if t318 = true then (antiquaryref09_Cover.l0 k a0 l1 l2 0 0) else (some (0, 0, 1)))
set_option maxHeartbeats 8000000 in
set_option maxRecDepth 100000 in
theorem antiquaryref09_Cover.calls (k : Nat) (a0 : Int) (A1 : Option Addr) (c1 : Nat) (l1 : List (List Int)) (A2 : Option Addr) (c2 : Nat) (l2 : List (List Int)) (r1 : Int) (r2 : Int) (r3 : Int) (w : World) (hr1 : Kd.C (Kd.slice 3 (Kd.int .i64)) w A1 l1.length l1) (hc1 : l1.length ≤ c1) (hr2 : Kd.C (Kd.slice 3 (Kd.int .i64)) w A2 l2.length l2) (hc2 : l2.length ≤ c2) (h : antiquaryref09_Cover.f k a0 l1 l2 = some (r1, r2, r3)) :
    Calls Try.prog 17 #[.int .i64 a0, .slice A1 l1.length c1, .slice A2 l2.length c2] w fun e w' => e = .returned (.agg #[.int .i64 r1, .int .i64 r2, .int .i64 r3]) ∧ Below w.heap.size w w' := by
  have hu39 := Try.underlying39
  have HR1 := Aside0.mk hr1
  have HC1 := Aside0.mk hc1
  clear hr1 hc1
  have HR2 := Aside0.mk hr2
  have HC2 := Aside0.mk hc2
  clear hr2 hc2
  have HB := Aside0.mk (Below.refl w.heap.size w)
  have H : ((antiquaryref09_Both.f k a0 l1 l2).bind fun t318 => (if t318 = true then (antiquaryref09_Cover.l0 k a0 l1 l2 0 0) else (some (0, 0, 1)))) = some (r1, r2, r3) := h
  clear h
  replace H := Option.bind_eq_some_iff.mp H
  obtain ⟨t318, A40, H⟩ := H
  replace H : (if t318 = true then (antiquaryref09_Cover.l0 k a0 l1 l2 0 0) else (some (0, 0, 1))) = some (r1, r2, r3) := H
  have A4 := Aside0.mk A40
  clear A40
  by_cases c5 : t318 = true
  · subst c5
    have H1 : (antiquaryref09_Cover.l0 k a0 l1 l2 0 0) = some (r1, r2, r3) := by rw [if_pos rfl] at H; exact H
    clear H
    have H := H1
    clear H1
    have H' := Aside0.mk H
    clear H
    go_enter Try.func17, Try.ntmps17
    go_wp2_with (first | ((with_reducible refine gate_dst (N := 6) rfl ?_); refine box_event ?hg (N := 6) ?hd (cs := #[.int .i64 0, .int .i64 0, .int .i64 0]) (t := 39) ?hr ?_; (case hd => rfl); (case hg => rfl); (case hr => first | (go_simp; done) | (go_simp; rfl)); intro gb317 hg w6 hbox hb; have n0_ := Aside0.mk (below_step (by repeat (first | (with_reducible first | exact HB.out | apply below_alloc | apply pw_below_drewN | apply below_drew1) | exact HB.out)) hb); have n1_ := Aside0.mk (hbox); have n2_ := Aside0.mk ((by rw [hg]; exact (below_size (by repeat (first | (with_reducible first | exact HB.out | apply below_alloc | apply pw_below_drewN | apply below_drew1) | exact HB.out))) : w.heap.size ≤ gb317)); have n3_ := Aside0.mk ((by rw [hg]; exact (below_size (by repeat (first | (with_reducible first | exact HB.out | apply below_alloc | apply pw_below_drewN | apply below_drew1) | exact HB.out))) : w.heap.size ≤ gb317)); clear HB; have HB := n0_; have BK317 := n1_; have GW317 := n2_; have GE317 := n3_; clear n0_ n1_ n2_ n3_; clear hb hbox hg) | ((with_reducible refine gate_callee (f := 21) rfl ?_); refine goesL_ (some 14) rfl rfl Try.func21 (by kernel_rfl) rfl #[.int .i64 a0, .slice A1 l1.length c1, .slice A2 l2.length c2] rfl (by (try simp only [List.map_toArray, List.map_cons, List.map_nil]); first | done | rfl | (simp only [List.length_drop, List.length_take]; rfl)) ?_; (with_reducible refine (antiquaryref09_Both.calls k a0 _ _ l1 _ _ l2 true _ ?side1 ?side2 ?side3 ?side4 A4.out).mono ?_); (case side1 => repeat (first | exact (Kd.C_below HR1.out HB.out) | (with_reducible refine Kd.C_alloc ?_ _) | (with_reducible refine Kd.C_drewN ?_ _) | (with_reducible refine Kd.C_drew ?_))); (case side2 => exact HC1.out); (case side3 => repeat (first | exact (Kd.C_below HR2.out HB.out) | (with_reducible refine Kd.C_alloc ?_ _) | (with_reducible refine Kd.C_drewN ?_ _) | (with_reducible refine Kd.C_drew ?_))); (case side4 => exact HC2.out); rintro e w' ⟨rfl, ⟨nd, rfl⟩⟩; refine ⟨_, rfl, ?_⟩))
    go_loopg [8, 9] k (fun kq v8 v9 w' => ∃ (x8_1 : Int) (x9_1 : Int), v8 = .int .i64 x8_1 ∧ v9 = .int .i64 x9_1 ∧ Aside0 (antiquaryref09_Cover.l0 kq a0 l1 l2 x8_1 x9_1 = some (r1, r2, r3)) ∧ Aside0 (kq ≤ k) ∧ Aside0 (w'.heap[gb317]? = some (.cells #[.int .i64 0, .int .i64 0, .int .i64 0] 39 (0, 0))) ∧ Aside0 (Below w.heap.size w w'))
    case atStart => exact ⟨(0), (0), (by first | rfl | (simp; done) | (simp [*]; done)), (by first | rfl | (simp; done) | (simp [*]; done)), H', ⟨Nat.le_refl _⟩, ⟨by (with_reducible repeat (first | refine blk_drewN ?_ _ | refine blk_drew ?_ | refine blk_alloc ?_ _)); exact BK317.out⟩, ⟨by repeat (first | (with_reducible first | exact HB.out | apply below_alloc | apply pw_below_drewN | apply below_drew1 | refine below_set ?_ GE317.out) | exact HB.out)⟩⟩
    case round =>
      clear H'
      try clear c1
      try clear c2
      try clear p2
      try clear c5
      obtain ⟨x8_1, x9_1, rfl, rfl, HA, HK1, BK317, HB⟩ := hrel
      cases gk with
      | zero => exact absurd HA.out (by simp [antiquaryref09_Cover.l0])
      | succ k1 =>
        have H := HA.out
        clear HA
        simp only [antiquaryref09_Cover.l0] at H
        by_cases c7 : x9_1 < (l2.length : Int)
        · rw [if_pos c7] at H
          have c7b0 : decide (x9_1 < (l2.length : Int)) = true := decide_eq_true c7
          clear c7
          by_cases c8 : 0 ≤ x9_1
          · rw [if_pos c8] at H
            have c8b0 : decide (0 ≤ x9_1) = true := decide_eq_true c8
            clear c8
            replace H := Option.bind_eq_some_iff.mp H
            obtain ⟨⟨t320, t321, t322⟩, A90, H⟩ := H
            replace H : (antiquaryref09_Cover.l0 k1 a0 l1 l2 (mx x8_1 t321) (wrap64 (x9_1 + 1))) = some (r1, r2, r3) := H
            have A9 := Aside0.mk A90
            clear A90
            obtain ⟨ji10, hji10⟩ : ∃ j_ : Int, (mx x8_1 t321) = j_ := ⟨_, rfl⟩
            replace H : (antiquaryref09_Cover.l0 k1 a0 l1 l2 ji10 (wrap64 (x9_1 + 1))) = some (r1, r2, r3) := by first | (rw [hji10] at H; exact H) | (simp only [hji10] at H ⊢; exact H)
            (try rw [hji10] at A9)
            have hji10_ : (if x8_1 < t321 then t321 else x8_1) = ji10 := hji10
            have H' := Aside0.mk H
            clear H
            have p319 : 0 ≤ (x9_1 : Int) := of_decide_eq_true (by first | (with_reducible assumption) | assumption)
            have q319 : x9_1 < (l2.length : Int) := of_decide_eq_true (by first | (with_reducible assumption) | assumption)
            obtain ⟨ad319, A319_0, c319_0, e319, hx319_0, hl319_0, hi319_0⟩ := at_L1 HR2.out x9_1 p319 q319
            cases e319
            replace hx319_0 := (HB.out.cell (World.block_lt_of_cell? w _ hx319_0)).trans hx319_0
            have HR319_0 := Aside0.mk hi319_0
            have HC319_0 := Aside0.mk hl319_0
            clear hi319_0 hl319_0
            replace p319 := eq_true p319
            replace q319 := eq_true q319
            go_wp2_with (first | ((with_reducible refine gate_callee (f := 50) rfl ?_); refine goesL_ (some 30) rfl rfl Try.func50 (by kernel_rfl) rfl #[.int .i64 a0, .slice A1 l1.length c1, .slice A319_0 (rd_L1 l2 x9_1).length c319_0] rfl (by (try simp only [List.map_toArray, List.map_cons, List.map_nil]); first | done | rfl | (simp only [List.length_drop, List.length_take]; rfl)) ?_; (with_reducible refine (antiquaryref09_nearest.calls k1 a0 _ _ l1 _ _ (rd_L1 l2 x9_1) t320 t321 t322 _ ?side1 ?side2 ?side3 ?side4 A9.out).mono ?_); (case side1 => repeat (first | exact (Kd.C_below HR1.out HB.out) | (with_reducible refine Kd.C_alloc ?_ _) | (with_reducible refine Kd.C_drewN ?_ _) | (with_reducible refine Kd.C_drew ?_))); (case side2 => exact HC1.out); (case side3 => repeat (first | exact (Kd.C_below HR319_0.out HB.out) | (with_reducible refine Kd.C_alloc ?_ _) | (with_reducible refine Kd.C_drewN ?_ _) | (with_reducible refine Kd.C_drew ?_))); (case side4 => exact HC319_0.out); rintro e w11 ⟨rfl, hb⟩; refine ⟨_, rfl, ?_⟩; have n0_ := Aside0.mk (blk_below (g := gb317) (o := .cells #[.int .i64 0, .int .i64 0, .int .i64 0] 39 (0, 0)) (by (with_reducible repeat (first | refine blk_drewN ?_ _ | refine blk_drew ?_ | refine blk_alloc ?_ _)); exact BK317.out) hb); have n1_ := Aside0.mk (below_step (by repeat (first | (with_reducible first | exact HB.out | apply below_alloc | apply pw_below_drewN | apply below_drew1 | refine below_set ?_ GE317.out) | exact HB.out)) hb); clear BK317; clear HB; have BK317 := n0_; have HB := n1_; clear n0_ n1_; (try clear hb); (try clear hb2); (try clear hk); (try clear hi)) | ((with_reducible refine gate_dst (N := 10) rfl ?_); refine box_event ?hg (N := 10) ?hd (cs := #[.int .i64 0, .int .i64 0, .int .i64 0]) (t := 39) ?hr ?_; (case hd => rfl); (case hg => rfl); (case hr => first | (go_simp; done) | (go_simp; rfl)); intro gb323 hg w12 hbox hb; have n0_ := Aside0.mk (blk_below (g := gb317) (o := .cells #[.int .i64 0, .int .i64 0, .int .i64 0] 39 (0, 0)) (by (with_reducible repeat (first | refine blk_drewN ?_ _ | refine blk_drew ?_ | refine blk_alloc ?_ _)); exact BK317.out) hb); have n1_ := Aside0.mk (below_step (by repeat (first | (with_reducible first | exact HB.out | apply below_alloc | apply pw_below_drewN | apply below_drew1 | refine below_set ?_ GE317.out) | exact HB.out)) hb); have n2_ := Aside0.mk (hbox); have n3_ := Aside0.mk ((by rw [hg]; exact (below_size (by repeat (first | (with_reducible first | exact HB.out | apply below_alloc | apply pw_below_drewN | apply below_drew1 | refine below_set ?_ GE317.out) | exact HB.out))) : w.heap.size ≤ gb323)); have n4_ := Aside0.mk ((by rw [hg]; exact (below_size (by repeat (first | (with_reducible first | exact HB.out | apply below_alloc | apply pw_below_drewN | apply below_drew1 | refine below_set ?_ GE317.out) | exact HB.out))) : w.heap.size ≤ gb323)); have n5_ := Aside0.mk ((by rw [hg]; exact Nat.ne_of_lt (blk_lt (g := gb317) (o := .cells #[.int .i64 0, .int .i64 0, .int .i64 0] 39 (0, 0)) (by (with_reducible repeat (first | refine blk_drewN ?_ _ | refine blk_drew ?_ | refine blk_alloc ?_ _)); exact BK317.out)) : gb317 ≠ gb323)); have n6_ := Aside0.mk ((by rw [hg]; exact Nat.ne_of_gt (blk_lt (g := gb317) (o := .cells #[.int .i64 0, .int .i64 0, .int .i64 0] 39 (0, 0)) (by (with_reducible repeat (first | refine blk_drewN ?_ _ | refine blk_drew ?_ | refine blk_alloc ?_ _)); exact BK317.out)) : gb323 ≠ gb317)); clear BK317; clear HB; have BK317 := n0_; have HB := n1_; have BK323 := n2_; have GW323 := n3_; have GE323 := n4_; have NB317_323 := n5_; have NB323_317 := n6_; clear n0_ n1_ n2_ n3_ n4_ n5_ n6_; clear hb hbox hg; have hnb13 := NB323_317.out; have hnc13 := NB317_323.out; have hcz14_0 : w12.cell? ⟨gb323, 0, none⟩ = some (.int .i64 0) := (blk_cell BK323.out 0).trans rfl; have hcz14_1 : w12.cell? ⟨gb323, 1, none⟩ = some (.int .i64 0) := (blk_cell BK323.out 1).trans rfl; have hcz14_2 : w12.cell? ⟨gb323, 2, none⟩ = some (.int .i64 0) := (blk_cell BK323.out 2).trans rfl; have hfz14_0 := blk_frozen BK323.out 0; have hfz14_1 := blk_frozen BK323.out 1; have hfz14_2 := blk_frozen BK323.out 2))
            go_roundg k1
            case measure => have := HK1.out; omega
            case rel => exact ⟨(ji10), (wrap64 (x9_1 + 1)), (by first | rfl | (simp; done) | (simp only [← hji10] <;> (first | rfl | simp)) | (simp [*]; done)), (by first | rfl | (simp; done) | (simp [*]; done)), H', ⟨by have := HK1.out; omega⟩, ⟨by (with_reducible repeat (first | refine blk_drewN ?_ _ | refine blk_drew ?_ | refine blk_alloc ?_ _)); refine blk_far ?_ NB317_323.out _; (with_reducible repeat (first | refine blk_drewN ?_ _ | refine blk_drew ?_ | refine blk_alloc ?_ _)); refine blk_far ?_ NB317_323.out _; (with_reducible repeat (first | refine blk_drewN ?_ _ | refine blk_drew ?_ | refine blk_alloc ?_ _)); refine blk_far ?_ NB317_323.out _; (with_reducible repeat (first | refine blk_drewN ?_ _ | refine blk_drew ?_ | refine blk_alloc ?_ _)); exact BK317.out⟩, ⟨by repeat (first | (with_reducible first | exact HB.out | apply below_alloc | apply pw_below_drewN | apply below_drew1 | refine below_set ?_ GE317.out | refine below_set ?_ GE323.out) | exact HB.out)⟩⟩
          · rw [if_neg c8] at H
            exact absurd H (by simp)
        · rw [if_neg c7] at H
          have c7b0 : decide (x9_1 < (l2.length : Int)) = false := decide_eq_false c7
          clear c7
          simp only [Option.some.injEq, Prod.mk.injEq] at H
          obtain ⟨rfl, rfl, rfl⟩ := H
          have hcz15_0 : wr.cell? ⟨gb317, 0, none⟩ = some (.int .i64 0) := (blk_cell BK317.out 0).trans rfl
          have hcz15_1 : wr.cell? ⟨gb317, 1, none⟩ = some (.int .i64 0) := (blk_cell BK317.out 1).trans rfl
          have hcz15_2 : wr.cell? ⟨gb317, 2, none⟩ = some (.int .i64 0) := (blk_cell BK317.out 2).trans rfl
          have hfz15_0 := blk_frozen BK317.out 0
          have hfz15_1 := blk_frozen BK317.out 1
          have hfz15_2 := blk_frozen BK317.out 2
          go_wp2
          refine bodyPost_ret (results_cell_row rfl _ _ gb317 39 #[.int .i64 0, .int .i64 x8_1, .int .i64 0] (0, 0) _ rfl (by (with_reducible repeat (first | refine blk_drewN ?_ _ | refine blk_drew ?_ | refine blk_alloc ?_ _)); refine blk_put (cs := #[.int .i64 0, .int .i64 x8_1, .int .i64 0]) ?_ 2 _ rfl; (with_reducible repeat (first | refine blk_drewN ?_ _ | refine blk_drew ?_ | refine blk_alloc ?_ _)); refine blk_put (cs := #[.int .i64 0, .int .i64 0, .int .i64 0]) ?_ 1 _ rfl; (with_reducible repeat (first | refine blk_drewN ?_ _ | refine blk_drew ?_ | refine blk_alloc ?_ _)); refine blk_put (cs := #[.int .i64 0, .int .i64 0, .int .i64 0]) ?_ 0 _ rfl; (with_reducible repeat (first | refine blk_drewN ?_ _ | refine blk_drew ?_ | refine blk_alloc ?_ _)); exact BK317.out) Try.underlying39 rfl (by kernel_rfl)) rfl ?_
          exact ⟨by first | rfl | (simp [errW_none, errW_some] <;> rfl) | (simp [*, errW_none, errW_some] <;> rfl), by repeat (first | (with_reducible first | exact HB.out | apply below_alloc | apply pw_below_drewN | apply below_drew1 | refine below_set ?_ GE317.out) | exact HB.out)⟩
  · replace c5 := Bool.eq_false_iff.mpr c5
    subst c5
    have H1 : (some (0, 0, 1)) = some (r1, r2, r3) := by rw [if_neg (show ¬ (false = true) by decide)] at H; exact H
    clear H
    have H := H1
    clear H1
    simp only [Option.some.injEq, Prod.mk.injEq] at H
    obtain ⟨rfl, rfl, rfl⟩ := H
    go_enter Try.func17, Try.ntmps17
    go_wp2_with (first | ((with_reducible refine gate_dst (N := 6) rfl ?_); refine box_event ?hg (N := 6) ?hd (cs := #[.int .i64 0, .int .i64 0, .int .i64 0]) (t := 39) ?hr ?_; (case hd => rfl); (case hg => rfl); (case hr => first | (go_simp; done) | (go_simp; rfl)); intro gb317 hg w16 hbox hb; have n0_ := Aside0.mk (below_step (by repeat (first | (with_reducible first | exact HB.out | apply below_alloc | apply pw_below_drewN | apply below_drew1) | exact HB.out)) hb); have n1_ := Aside0.mk (hbox); have n2_ := Aside0.mk ((by rw [hg]; exact (below_size (by repeat (first | (with_reducible first | exact HB.out | apply below_alloc | apply pw_below_drewN | apply below_drew1) | exact HB.out))) : w.heap.size ≤ gb317)); have n3_ := Aside0.mk ((by rw [hg]; exact (below_size (by repeat (first | (with_reducible first | exact HB.out | apply below_alloc | apply pw_below_drewN | apply below_drew1) | exact HB.out))) : w.heap.size ≤ gb317)); clear HB; have HB := n0_; have BK317 := n1_; have GW317 := n2_; have GE317 := n3_; clear n0_ n1_ n2_ n3_; clear hb hbox hg) | ((with_reducible refine gate_callee (f := 21) rfl ?_); refine goesL_ (some 14) rfl rfl Try.func21 (by kernel_rfl) rfl #[.int .i64 a0, .slice A1 l1.length c1, .slice A2 l2.length c2] rfl (by (try simp only [List.map_toArray, List.map_cons, List.map_nil]); first | done | rfl | (simp only [List.length_drop, List.length_take]; rfl)) ?_; (with_reducible refine (antiquaryref09_Both.calls k a0 _ _ l1 _ _ l2 false _ ?side1 ?side2 ?side3 ?side4 A4.out).mono ?_); (case side1 => repeat (first | exact (Kd.C_below HR1.out HB.out) | (with_reducible refine Kd.C_alloc ?_ _) | (with_reducible refine Kd.C_drewN ?_ _) | (with_reducible refine Kd.C_drew ?_))); (case side2 => exact HC1.out); (case side3 => repeat (first | exact (Kd.C_below HR2.out HB.out) | (with_reducible refine Kd.C_alloc ?_ _) | (with_reducible refine Kd.C_drewN ?_ _) | (with_reducible refine Kd.C_drew ?_))); (case side4 => exact HC2.out); rintro e w' ⟨rfl, ⟨nd, rfl⟩⟩; refine ⟨_, rfl, ?_⟩; (try (rw [drewN_self w16]; generalize hq_ : World.drewN w16 _ = w16; have n0_ : Aside0 (w16.heap[gb317]? = some (.cells #[.int .i64 0, .int .i64 0, .int .i64 0] 39 (0, 0))) := ⟨by rw [← hq_]; exact (by (with_reducible repeat (first | refine blk_drewN ?_ _ | refine blk_drew ?_ | refine blk_alloc ?_ _)); exact BK317.out)⟩; have n1_ : Aside0 (Below w.heap.size w w16) := ⟨by rw [← hq_]; exact (by repeat (first | (with_reducible first | exact HB.out | apply below_alloc | apply pw_below_drewN | apply below_drew1 | refine below_set ?_ GE317.out) | exact HB.out))⟩; clear BK317 HB hq_; have BK317 := n0_; have HB := n1_; clear n0_ n1_)); have hcz17_0 : w16.cell? ⟨gb317, 0, none⟩ = some (.int .i64 0) := (blk_cell BK317.out 0).trans rfl; have hcz17_1 : w16.cell? ⟨gb317, 1, none⟩ = some (.int .i64 0) := (blk_cell BK317.out 1).trans rfl; have hcz17_2 : w16.cell? ⟨gb317, 2, none⟩ = some (.int .i64 0) := (blk_cell BK317.out 2).trans rfl; have hfz17_0 := blk_frozen BK317.out 0; have hfz17_1 := blk_frozen BK317.out 1; have hfz17_2 := blk_frozen BK317.out 2))
    refine bodyPost_ret (results_cell_row rfl _ _ gb317 39 #[.int .i64 0, .int .i64 0, .int .i64 1] (0, 0) _ rfl (by (with_reducible repeat (first | refine blk_drewN ?_ _ | refine blk_drew ?_ | refine blk_alloc ?_ _)); refine blk_put (cs := #[.int .i64 0, .int .i64 0, .int .i64 0]) ?_ 2 _ rfl; (with_reducible repeat (first | refine blk_drewN ?_ _ | refine blk_drew ?_ | refine blk_alloc ?_ _)); refine blk_put (cs := #[.int .i64 0, .int .i64 0, .int .i64 0]) ?_ 1 _ rfl; (with_reducible repeat (first | refine blk_drewN ?_ _ | refine blk_drew ?_ | refine blk_alloc ?_ _)); refine blk_put (cs := #[.int .i64 0, .int .i64 0, .int .i64 0]) ?_ 0 _ rfl; (with_reducible repeat (first | refine blk_drewN ?_ _ | refine blk_drew ?_ | refine blk_alloc ?_ _)); exact BK317.out) Try.underlying39 rfl (by kernel_rfl)) rfl ?_
    exact ⟨by first | rfl | (simp [errW_none, errW_some] <;> rfl) | (simp [*, errW_none, errW_some] <;> rfl), by repeat (first | (with_reducible first | exact HB.out | apply below_alloc | apply pw_below_drewN | apply below_drew1 | refine below_set ?_ GE317.out) | exact HB.out)⟩
def antiquaryref09_Keys.l0 : Nat → Int → List (List Int) → List Int → List Int → Int → Option (List Int)
  | 0, _, _, _, _, _ => none
  | k + 1, x0, x1, x2, x7, x8 => if x8 < (x1.length : Int) then (if 0 ≤ x8 then ((antiquaryref04_Key.f k x0 (rd_L1 x1 x8) x2).bind fun t325 => (if x7.length < 17592186044416 then (antiquaryref09_Keys.l0 k x0 x1 x2 (x7 ++ [t325]) (wrap64 (x8 + 1))) else (none))) else (none)) else (some x7)
def antiquaryref09_Keys.f (k : Nat) (a0 : Int) (l1 : List (List Int)) (l2 : List Int) : Option (List Int) := antiquaryref09_Keys.l0 k a0 l1 l2 ([] : List Int) 0
set_option maxHeartbeats 8000000 in
set_option maxRecDepth 100000 in
theorem antiquaryref09_Keys.calls (k : Nat) (a0 : Int) (A1 : Option Addr) (c1 : Nat) (l1 : List (List Int)) (A2 : Option Addr) (c2 : Nat) (l2 : List Int) (r : List Int) (w : World) (hr1 : Kd.C (Kd.slice 3 (Kd.int .i64)) w A1 l1.length l1) (hc1 : l1.length ≤ c1) (hr2 : Kd.C (Kd.int .i64) w A2 l2.length l2) (hc2 : l2.length ≤ c2) (h : antiquaryref09_Keys.f k a0 l1 l2 = some r) :
    Calls Try.prog 53 #[.int .i64 a0, .slice A1 l1.length c1, .slice A2 l2.length c2] w fun e w' => ∃ v0_ : Value, e = .returned (v0_) ∧ Kd.R (Kd.int .i64) 3 w' w.heap.size (fun _ => True) v0_ r ∧ Below w.heap.size w w' := by
  have HR1 := Aside0.mk hr1
  have HC1 := Aside0.mk hc1
  clear hr1 hc1
  have HR2 := Aside0.mk hr2
  have HC2 := Aside0.mk hc2
  clear hr2 hc2
  have HB := Aside0.mk (Below.refl w.heap.size w)
  have H : (antiquaryref09_Keys.l0 k a0 l1 l2 ([] : List Int) 0) = some r := h
  clear h
  have H' := Aside0.mk H
  clear H
  go_enter Try.func53, Try.ntmps53
  go_wp2
  go_loopg [7, 8] k (fun kq v7 v8 w' => ∃ (x7_1 : List Int) (x8_1 : Int), v8 = .int .i64 x8_1 ∧ Aside0 (antiquaryref09_Keys.l0 kq a0 l1 l2 x7_1 x8_1 = some r) ∧ Aside0 (kq ≤ k) ∧ Aside0 (Kd.R (Kd.int .i64) 3 w' w.heap.size (fun _ => True) v7 x7_1) ∧ Aside0 (Below w.heap.size w w'))
  case atStart => exact ⟨(([] : List Int)), (0), (by first | rfl | (simp; done) | (simp [*]; done)), H', ⟨Nat.le_refl _⟩, ⟨by first | exact Kd.R_nil _ _ _ _ _ | exact Kd.N_nil _ _ _ _ _ | exact Kd.V_nil _ _ _ _ _ | exact Kd.Q_nil _ _ _ _ _ | exact Kd.S_nil _ _ _ _ _⟩, ⟨by repeat (first | (with_reducible first | exact HB.out | apply below_alloc | apply pw_below_drewN | apply below_drew1) | exact HB.out)⟩⟩
  case round =>
    clear H'
    try clear c1
    try clear c2
    try clear p2
    obtain ⟨x7_1, x8_1, rfl, HA, HK1, HO_7, HB⟩ := hrel
    cases gk with
    | zero => exact absurd HA.out (by simp [antiquaryref09_Keys.l0])
    | succ k1 =>
      have H := HA.out
      clear HA
      simp only [antiquaryref09_Keys.l0] at H
      by_cases c4 : x8_1 < (l1.length : Int)
      · rw [if_pos c4] at H
        have c4b0 : decide (x8_1 < (l1.length : Int)) = true := decide_eq_true c4
        clear c4
        by_cases c5 : 0 ≤ x8_1
        · rw [if_pos c5] at H
          have c5b0 : decide (0 ≤ x8_1) = true := decide_eq_true c5
          clear c5
          replace H := Option.bind_eq_some_iff.mp H
          obtain ⟨t325, A60, H⟩ := H
          replace H : (if x7_1.length < 17592186044416 then (antiquaryref09_Keys.l0 k1 a0 l1 l2 (x7_1 ++ [t325]) (wrap64 (x8_1 + 1))) else (none)) = some r := H
          have A6 := Aside0.mk A60
          clear A60
          by_cases c7 : x7_1.length < 17592186044416
          · rw [if_pos c7] at H
            have LMc7 := Aside0.mk c7
            clear c7
            obtain ⟨y326, hy326⟩ : ∃ y_ : List Int, y_ = (x7_1 ++ [t325]) := ⟨_, rfl⟩
            replace H : (antiquaryref09_Keys.l0 k1 a0 l1 l2 y326 (wrap64 (x8_1 + 1))) = some r := by first | (rw [hy326]; with_reducible exact H) | (have H2_ := (Option.bind_some _ _).symm.trans H; rw [hy326]; with_reducible exact H2_) | (have H2_ := (Option.bind_some _ _).symm.trans H; with_reducible exact H2_) | with_reducible exact H | (rw [hy326]; exact H) | exact H
            have Ny326 := Aside0.mk hy326
            clear hy326
            have H' := Aside0.mk H
            clear H
            have p324 : 0 ≤ (x8_1 : Int) := of_decide_eq_true (by first | (with_reducible assumption) | assumption)
            have q324 : x8_1 < (l1.length : Int) := of_decide_eq_true (by first | (with_reducible assumption) | assumption)
            obtain ⟨ad324, A324_0, c324_0, e324, hx324_0, hl324_0, hi324_0⟩ := at_L1 HR1.out x8_1 p324 q324
            cases e324
            replace hx324_0 := (HB.out.cell (World.block_lt_of_cell? w _ hx324_0)).trans hx324_0
            have HR324_0 := Aside0.mk hi324_0
            have HC324_0 := Aside0.mk hl324_0
            clear hi324_0 hl324_0
            replace p324 := eq_true p324
            replace q324 := eq_true q324
            go_wp2_with (first | ((with_reducible refine gate_callee (f := 76) rfl ?_); refine goesL_ (some 22) rfl rfl Try.func76 (by kernel_rfl) rfl #[.int .i64 a0, .slice A324_0 (rd_L1 l1 x8_1).length c324_0, .slice A2 l2.length c2] rfl (by (try simp only [List.map_toArray, List.map_cons, List.map_nil]); first | done | rfl | (simp only [List.length_drop, List.length_take]; rfl)) ?_; (with_reducible refine (antiquaryref04_Key.calls k1 a0 _ _ (rd_L1 l1 x8_1) _ _ l2 t325 _ ?side1 ?side2 ?side3 ?side4 A6.out).mono ?_); (case side1 => repeat (first | exact (Kd.C_below HR324_0.out HB.out) | (with_reducible refine Kd.C_alloc ?_ _) | (with_reducible refine Kd.C_drewN ?_ _) | (with_reducible refine Kd.C_drew ?_))); (case side2 => exact HC324_0.out); (case side3 => repeat (first | exact (Kd.C_below HR2.out HB.out) | (with_reducible refine Kd.C_alloc ?_ _) | (with_reducible refine Kd.C_drewN ?_ _) | (with_reducible refine Kd.C_drew ?_))); (case side4 => exact HC2.out); rintro e w8 ⟨rfl, hb⟩; refine ⟨_, rfl, ?_⟩; have n0_ := Aside0.mk (Kd.R_below (by (with_reducible repeat (first | apply Kd.R_alloc | apply Kd.R_drewN | apply Kd.R_drew)); exact HO_7.out) hb); have n1_ := Aside0.mk (below_step (by repeat (first | (with_reducible first | exact HB.out | apply below_alloc | apply pw_below_drewN | apply below_drew1) | exact HB.out)) hb); clear HO_7; clear HB; have HO_7 := n0_; have HB := n1_; clear n0_ n1_; (try clear hb); (try clear hb2); (try clear hk); (try clear hi)) | ((with_reducible refine gate_builtin (b := .append) (xs := #[.tmp 15, .tmp 23]) rfl ?_); at_builtin; refine Kd.R_append (Kd.int .i64) (w0 := w) w.heap.size rfl (.tmp 15) (.tmp 23) 23 3 (.int .i64 0) 8 rfl Try.underlying23 info3 rfl (by decide) (by omega) u7 x7_1 t325 [.int .i64 t325] (fun _ => True) (fun _ => False) rfl rfl ?aP (fun _ hk => hk.elim) ?aF ?aO ?aB ?aS ?aL ?_; (case aP => exact rfl); (case aB => exact (by repeat (first | (with_reducible first | exact HB.out | apply below_alloc | apply pw_below_drewN | apply below_drew1) | exact HB.out))); (case aF => exact (fun _ _ => trivial)); (case aO => exact (by (with_reducible repeat (first | apply Kd.R_alloc | apply Kd.R_drewN | apply Kd.R_drew)); exact HO_7.out)); (case aS => exact (below_size (by repeat (first | (with_reducible first | exact HB.out | apply below_alloc | apply pw_below_drewN | apply below_drew1) | exact HB.out)))); (case aL => have := LMc7.out; omega); intro v327 w9 ho hb hg hat; rw [← Ny326.out] at ho; have n0_ := Aside0.mk (hb); have n1_ := Aside0.mk (ho); clear HB; clear HO_7; have HB := n0_; have HO328 := n1_; clear n0_ n1_; clear ho hb hg hat))
            go_roundg k1
            case measure => have := HK1.out; omega
            case rel => exact ⟨(y326), (wrap64 (x8_1 + 1)), (by first | rfl | (simp; done) | (simp [*]; done)), H', ⟨by have := HK1.out; omega⟩, ⟨by (with_reducible repeat (first | apply Kd.R_alloc | apply Kd.R_drewN | apply Kd.R_drew)); exact HO328.out⟩, ⟨by repeat (first | (with_reducible first | exact HB.out | apply below_alloc | apply pw_below_drewN | apply below_drew1) | exact HB.out)⟩⟩
          · rw [if_neg c7] at H
            exact absurd H (by simp)
        · rw [if_neg c5] at H
          exact absurd H (by simp)
      · rw [if_neg c4] at H
        have c4b0 : decide (x8_1 < (l1.length : Int)) = false := decide_eq_false c4
        clear c4
        obtain rfl := Option.some.inj H
        go_wp2
        go_ret
        exact ⟨_, by first | rfl | (simp [errW_none, errW_some] <;> rfl) | (simp [*, errW_none, errW_some] <;> rfl), by (with_reducible repeat (first | apply Kd.R_alloc | apply Kd.R_drewN | apply Kd.R_drew)); exact HO_7.out, by repeat (first | (with_reducible first | exact HB.out | apply below_alloc | apply pw_below_drewN | apply below_drew1) | exact HB.out)⟩
def antiquaryref09_Table.l0 : Nat → Int → List (List Int) → List (List Int) → List (List Int) → Int → Option ((List (List Int)) × Int)
  | 0, _, _, _, _, _ => none
  | k + 1, x0, x1, x2, x8, x9 => if x9 < (x2.length : Int) then (if 0 ≤ x9 then ((antiquaryref09_Keys.f k x0 x1 (rd_L1 x2 x9)).bind fun t332 => (if x8.length < 5864062014805 then (antiquaryref09_Table.l0 k x0 x1 x2 (x8 ++ [t332]) (wrap64 (x9 + 1))) else (none))) else (none)) else (some (x8, 0))
def antiquaryref09_Table.f (k : Nat) (a0 : Int) (l1 : List (List Int)) (l2 : List (List Int)) : Option ((List (List Int)) × Int) := (antiquaryref09_Both.f k a0 l1 l2).bind fun t330 => (if t330 = true then (antiquaryref09_Table.l0 k a0 l1 l2 ([] : List (List Int)) 0) else (some (([] : List (List Int)), 1)))
set_option maxHeartbeats 8000000 in
set_option maxRecDepth 100000 in
theorem antiquaryref09_Table.calls (k : Nat) (a0 : Int) (A1 : Option Addr) (c1 : Nat) (l1 : List (List Int)) (A2 : Option Addr) (c2 : Nat) (l2 : List (List Int)) (r1 : List (List Int)) (r2 : Int) (w : World) (hr1 : Kd.C (Kd.slice 3 (Kd.int .i64)) w A1 l1.length l1) (hc1 : l1.length ≤ c1) (hr2 : Kd.C (Kd.slice 3 (Kd.int .i64)) w A2 l2.length l2) (hc2 : l2.length ≤ c2) (h : antiquaryref09_Table.f k a0 l1 l2 = some (r1, r2)) :
    Calls Try.prog 18 #[.int .i64 a0, .slice A1 l1.length c1, .slice A2 l2.length c2] w fun e w' => ∃ v0_ : Value, e = .returned (.agg #[v0_, .int .i64 r2]) ∧ Kd.S (Kd.slice 3 (Kd.int .i64)) 23 w' w.heap.size (fun _ => True) v0_ r1 ∧ Below w.heap.size w w' := by
  have hu43 := Try.underlying43
  have HR1 := Aside0.mk hr1
  have HC1 := Aside0.mk hc1
  clear hr1 hc1
  have HR2 := Aside0.mk hr2
  have HC2 := Aside0.mk hc2
  clear hr2 hc2
  have HB := Aside0.mk (Below.refl w.heap.size w)
  have H : ((antiquaryref09_Both.f k a0 l1 l2).bind fun t330 => (if t330 = true then (antiquaryref09_Table.l0 k a0 l1 l2 ([] : List (List Int)) 0) else (some (([] : List (List Int)), 1)))) = some (r1, r2) := h
  clear h
  replace H := Option.bind_eq_some_iff.mp H
  obtain ⟨t330, A40, H⟩ := H
  replace H : (if t330 = true then (antiquaryref09_Table.l0 k a0 l1 l2 ([] : List (List Int)) 0) else (some (([] : List (List Int)), 1))) = some (r1, r2) := H
  have A4 := Aside0.mk A40
  clear A40
  by_cases c5 : t330 = true
  · subst c5
    have H1 : (antiquaryref09_Table.l0 k a0 l1 l2 ([] : List (List Int)) 0) = some (r1, r2) := by rw [if_pos rfl] at H; exact H
    clear H
    have H := H1
    clear H1
    have H' := Aside0.mk H
    clear H
    go_enter Try.func18, Try.ntmps18
    go_wp2_with (first | ((with_reducible refine gate_dst (N := 6) rfl ?_); refine box_event ?hg (N := 6) ?hd (cs := #[.slice none 0 0, .int .i64 0]) (t := 43) ?hr ?_; (case hd => rfl); (case hg => rfl); (case hr => first | (go_simp; done) | (go_simp; rfl)); intro gb329 hg w6 hbox hb; have n0_ := Aside0.mk (below_step (by repeat (first | (with_reducible first | exact HB.out | apply below_alloc | apply pw_below_drewN | apply below_drew1) | exact HB.out)) hb); have n1_ := Aside0.mk (hbox); have n2_ := Aside0.mk ((by rw [hg]; exact (below_size (by repeat (first | (with_reducible first | exact HB.out | apply below_alloc | apply pw_below_drewN | apply below_drew1) | exact HB.out))) : w.heap.size ≤ gb329)); have n3_ := Aside0.mk ((by rw [hg]; exact (below_size (by repeat (first | (with_reducible first | exact HB.out | apply below_alloc | apply pw_below_drewN | apply below_drew1) | exact HB.out))) : w.heap.size ≤ gb329)); clear HB; have HB := n0_; have BK329 := n1_; have GW329 := n2_; have GE329 := n3_; clear n0_ n1_ n2_ n3_; clear hb hbox hg) | ((with_reducible refine gate_callee (f := 21) rfl ?_); refine goesL_ (some 13) rfl rfl Try.func21 (by kernel_rfl) rfl #[.int .i64 a0, .slice A1 l1.length c1, .slice A2 l2.length c2] rfl (by (try simp only [List.map_toArray, List.map_cons, List.map_nil]); first | done | rfl | (simp only [List.length_drop, List.length_take]; rfl)) ?_; (with_reducible refine (antiquaryref09_Both.calls k a0 _ _ l1 _ _ l2 true _ ?side1 ?side2 ?side3 ?side4 A4.out).mono ?_); (case side1 => repeat (first | exact (Kd.C_below HR1.out HB.out) | (with_reducible refine Kd.C_alloc ?_ _) | (with_reducible refine Kd.C_drewN ?_ _) | (with_reducible refine Kd.C_drew ?_))); (case side2 => exact HC1.out); (case side3 => repeat (first | exact (Kd.C_below HR2.out HB.out) | (with_reducible refine Kd.C_alloc ?_ _) | (with_reducible refine Kd.C_drewN ?_ _) | (with_reducible refine Kd.C_drew ?_))); (case side4 => exact HC2.out); rintro e w' ⟨rfl, ⟨nd, rfl⟩⟩; refine ⟨_, rfl, ?_⟩))
    go_loopg [8, 9] k (fun kq v8 v9 w' => ∃ (x8_1 : List (List Int)) (x9_1 : Int), v9 = .int .i64 x9_1 ∧ Aside0 (antiquaryref09_Table.l0 kq a0 l1 l2 x8_1 x9_1 = some (r1, r2)) ∧ Aside0 (kq ≤ k) ∧ Aside0 (Kd.S (Kd.slice 3 (Kd.int .i64)) 23 w' w.heap.size (fun _ => True) v8 x8_1) ∧ Aside0 (w'.heap[gb329]? = some (.cells #[(.slice none 0 0), .int .i64 0] 43 (0, 0))) ∧ Aside0 (Below w.heap.size w w'))
    case atStart => exact ⟨(([] : List (List Int))), (0), (by first | rfl | (simp; done) | (simp [*]; done)), H', ⟨Nat.le_refl _⟩, ⟨by first | exact Kd.S_nil _ _ _ _ _ | exact Kd.N_nil _ _ _ _ _ | exact Kd.V_nil _ _ _ _ _ | exact Kd.Q_nil _ _ _ _ _ | exact Kd.R_nil _ _ _ _ _⟩, ⟨by (with_reducible repeat (first | refine blk_drewN ?_ _ | refine blk_drew ?_ | refine blk_alloc ?_ _)); exact BK329.out⟩, ⟨by repeat (first | (with_reducible first | exact HB.out | apply below_alloc | apply pw_below_drewN | apply below_drew1 | refine below_set ?_ GE329.out) | exact HB.out)⟩⟩
    case round =>
      clear H'
      try clear c1
      try clear c2
      try clear p2
      try clear c5
      obtain ⟨x8_1, x9_1, rfl, HA, HK1, HO_8, BK329, HB⟩ := hrel
      cases gk with
      | zero => exact absurd HA.out (by simp [antiquaryref09_Table.l0])
      | succ k1 =>
        have H := HA.out
        clear HA
        simp only [antiquaryref09_Table.l0] at H
        by_cases c7 : x9_1 < (l2.length : Int)
        · rw [if_pos c7] at H
          have c7b0 : decide (x9_1 < (l2.length : Int)) = true := decide_eq_true c7
          clear c7
          by_cases c8 : 0 ≤ x9_1
          · rw [if_pos c8] at H
            have c8b0 : decide (0 ≤ x9_1) = true := decide_eq_true c8
            clear c8
            replace H := Option.bind_eq_some_iff.mp H
            obtain ⟨t332, A90, H⟩ := H
            replace H : (if x8_1.length < 5864062014805 then (antiquaryref09_Table.l0 k1 a0 l1 l2 (x8_1 ++ [t332]) (wrap64 (x9_1 + 1))) else (none)) = some (r1, r2) := H
            have A9 := Aside0.mk A90
            clear A90
            by_cases c10 : x8_1.length < 5864062014805
            · rw [if_pos c10] at H
              have LMc10 := Aside0.mk c10
              clear c10
              obtain ⟨y335, hy335⟩ : ∃ y_ : List (List Int), y_ = (x8_1 ++ [t332]) := ⟨_, rfl⟩
              replace H : (antiquaryref09_Table.l0 k1 a0 l1 l2 y335 (wrap64 (x9_1 + 1))) = some (r1, r2) := by first | (rw [hy335]; with_reducible exact H) | (have H2_ := (Option.bind_some _ _).symm.trans H; rw [hy335]; with_reducible exact H2_) | (have H2_ := (Option.bind_some _ _).symm.trans H; with_reducible exact H2_) | with_reducible exact H | (rw [hy335]; exact H) | exact H
              have Ny335 := Aside0.mk hy335
              clear hy335
              have H' := Aside0.mk H
              clear H
              have p331 : 0 ≤ (x9_1 : Int) := of_decide_eq_true (by first | (with_reducible assumption) | assumption)
              have q331 : x9_1 < (l2.length : Int) := of_decide_eq_true (by first | (with_reducible assumption) | assumption)
              obtain ⟨ad331, A331_0, c331_0, e331, hx331_0, hl331_0, hi331_0⟩ := at_L1 HR2.out x9_1 p331 q331
              cases e331
              replace hx331_0 := (HB.out.cell (World.block_lt_of_cell? w _ hx331_0)).trans hx331_0
              have HR331_0 := Aside0.mk hi331_0
              have HC331_0 := Aside0.mk hl331_0
              clear hi331_0 hl331_0
              replace p331 := eq_true p331
              replace q331 := eq_true q331
              go_wp2_with (first | ((with_reducible refine gate_callee (f := 53) rfl ?_); refine goesL_ (some 30) rfl rfl Try.func53 (by kernel_rfl) rfl #[.int .i64 a0, .slice A1 l1.length c1, .slice A331_0 (rd_L1 l2 x9_1).length c331_0] rfl (by (try simp only [List.map_toArray, List.map_cons, List.map_nil]); first | done | rfl | (simp only [List.length_drop, List.length_take]; rfl)) ?_; (with_reducible refine (antiquaryref09_Keys.calls k1 a0 _ _ l1 _ _ (rd_L1 l2 x9_1) t332 _ ?side1 ?side2 ?side3 ?side4 A9.out).mono ?_); (case side1 => repeat (first | exact (Kd.C_below HR1.out HB.out) | (with_reducible refine Kd.C_alloc ?_ _) | (with_reducible refine Kd.C_drewN ?_ _) | (with_reducible refine Kd.C_drew ?_))); (case side2 => exact HC1.out); (case side3 => repeat (first | exact (Kd.C_below HR331_0.out HB.out) | (with_reducible refine Kd.C_alloc ?_ _) | (with_reducible refine Kd.C_drewN ?_ _) | (with_reducible refine Kd.C_drew ?_))); (case side4 => exact HC331_0.out); rintro e w11 ⟨v333, rfl, ho0, hb⟩; refine ⟨_, rfl, ?_⟩; have n0_ := Aside0.mk (Kd.S_elder' (by (with_reducible repeat (first | apply Kd.S_alloc | apply Kd.S_drewN | apply Kd.S_drew)); exact HO_8.out) (Kd.R_base ho0) hb); have n1_ := Aside0.mk (Kd.R_lower ho0 (below_size (by repeat (first | (with_reducible first | exact HB.out | apply below_alloc | apply pw_below_drewN | apply below_drew1 | refine below_set ?_ GE329.out) | exact HB.out)))); have n2_ := Aside0.mk (blk_below (g := gb329) (o := .cells #[.slice none 0 0, .int .i64 0] 43 (0, 0)) (by (with_reducible repeat (first | refine blk_drewN ?_ _ | refine blk_drew ?_ | refine blk_alloc ?_ _)); exact BK329.out) hb); have n3_ := Aside0.mk (below_step (by repeat (first | (with_reducible first | exact HB.out | apply below_alloc | apply pw_below_drewN | apply below_drew1 | refine below_set ?_ GE329.out) | exact HB.out)) hb); clear HO_8; clear BK329; clear HB; have HO_8 := n0_; have HO334 := n1_; have BK329 := n2_; have HB := n3_; clear n0_ n1_ n2_ n3_; (try clear hb); (try clear hb2); (try clear hk); (try clear hi); (try clear ho0); obtain ⟨Ao13, co13, eo13⟩ := Kd.R_slice HO334.out; subst eo13) | ((with_reducible refine gate_builtin (b := .append) (xs := #[.tmp 23, .tmp 31]) rfl ?_); at_builtin; refine Kd.S_append (Kd.slice 3 (Kd.int .i64)) (w0 := w) w.heap.size rfl (.tmp 23) (.tmp 31) 22 23 (.slice none 0 0) 24 rfl Try.underlying22 info23 rfl (by decide) (by omega) u8 x8_1 t332 [.slice Ao13 t332.length co13] (fun _ => True) (fun k_ => some k_ = (.slice Ao13 t332.length co13 : Value).ownBlock) rfl rfl ?aP (fun k_ hk_ => ((Kd.R_mono (ok' := fun k_ => ((fun _ => True)) k_ ∧ some k_ ≠ (u8 : Value).ownBlock) (Kd.R_apart' (HO334.out) (Kd.S_typed HO_8.out) (by decide)) (fun k_ hk => ⟨trivial, hk.2⟩))).1 k_ hk_.symm) ?aF ?aO ?aB ?aS ?aL ?_; (case aP => exact Kd.M_row (Kd.R_mono (Kd.R_tight rfl (Kd.R_mono (ok' := fun k_ => ((fun _ => True)) k_ ∧ some k_ ≠ (u8 : Value).ownBlock) (Kd.R_apart' (HO334.out) (Kd.S_typed HO_8.out) (by decide)) (fun k_ hk => ⟨trivial, hk.2⟩))) (fun _ h_ => h_))); (case aB => exact (by repeat (first | (with_reducible first | exact HB.out | apply below_alloc | apply pw_below_drewN | apply below_drew1 | refine below_set ?_ GE329.out) | exact HB.out))); (case aF => exact (fun _ _ => trivial)); (case aO => exact (by (with_reducible repeat (first | apply Kd.S_alloc | apply Kd.S_drewN | apply Kd.S_drew)); exact Kd.S_mono HO_8.out (fun k_ hk => ⟨trivial, fun e_ => hk.2 e_⟩))); (case aS => exact (below_size (by repeat (first | (with_reducible first | exact HB.out | apply below_alloc | apply pw_below_drewN | apply below_drew1 | refine below_set ?_ GE329.out) | exact HB.out)))); (case aL => have := LMc10.out; omega); intro v336 w12 ho hb hg hat; rw [← Ny335.out] at ho; have n0_ := Aside0.mk (blk_grown (g := gb329) (o := .cells #[.slice none 0 0, .int .i64 0] 43 (0, 0)) (by (with_reducible repeat (first | refine blk_drewN ?_ _ | refine blk_drew ?_ | refine blk_alloc ?_ _)); exact BK329.out) hg (Kd.S_ne HO_8.out BK329.out (by decide))); have n1_ := Aside0.mk (hb); have n2_ := Aside0.mk (ho); clear BK329; clear HB; clear HO_8; clear HO334; have BK329 := n0_; have HB := n1_; have HO337 := n2_; clear n0_ n1_ n2_; clear ho hb hg hat))
              go_roundg k1
              case measure => have := HK1.out; omega
              case rel => exact ⟨(y335), (wrap64 (x9_1 + 1)), (by first | rfl | (simp; done) | (simp [*]; done)), H', ⟨by have := HK1.out; omega⟩, ⟨by (with_reducible repeat (first | apply Kd.S_alloc | apply Kd.S_drewN | apply Kd.S_drew)); exact HO337.out⟩, ⟨by (with_reducible repeat (first | refine blk_drewN ?_ _ | refine blk_drew ?_ | refine blk_alloc ?_ _)); exact BK329.out⟩, ⟨by repeat (first | (with_reducible first | exact HB.out | apply below_alloc | apply pw_below_drewN | apply below_drew1 | refine below_set ?_ GE329.out) | exact HB.out)⟩⟩
            · rw [if_neg c10] at H
              exact absurd H (by simp)
          · rw [if_neg c8] at H
            exact absurd H (by simp)
        · rw [if_neg c7] at H
          have c7b0 : decide (x9_1 < (l2.length : Int)) = false := decide_eq_false c7
          clear c7
          simp only [Option.some.injEq, Prod.mk.injEq] at H
          obtain ⟨rfl, rfl⟩ := H
          obtain ⟨Ao14, co14, eo14⟩ := Kd.S_slice HO_8.out
          subst eo14
          have hcz15_0 : wr.cell? ⟨gb329, 0, none⟩ = some (.slice none 0 0) := (blk_cell BK329.out 0).trans rfl
          have hcz15_1 : wr.cell? ⟨gb329, 1, none⟩ = some (.int .i64 0) := (blk_cell BK329.out 1).trans rfl
          have hfz15_0 := blk_frozen BK329.out 0
          have hfz15_1 := blk_frozen BK329.out 1
          go_wp2
          refine bodyPost_ret (results_cell_row rfl _ _ gb329 43 #[.slice Ao14 x8_1.length co14, .int .i64 0] (0, 0) _ rfl (by (with_reducible repeat (first | refine blk_drewN ?_ _ | refine blk_drew ?_ | refine blk_alloc ?_ _)); refine blk_put (cs := #[.slice Ao14 x8_1.length co14, .int .i64 0]) ?_ 1 _ rfl; (with_reducible repeat (first | refine blk_drewN ?_ _ | refine blk_drew ?_ | refine blk_alloc ?_ _)); refine blk_put (cs := #[.slice none 0 0, .int .i64 0]) ?_ 0 _ rfl; (with_reducible repeat (first | refine blk_drewN ?_ _ | refine blk_drew ?_ | refine blk_alloc ?_ _)); exact BK329.out) Try.underlying43 rfl (by kernel_rfl)) rfl ?_
          exact ⟨_, by first | rfl | (simp [errW_none, errW_some] <;> rfl) | (simp [*, errW_none, errW_some] <;> rfl), by (with_reducible repeat (first | apply Kd.S_alloc | apply Kd.S_drewN | apply Kd.S_drew)); exact Kd.S_mono (Kd.S_far (p := ⟨gb329, 1, none⟩) (Kd.S_far (p := ⟨gb329, 0, none⟩) (Kd.S_types HO_8.out BK329.out (by decide)) (fun _ hk => hk.2) (.slice Ao14 x8_1.length co14)) (fun _ hk => hk.2) (.int .i64 0)) (fun _ hk => trivial), by repeat (first | (with_reducible first | exact HB.out | apply below_alloc | apply pw_below_drewN | apply below_drew1 | refine below_set ?_ GE329.out) | exact HB.out)⟩
  · replace c5 := Bool.eq_false_iff.mpr c5
    subst c5
    have H1 : (some (([] : List (List Int)), 1)) = some (r1, r2) := by rw [if_neg (show ¬ (false = true) by decide)] at H; exact H
    clear H
    have H := H1
    clear H1
    simp only [Option.some.injEq, Prod.mk.injEq] at H
    obtain ⟨rfl, rfl⟩ := H
    go_enter Try.func18, Try.ntmps18
    go_wp2_with (first | ((with_reducible refine gate_dst (N := 6) rfl ?_); refine box_event ?hg (N := 6) ?hd (cs := #[.slice none 0 0, .int .i64 0]) (t := 43) ?hr ?_; (case hd => rfl); (case hg => rfl); (case hr => first | (go_simp; done) | (go_simp; rfl)); intro gb329 hg w16 hbox hb; have n0_ := Aside0.mk (below_step (by repeat (first | (with_reducible first | exact HB.out | apply below_alloc | apply pw_below_drewN | apply below_drew1) | exact HB.out)) hb); have n1_ := Aside0.mk (hbox); have n2_ := Aside0.mk ((by rw [hg]; exact (below_size (by repeat (first | (with_reducible first | exact HB.out | apply below_alloc | apply pw_below_drewN | apply below_drew1) | exact HB.out))) : w.heap.size ≤ gb329)); have n3_ := Aside0.mk ((by rw [hg]; exact (below_size (by repeat (first | (with_reducible first | exact HB.out | apply below_alloc | apply pw_below_drewN | apply below_drew1) | exact HB.out))) : w.heap.size ≤ gb329)); clear HB; have HB := n0_; have BK329 := n1_; have GW329 := n2_; have GE329 := n3_; clear n0_ n1_ n2_ n3_; clear hb hbox hg) | ((with_reducible refine gate_callee (f := 21) rfl ?_); refine goesL_ (some 13) rfl rfl Try.func21 (by kernel_rfl) rfl #[.int .i64 a0, .slice A1 l1.length c1, .slice A2 l2.length c2] rfl (by (try simp only [List.map_toArray, List.map_cons, List.map_nil]); first | done | rfl | (simp only [List.length_drop, List.length_take]; rfl)) ?_; (with_reducible refine (antiquaryref09_Both.calls k a0 _ _ l1 _ _ l2 false _ ?side1 ?side2 ?side3 ?side4 A4.out).mono ?_); (case side1 => repeat (first | exact (Kd.C_below HR1.out HB.out) | (with_reducible refine Kd.C_alloc ?_ _) | (with_reducible refine Kd.C_drewN ?_ _) | (with_reducible refine Kd.C_drew ?_))); (case side2 => exact HC1.out); (case side3 => repeat (first | exact (Kd.C_below HR2.out HB.out) | (with_reducible refine Kd.C_alloc ?_ _) | (with_reducible refine Kd.C_drewN ?_ _) | (with_reducible refine Kd.C_drew ?_))); (case side4 => exact HC2.out); rintro e w' ⟨rfl, ⟨nd, rfl⟩⟩; refine ⟨_, rfl, ?_⟩; (try (rw [drewN_self w16]; generalize hq_ : World.drewN w16 _ = w16; have n0_ : Aside0 (w16.heap[gb329]? = some (.cells #[.slice none 0 0, .int .i64 0] 43 (0, 0))) := ⟨by rw [← hq_]; exact (by (with_reducible repeat (first | refine blk_drewN ?_ _ | refine blk_drew ?_ | refine blk_alloc ?_ _)); exact BK329.out)⟩; have n1_ : Aside0 (Below w.heap.size w w16) := ⟨by rw [← hq_]; exact (by repeat (first | (with_reducible first | exact HB.out | apply below_alloc | apply pw_below_drewN | apply below_drew1 | refine below_set ?_ GE329.out) | exact HB.out))⟩; clear BK329 HB hq_; have BK329 := n0_; have HB := n1_; clear n0_ n1_)); have hcz17_0 : w16.cell? ⟨gb329, 0, none⟩ = some (.slice none 0 0) := (blk_cell BK329.out 0).trans rfl; have hcz17_1 : w16.cell? ⟨gb329, 1, none⟩ = some (.int .i64 0) := (blk_cell BK329.out 1).trans rfl; have hfz17_0 := blk_frozen BK329.out 0; have hfz17_1 := blk_frozen BK329.out 1))
    refine bodyPost_ret (results_cell_row rfl _ _ gb329 43 #[.slice none 0 0, .int .i64 1] (0, 0) _ rfl (by (with_reducible repeat (first | refine blk_drewN ?_ _ | refine blk_drew ?_ | refine blk_alloc ?_ _)); refine blk_put (cs := #[.slice none 0 0, .int .i64 0]) ?_ 1 _ rfl; (with_reducible repeat (first | refine blk_drewN ?_ _ | refine blk_drew ?_ | refine blk_alloc ?_ _)); refine blk_put (cs := #[.slice none 0 0, .int .i64 0]) ?_ 0 _ rfl; (with_reducible repeat (first | refine blk_drewN ?_ _ | refine blk_drew ?_ | refine blk_alloc ?_ _)); exact BK329.out) Try.underlying43 rfl (by kernel_rfl)) rfl ?_
    exact ⟨_, by first | rfl | (simp [errW_none, errW_some] <;> rfl) | (simp [*, errW_none, errW_some] <;> rfl), by first | exact Kd.S_nil _ _ _ _ _ | exact Kd.N_nil _ _ _ _ _ | exact Kd.V_nil _ _ _ _ _ | exact Kd.Q_nil _ _ _ _ _ | exact Kd.R_nil _ _ _ _ _, by repeat (first | (with_reducible first | exact HB.out | apply below_alloc | apply pw_below_drewN | apply below_drew1 | refine below_set ?_ GE329.out) | exact HB.out)⟩
def antiquaryref09_SameRows.l0 : Nat → List (List Int) → List (List Int) → Int → Option (Bool)
  | 0, _, _, _ => none
  | k + 1, x0, x1, x5 => if x5 < (x0.length : Int) then (if 0 ≤ x5 then (if x5 < (x1.length : Int) then ((antiquaryref09_Same.f k (rd_L1 x0 x5) (rd_L1 x1 x5)).bind fun t340 => (if t340 = true then (antiquaryref09_SameRows.l0 k x0 x1 (wrap64 (x5 + 1))) else (some false))) else (none)) else (none)) else (some true)
def antiquaryref09_SameRows.f (k : Nat) (l0 : List (List Int)) (l1 : List (List Int)) : Option (Bool) := if (l0.length : Int) = (l1.length : Int) then (antiquaryref09_SameRows.l0 k l0 l1 0) else (some false)
set_option maxHeartbeats 8000000 in
set_option maxRecDepth 100000 in
theorem antiquaryref09_SameRows.calls (k : Nat) (A0 : Option Addr) (c0 : Nat) (l0 : List (List Int)) (A1 : Option Addr) (c1 : Nat) (l1 : List (List Int)) (r : Bool) (w : World) (hr0 : Kd.C (Kd.slice 3 (Kd.int .i64)) w A0 l0.length l0) (hc0 : l0.length ≤ c0) (hr1 : Kd.C (Kd.slice 3 (Kd.int .i64)) w A1 l1.length l1) (hc1 : l1.length ≤ c1) (h : antiquaryref09_SameRows.f k l0 l1 = some r) :
    Calls Try.prog 20 #[.slice A0 l0.length c0, .slice A1 l1.length c1] w fun e w' => e = .returned (.bool r) ∧ Drawn0 w w' := by
  have HR0 := Aside0.mk hr0
  have HC0 := Aside0.mk hc0
  clear hr0 hc0
  have HR1 := Aside0.mk hr1
  have HC1 := Aside0.mk hc1
  clear hr1 hc1
  have H : (if (l0.length : Int) = (l1.length : Int) then (antiquaryref09_SameRows.l0 k l0 l1 0) else (some false)) = some r := h
  clear h
  by_cases c3 : (l0.length : Int) = (l1.length : Int)
  · rw [if_pos c3] at H
    have c3b0 : ((l0.length : Int) == (l1.length : Int)) = true := beq_iff_eq.mpr c3
    have c3b1 : ((l0.length : Int) != (l1.length : Int)) = false := bne_eq_false_iff_eq.mpr c3
    have c3b2 : (l0.length == l1.length) = true := by first | simpa using c3 | (simp at c3 ⊢; omega)
    clear c3
    have H' := Aside0.mk H
    clear H
    go_enter Try.func20, Try.ntmps20
    go_wp2
    repeat (go_quiet (fail); try go_wp2)
    go_loopg [5] k (fun kq v5 w' => ∃ (x5_1 : Int), v5 = .int .i64 x5_1 ∧ Aside0 (antiquaryref09_SameRows.l0 kq l0 l1 x5_1 = some r) ∧ Aside0 (kq ≤ k) ∧ Drawn0 w w')
    case atStart => exact ⟨(0), (by first | rfl | (simp; done) | (simp [*]; done)), H', ⟨Nat.le_refl _⟩, by repeat (first | exact Drawn0.refl _ | apply Drawn0.step)⟩
    case round =>
      clear H'
      try clear c1
      try clear c2
      try clear p2
      try clear c3
      try clear c3b0
      try clear c3b1
      try clear c3b2
      obtain ⟨x5_1, rfl, HA, HK1, ⟨m1, rfl⟩⟩ := hrel
      cases gk with
      | zero => exact absurd HA.out (by simp [antiquaryref09_SameRows.l0])
      | succ k1 =>
        have H := HA.out
        clear HA
        simp only [antiquaryref09_SameRows.l0] at H
        by_cases c4 : x5_1 < (l0.length : Int)
        · rw [if_pos c4] at H
          have c4b0 : decide (x5_1 < (l0.length : Int)) = true := decide_eq_true c4
          clear c4
          by_cases c5 : 0 ≤ x5_1
          · rw [if_pos c5] at H
            have c5b0 : decide (0 ≤ x5_1) = true := decide_eq_true c5
            clear c5
            by_cases c6 : x5_1 < (l1.length : Int)
            · rw [if_pos c6] at H
              have c6b0 : decide (x5_1 < (l1.length : Int)) = true := decide_eq_true c6
              clear c6
              replace H := Option.bind_eq_some_iff.mp H
              obtain ⟨t340, A70, H⟩ := H
              replace H : (if t340 = true then (antiquaryref09_SameRows.l0 k1 l0 l1 (wrap64 (x5_1 + 1))) else (some false)) = some r := H
              have A7 := Aside0.mk A70
              clear A70
              by_cases c8 : t340 = true
              · subst c8
                have H1 : (antiquaryref09_SameRows.l0 k1 l0 l1 (wrap64 (x5_1 + 1))) = some r := by rw [if_pos rfl] at H; exact H
                clear H
                have H := H1
                clear H1
                have H' := Aside0.mk H
                clear H
                have p338 : 0 ≤ (x5_1 : Int) := of_decide_eq_true (by first | (with_reducible assumption) | assumption)
                have q338 : x5_1 < (l0.length : Int) := of_decide_eq_true (by first | (with_reducible assumption) | assumption)
                obtain ⟨ad338, A338_0, c338_0, e338, hx338_0, hl338_0, hi338_0⟩ := at_L1 HR0.out x5_1 p338 q338
                cases e338
                have HR338_0 := Aside0.mk hi338_0
                have HC338_0 := Aside0.mk hl338_0
                clear hi338_0 hl338_0
                replace p338 := eq_true p338
                replace q338 := eq_true q338
                have p339 : 0 ≤ (x5_1 : Int) := of_decide_eq_true (by first | (with_reducible assumption) | assumption)
                have q339 : x5_1 < (l1.length : Int) := of_decide_eq_true (by first | (with_reducible assumption) | assumption)
                obtain ⟨ad339, A339_0, c339_0, e339, hx339_0, hl339_0, hi339_0⟩ := at_L1 HR1.out x5_1 p339 q339
                cases e339
                have HR339_0 := Aside0.mk hi339_0
                have HC339_0 := Aside0.mk hl339_0
                clear hi339_0 hl339_0
                replace p339 := eq_true p339
                replace q339 := eq_true q339
                go_wp2_with (first | (go_at_call 19; (with_reducible refine (antiquaryref09_Same.calls k1 _ _ (rd_L1 l0 x5_1) _ _ (rd_L1 l1 x5_1) true _ ?side1 ?side2 ?side3 ?side4 A7.out).mono ?_); (case side1 => repeat (first | exact HR338_0.out | (with_reducible refine Kd.C_alloc ?_ _) | (with_reducible refine Kd.C_drewN ?_ _) | (with_reducible refine Kd.C_drew ?_))); (case side2 => exact HC338_0.out); (case side3 => repeat (first | exact HR339_0.out | (with_reducible refine Kd.C_alloc ?_ _) | (with_reducible refine Kd.C_drewN ?_ _) | (with_reducible refine Kd.C_drew ?_))); (case side4 => exact HC339_0.out); rintro e w' ⟨rfl, ⟨nd, rfl⟩⟩; (try first | exact ⟨rfl, _, World.drewN_drewN _ _ _⟩ | exact ⟨rfl, _, Eq.trans (World.drewN_drewN _ _ _) (congrArg (World.drewN _) (Nat.add_assoc _ _ _))⟩)))
                repeat (go_quiet (first | (go_at_call 19; (with_reducible refine (antiquaryref09_Same.calls k1 _ _ (rd_L1 l0 x5_1) _ _ (rd_L1 l1 x5_1) true _ ?side1 ?side2 ?side3 ?side4 A7.out).mono ?_); (case side1 => repeat (first | exact HR338_0.out | (with_reducible refine Kd.C_alloc ?_ _) | (with_reducible refine Kd.C_drewN ?_ _) | (with_reducible refine Kd.C_drew ?_))); (case side2 => exact HC338_0.out); (case side3 => repeat (first | exact HR339_0.out | (with_reducible refine Kd.C_alloc ?_ _) | (with_reducible refine Kd.C_drewN ?_ _) | (with_reducible refine Kd.C_drew ?_))); (case side4 => exact HC339_0.out); rintro e w' ⟨rfl, ⟨nd, rfl⟩⟩; (try first | exact ⟨rfl, _, World.drewN_drewN _ _ _⟩ | exact ⟨rfl, _, Eq.trans (World.drewN_drewN _ _ _) (congrArg (World.drewN _) (Nat.add_assoc _ _ _))⟩))); try go_wp2_with (first | (go_at_call 19; (with_reducible refine (antiquaryref09_Same.calls k1 _ _ (rd_L1 l0 x5_1) _ _ (rd_L1 l1 x5_1) true _ ?side1 ?side2 ?side3 ?side4 A7.out).mono ?_); (case side1 => repeat (first | exact HR338_0.out | (with_reducible refine Kd.C_alloc ?_ _) | (with_reducible refine Kd.C_drewN ?_ _) | (with_reducible refine Kd.C_drew ?_))); (case side2 => exact HC338_0.out); (case side3 => repeat (first | exact HR339_0.out | (with_reducible refine Kd.C_alloc ?_ _) | (with_reducible refine Kd.C_drewN ?_ _) | (with_reducible refine Kd.C_drew ?_))); (case side4 => exact HC339_0.out); rintro e w' ⟨rfl, ⟨nd, rfl⟩⟩; (try first | exact ⟨rfl, _, World.drewN_drewN _ _ _⟩ | exact ⟨rfl, _, Eq.trans (World.drewN_drewN _ _ _) (congrArg (World.drewN _) (Nat.add_assoc _ _ _))⟩))))
                go_roundg k1
                case measure => have := HK1.out; omega
                case rel => exact ⟨(wrap64 (x5_1 + 1)), (by first | rfl | (simp; done) | (simp [*]; done)), H', ⟨by have := HK1.out; omega⟩, by repeat (first | exact Drawn0.refl _ | apply Drawn0.step)⟩
              · replace c8 := Bool.eq_false_iff.mpr c8
                subst c8
                have H1 : (some false) = some r := by rw [if_neg (show ¬ (false = true) by decide)] at H; exact H
                clear H
                have H := H1
                clear H1
                obtain rfl := Option.some.inj H
                have p338 : 0 ≤ (x5_1 : Int) := of_decide_eq_true (by first | (with_reducible assumption) | assumption)
                have q338 : x5_1 < (l0.length : Int) := of_decide_eq_true (by first | (with_reducible assumption) | assumption)
                obtain ⟨ad338, A338_0, c338_0, e338, hx338_0, hl338_0, hi338_0⟩ := at_L1 HR0.out x5_1 p338 q338
                cases e338
                have HR338_0 := Aside0.mk hi338_0
                have HC338_0 := Aside0.mk hl338_0
                clear hi338_0 hl338_0
                replace p338 := eq_true p338
                replace q338 := eq_true q338
                have p339 : 0 ≤ (x5_1 : Int) := of_decide_eq_true (by first | (with_reducible assumption) | assumption)
                have q339 : x5_1 < (l1.length : Int) := of_decide_eq_true (by first | (with_reducible assumption) | assumption)
                obtain ⟨ad339, A339_0, c339_0, e339, hx339_0, hl339_0, hi339_0⟩ := at_L1 HR1.out x5_1 p339 q339
                cases e339
                have HR339_0 := Aside0.mk hi339_0
                have HC339_0 := Aside0.mk hl339_0
                clear hi339_0 hl339_0
                replace p339 := eq_true p339
                replace q339 := eq_true q339
                go_wp2_with (first | (go_at_call 19; (with_reducible refine (antiquaryref09_Same.calls k1 _ _ (rd_L1 l0 x5_1) _ _ (rd_L1 l1 x5_1) false _ ?side1 ?side2 ?side3 ?side4 A7.out).mono ?_); (case side1 => repeat (first | exact HR338_0.out | (with_reducible refine Kd.C_alloc ?_ _) | (with_reducible refine Kd.C_drewN ?_ _) | (with_reducible refine Kd.C_drew ?_))); (case side2 => exact HC338_0.out); (case side3 => repeat (first | exact HR339_0.out | (with_reducible refine Kd.C_alloc ?_ _) | (with_reducible refine Kd.C_drewN ?_ _) | (with_reducible refine Kd.C_drew ?_))); (case side4 => exact HC339_0.out); rintro e w' ⟨rfl, ⟨nd, rfl⟩⟩; (try first | exact ⟨rfl, _, World.drewN_drewN _ _ _⟩ | exact ⟨rfl, _, Eq.trans (World.drewN_drewN _ _ _) (congrArg (World.drewN _) (Nat.add_assoc _ _ _))⟩)))
                repeat (go_quiet (first | (go_at_call 19; (with_reducible refine (antiquaryref09_Same.calls k1 _ _ (rd_L1 l0 x5_1) _ _ (rd_L1 l1 x5_1) false _ ?side1 ?side2 ?side3 ?side4 A7.out).mono ?_); (case side1 => repeat (first | exact HR338_0.out | (with_reducible refine Kd.C_alloc ?_ _) | (with_reducible refine Kd.C_drewN ?_ _) | (with_reducible refine Kd.C_drew ?_))); (case side2 => exact HC338_0.out); (case side3 => repeat (first | exact HR339_0.out | (with_reducible refine Kd.C_alloc ?_ _) | (with_reducible refine Kd.C_drewN ?_ _) | (with_reducible refine Kd.C_drew ?_))); (case side4 => exact HC339_0.out); rintro e w' ⟨rfl, ⟨nd, rfl⟩⟩; (try first | exact ⟨rfl, _, World.drewN_drewN _ _ _⟩ | exact ⟨rfl, _, Eq.trans (World.drewN_drewN _ _ _) (congrArg (World.drewN _) (Nat.add_assoc _ _ _))⟩))); try go_wp2_with (first | (go_at_call 19; (with_reducible refine (antiquaryref09_Same.calls k1 _ _ (rd_L1 l0 x5_1) _ _ (rd_L1 l1 x5_1) false _ ?side1 ?side2 ?side3 ?side4 A7.out).mono ?_); (case side1 => repeat (first | exact HR338_0.out | (with_reducible refine Kd.C_alloc ?_ _) | (with_reducible refine Kd.C_drewN ?_ _) | (with_reducible refine Kd.C_drew ?_))); (case side2 => exact HC338_0.out); (case side3 => repeat (first | exact HR339_0.out | (with_reducible refine Kd.C_alloc ?_ _) | (with_reducible refine Kd.C_drewN ?_ _) | (with_reducible refine Kd.C_drew ?_))); (case side4 => exact HC339_0.out); rintro e w' ⟨rfl, ⟨nd, rfl⟩⟩; (try first | exact ⟨rfl, _, World.drewN_drewN _ _ _⟩ | exact ⟨rfl, _, Eq.trans (World.drewN_drewN _ _ _) (congrArg (World.drewN _) (Nat.add_assoc _ _ _))⟩))))
                go_ret
                exact ⟨by first | rfl | (simp; done) | (simp [*]; done), by repeat (first | exact Drawn0.refl _ | apply Drawn0.step)⟩
            · rw [if_neg c6] at H
              exact absurd H (by simp)
          · rw [if_neg c5] at H
            exact absurd H (by simp)
        · rw [if_neg c4] at H
          have c4b0 : decide (x5_1 < (l0.length : Int)) = false := decide_eq_false c4
          clear c4
          obtain rfl := Option.some.inj H
          go_wp2
          repeat (go_quiet (fail); try go_wp2)
          go_ret
          exact ⟨by first | rfl | (simp; done) | (simp [*]; done), by repeat (first | exact Drawn0.refl _ | apply Drawn0.step)⟩
  · rw [if_neg c3] at H
    have c3b0 : ((l0.length : Int) == (l1.length : Int)) = false := beq_eq_false_iff_ne.mpr c3
    have c3b1 : ((l0.length : Int) != (l1.length : Int)) = true := bne_iff_ne.mpr c3
    have c3b2 : (l0.length == l1.length) = false := by first | simpa using c3 | (simp at c3 ⊢; omega)
    obtain rfl := Option.some.inj H
    go_enter Try.func20, Try.ntmps20
    go_wp2
    repeat (go_quiet (fail); try go_wp2)
    go_ret
    exact ⟨by first | rfl | (simp; done) | (simp [*]; done), by repeat (first | exact Drawn0.refl _ | apply Drawn0.step)⟩
end Go.Proofs.Ytoidpkpgeeeggaa.Q
end
section
namespace Go.Proofs.Ytoidpkpgeeeggaa.Q
open Go.RowKit Go.Proofs.YtoidpkpgeeeggaaW.PrintWords Go.Proofs.YtoidpkpgeeeggaaW.PrintLast Go.Proofs.YtoidpkpgeeeggaaW.PrintMore
attribute [local go_sem] max2_int min2_int max_two min_two max_three min_three max_four min_four   -- for this text's walks alone
set_option linter.unusedVariables false
set_option linter.unusedSimpArgs false
def antiquarylaw09_PivotChoosesAsSpecified.j0 : Nat → Int → List (List Int) → List (List Int) → List Int → Int → Bool → Option (Bool)
  | 0, _, _, _, _, _, _ => none
  | k + 1, x0, x1, x2, x3, x4, x36 => if x36 = true then ((antiquarylaw09_sanity.f k).bind fun t343 => (some t343)) else ((pivot_Choose.f x0 x2 x4).bind fun bt344 => ((pivot_Nearest.f k x0 x1 x3).bind fun bt348 => ((pivot_Cover.f k x0 x1 x2).bind fun bt351 => ((pivot_Table.f k x0 x1 x2).bind fun bt353 => ((antiquaryref09_Choose.f x0 x2 x4).bind fun bt357 => ((antiquaryref09_Nearest.f k x0 x1 x3).bind fun bt362 => ((antiquaryref09_Cover.f k x0 x1 x2).bind fun bt366 => ((antiquaryref09_Table.f k x0 x1 x2).bind fun bt370 => ((antiquarylaw09_sanity.f k).bind fun t375 => (if t375 = true then ((antiquaryref09_Same.f k bt344.1 bt357.1).bind fun t376 => (if t376 = true then (if bt344.2 = bt357.2 then (if bt348.1 = bt362.1 then (if bt348.2.1 = bt362.2.1 then (if bt348.2.2 = bt362.2.2 then (if bt351.1 = bt366.2.1 then (if bt351.2 = bt366.2.2 then ((antiquaryref09_SameRows.f k bt353.1 bt370.1).bind fun t377 => (if t377 = true then (some (bt353.2 == bt370.2)) else (some false))) else (some false)) else (some false)) else (some false)) else (some false)) else (some false)) else (some false)) else (some false))) else (some false)))))))))))
def antiquarylaw09_PivotChoosesAsSpecified.f (k : Nat) (a0 : Int) (l1 : List (List Int)) (l2 : List (List Int)) (l3 : List Int) (a4 : Int) : Option (Bool) := (antiquaryref09_Few.f k l1 10).bind fun t341 => (if t341 = true then ((antiquaryref09_Few.f k l2 30).bind fun t342 => (if t342 = true then (antiquarylaw09_PivotChoosesAsSpecified.j0 k a0 l1 l2 l3 a4 (decide ((l3.length : Int) > 40))) else (antiquarylaw09_PivotChoosesAsSpecified.j0 k a0 l1 l2 l3 a4 true))) else (antiquarylaw09_PivotChoosesAsSpecified.j0 k a0 l1 l2 l3 a4 true))
set_option maxHeartbeats 8000000 in
set_option maxRecDepth 100000 in
theorem antiquarylaw09_PivotChoosesAsSpecified.calls (k : Nat) (a0 : Int) (A1 : Option Addr) (c1 : Nat) (l1 : List (List Int)) (A2 : Option Addr) (c2 : Nat) (l2 : List (List Int)) (A3 : Option Addr) (c3 : Nat) (l3 : List Int) (a4 : Int) (r : Bool) (w : World) (hr1 : Kd.C (Kd.slice 3 (Kd.int .i64)) w A1 l1.length l1) (hc1 : l1.length ≤ c1) (hr2 : Kd.C (Kd.slice 3 (Kd.int .i64)) w A2 l2.length l2) (hc2 : l2.length ≤ c2) (hr3 : Kd.C (Kd.int .i64) w A3 l3.length l3) (hc3 : l3.length ≤ c3) (h : antiquarylaw09_PivotChoosesAsSpecified.f k a0 l1 l2 l3 a4 = some r) (hT : r = true) :
    Calls Try.prog 3 #[.int .i64 a0, .slice A1 l1.length c1, .slice A2 l2.length c2, .slice A3 l3.length c3, .int .i64 a4] w fun e w' => e = .returned (.bool r) ∧ Below w.heap.size w w' := by
  have HT := Aside0.mk hT
  clear hT
  have hu36 := Try.underlying36
  have hu39 := Try.underlying39
  have hu43 := Try.underlying43
  have HR1 := Aside0.mk hr1
  have HC1 := Aside0.mk hc1
  clear hr1 hc1
  have HR2 := Aside0.mk hr2
  have HC2 := Aside0.mk hc2
  clear hr2 hc2
  have HR3 := Aside0.mk hr3
  have HC3 := Aside0.mk hc3
  clear hr3 hc3
  have HB := Aside0.mk (Below.refl w.heap.size w)
  have H : ((antiquaryref09_Few.f k l1 10).bind fun t341 => (if t341 = true then ((antiquaryref09_Few.f k l2 30).bind fun t342 => (if t342 = true then (antiquarylaw09_PivotChoosesAsSpecified.j0 k a0 l1 l2 l3 a4 (decide ((l3.length : Int) > 40))) else (antiquarylaw09_PivotChoosesAsSpecified.j0 k a0 l1 l2 l3 a4 true))) else (antiquarylaw09_PivotChoosesAsSpecified.j0 k a0 l1 l2 l3 a4 true))) = some r := h
  clear h
  have HC6 := Aside0.mk H
  clear H
  go_enter Try.func3, Try.ntmps3
  go_upto_region 1 with (fail)
  go_cut [36] (fun v36 wc => ∃ (kq : Nat) (x36_5 : Bool), v36 = .bool x36_5 ∧ Aside0 (antiquarylaw09_PivotChoosesAsSpecified.j0 kq a0 l1 l2 l3 a4 x36_5 = some r) ∧ Aside0 (kq ≤ k) ∧ Aside0 (Below w.heap.size w wc))
  case first =>
    have H := HC6.out
    clear HC6
    replace H := Option.bind_eq_some_iff.mp H
    obtain ⟨t341, A70, H⟩ := H
    replace H : (if t341 = true then ((antiquaryref09_Few.f k l2 30).bind fun t342 => (if t342 = true then (antiquarylaw09_PivotChoosesAsSpecified.j0 k a0 l1 l2 l3 a4 (decide ((l3.length : Int) > 40))) else (antiquarylaw09_PivotChoosesAsSpecified.j0 k a0 l1 l2 l3 a4 true))) else (antiquarylaw09_PivotChoosesAsSpecified.j0 k a0 l1 l2 l3 a4 true)) = some r := H
    have A7 := Aside0.mk A70
    clear A70
    by_cases c8 : t341 = true
    · subst c8
      have H1 : ((antiquaryref09_Few.f k l2 30).bind fun t342 => (if t342 = true then (antiquarylaw09_PivotChoosesAsSpecified.j0 k a0 l1 l2 l3 a4 (decide ((l3.length : Int) > 40))) else (antiquarylaw09_PivotChoosesAsSpecified.j0 k a0 l1 l2 l3 a4 true))) = some r := by rw [if_pos rfl] at H; exact H
      clear H
      have H := H1
      clear H1
      replace H := Option.bind_eq_some_iff.mp H
      obtain ⟨t342, A90, H⟩ := H
      replace H : (if t342 = true then (antiquarylaw09_PivotChoosesAsSpecified.j0 k a0 l1 l2 l3 a4 (decide ((l3.length : Int) > 40))) else (antiquarylaw09_PivotChoosesAsSpecified.j0 k a0 l1 l2 l3 a4 true)) = some r := H
      have A9 := Aside0.mk A90
      clear A90
      by_cases c10 : t342 = true
      · subst c10
        have H1 : (antiquarylaw09_PivotChoosesAsSpecified.j0 k a0 l1 l2 l3 a4 (decide ((l3.length : Int) > 40))) = some r := by rw [if_pos rfl] at H; exact H
        clear H
        have H := H1
        clear H1
        have H' := Aside0.mk H
        clear H
        go_wp2_with (first | ((with_reducible refine gate_callee (f := 9) rfl ?_); refine goesL_ (some 25) rfl rfl Try.func9 (by kernel_rfl) rfl #[.slice A1 l1.length c1, .int .i64 10] rfl (by (try simp only [List.map_toArray, List.map_cons, List.map_nil]); first | done | rfl | (simp only [List.length_drop, List.length_take]; rfl)) ?_; (with_reducible refine (antiquaryref09_Few.calls k _ _ l1 10 true _ ?side1 ?side2 A7.out).mono ?_); (case side1 => repeat (first | exact (Kd.C_below HR1.out HB.out) | (with_reducible refine Kd.C_alloc ?_ _) | (with_reducible refine Kd.C_drewN ?_ _) | (with_reducible refine Kd.C_drew ?_))); (case side2 => exact HC1.out); rintro e w' ⟨rfl, ⟨nd, rfl⟩⟩; refine ⟨_, rfl, ?_⟩) | (go_at_call 9; (with_reducible refine (antiquaryref09_Few.calls k _ _ l2 30 true _ ?side1 ?side2 A9.out).mono ?_); (case side1 => repeat (first | exact (Kd.C_below HR2.out (by repeat (first | (with_reducible first | exact HB.out | apply below_alloc | apply pw_below_drewN | apply below_drew1) | exact HB.out))) | (with_reducible refine Kd.C_alloc ?_ _) | (with_reducible refine Kd.C_drewN ?_ _) | (with_reducible refine Kd.C_drew ?_))); (case side2 => exact HC2.out); rintro e w' ⟨rfl, ⟨nd, rfl⟩⟩))
        go_meet
        case rel => exact ⟨_, (decide ((l3.length : Int) > 40)), (by first | rfl | (simp; done) | (simp [*]; done)), H', ⟨by first | omega | exact Nat.le_refl _⟩, ⟨by repeat (first | (with_reducible first | exact HB.out | apply below_alloc | apply pw_below_drewN | apply below_drew1) | exact HB.out)⟩⟩
      · replace c10 := Bool.eq_false_iff.mpr c10
        subst c10
        have H1 : (antiquarylaw09_PivotChoosesAsSpecified.j0 k a0 l1 l2 l3 a4 true) = some r := by rw [if_neg (show ¬ (false = true) by decide)] at H; exact H
        clear H
        have H := H1
        clear H1
        have H' := Aside0.mk H
        clear H
        go_wp2_with (first | ((with_reducible refine gate_callee (f := 9) rfl ?_); refine goesL_ (some 25) rfl rfl Try.func9 (by kernel_rfl) rfl #[.slice A1 l1.length c1, .int .i64 10] rfl (by (try simp only [List.map_toArray, List.map_cons, List.map_nil]); first | done | rfl | (simp only [List.length_drop, List.length_take]; rfl)) ?_; (with_reducible refine (antiquaryref09_Few.calls k _ _ l1 10 true _ ?side1 ?side2 A7.out).mono ?_); (case side1 => repeat (first | exact (Kd.C_below HR1.out HB.out) | (with_reducible refine Kd.C_alloc ?_ _) | (with_reducible refine Kd.C_drewN ?_ _) | (with_reducible refine Kd.C_drew ?_))); (case side2 => exact HC1.out); rintro e w' ⟨rfl, ⟨nd, rfl⟩⟩; refine ⟨_, rfl, ?_⟩) | (go_at_call 9; (with_reducible refine (antiquaryref09_Few.calls k _ _ l2 30 false _ ?side1 ?side2 A9.out).mono ?_); (case side1 => repeat (first | exact (Kd.C_below HR2.out (by repeat (first | (with_reducible first | exact HB.out | apply below_alloc | apply pw_below_drewN | apply below_drew1) | exact HB.out))) | (with_reducible refine Kd.C_alloc ?_ _) | (with_reducible refine Kd.C_drewN ?_ _) | (with_reducible refine Kd.C_drew ?_))); (case side2 => exact HC2.out); rintro e w' ⟨rfl, ⟨nd, rfl⟩⟩))
        go_meet
        case rel => exact ⟨_, (true), (by first | rfl | (simp; done) | (simp [*]; done)), H', ⟨by first | omega | exact Nat.le_refl _⟩, ⟨by repeat (first | (with_reducible first | exact HB.out | apply below_alloc | apply pw_below_drewN | apply below_drew1) | exact HB.out)⟩⟩
    · replace c8 := Bool.eq_false_iff.mpr c8
      subst c8
      have H1 : (antiquarylaw09_PivotChoosesAsSpecified.j0 k a0 l1 l2 l3 a4 true) = some r := by rw [if_neg (show ¬ (false = true) by decide)] at H; exact H
      clear H
      have H := H1
      clear H1
      have H' := Aside0.mk H
      clear H
      go_wp2_with (first | ((with_reducible refine gate_callee (f := 9) rfl ?_); refine goesL_ (some 25) rfl rfl Try.func9 (by kernel_rfl) rfl #[.slice A1 l1.length c1, .int .i64 10] rfl (by (try simp only [List.map_toArray, List.map_cons, List.map_nil]); first | done | rfl | (simp only [List.length_drop, List.length_take]; rfl)) ?_; (with_reducible refine (antiquaryref09_Few.calls k _ _ l1 10 false _ ?side1 ?side2 A7.out).mono ?_); (case side1 => repeat (first | exact (Kd.C_below HR1.out HB.out) | (with_reducible refine Kd.C_alloc ?_ _) | (with_reducible refine Kd.C_drewN ?_ _) | (with_reducible refine Kd.C_drew ?_))); (case side2 => exact HC1.out); rintro e w' ⟨rfl, ⟨nd, rfl⟩⟩; refine ⟨_, rfl, ?_⟩))
      go_meet
      case rel => exact ⟨_, (true), (by first | rfl | (simp; done) | (simp [*]; done)), H', ⟨by first | omega | exact Nat.le_refl _⟩, ⟨by repeat (first | (with_reducible first | exact HB.out | apply below_alloc | apply pw_below_drewN | apply below_drew1) | exact HB.out)⟩⟩
  case rest =>
    clear HC6
    try clear c1
    try clear c2
    try clear p2
    try clear c3
    try clear c8
    try clear c9
    try clear c10
    obtain ⟨kq, x36_5, rfl, HA, HJ5, HB⟩ := hcut
    cases kq with
    | zero => exact absurd HA.out (by simp [antiquarylaw09_PivotChoosesAsSpecified.j0])
    | succ kj5 =>
      have H := HA.out
      clear HA
      simp only [antiquarylaw09_PivotChoosesAsSpecified.j0] at H
      by_cases c11 : x36_5 = true
      · subst c11
        have H1 : ((antiquarylaw09_sanity.f kj5).bind fun t343 => (some t343)) = some r := by rw [if_pos rfl] at H; exact H
        clear H
        have H := H1
        clear H1
        replace H := Option.bind_eq_some_iff.mp H
        obtain ⟨t343, A120, H⟩ := H
        replace H : (some t343) = some r := H
        have A12 := Aside0.mk A120
        clear A120
        obtain rfl := Option.some.inj H
        go_wp2_with (first | ((with_reducible refine gate_callee (f := 10) rfl ?_); refine goesL_ (some 37) rfl rfl Try.func10 (by kernel_rfl) rfl #[] rfl (by (try simp only [List.map_toArray, List.map_cons, List.map_nil]); first | done | rfl | (simp only [List.length_drop, List.length_take]; rfl)) ?_; (with_reducible refine (antiquarylaw09_sanity.calls kj5  t343 _ A12.out (by first | rfl | exact HT.out)).mono ?_); rintro e w13 ⟨rfl, hb⟩; refine ⟨_, rfl, ?_⟩; have n0_ := Aside0.mk (below_step (by repeat (first | (with_reducible first | exact HB.out | apply below_alloc | apply pw_below_drewN | apply below_drew1) | exact HB.out)) hb); clear HB; have HB := n0_; clear n0_; (try clear hb); (try clear hb2); (try clear hk); (try clear hi)))
        go_ret
        exact ⟨by first | rfl | (simp [errW_none, errW_some] <;> rfl) | (simp [*, errW_none, errW_some] <;> rfl), by repeat (first | (with_reducible first | exact HB.out | apply below_alloc | apply pw_below_drewN | apply below_drew1) | exact HB.out)⟩
      · replace c11 := Bool.eq_false_iff.mpr c11
        subst c11
        have H1 : ((pivot_Choose.f a0 l2 a4).bind fun bt344 => ((pivot_Nearest.f kj5 a0 l1 l3).bind fun bt348 => ((pivot_Cover.f kj5 a0 l1 l2).bind fun bt351 => ((pivot_Table.f kj5 a0 l1 l2).bind fun bt353 => ((antiquaryref09_Choose.f a0 l2 a4).bind fun bt357 => ((antiquaryref09_Nearest.f kj5 a0 l1 l3).bind fun bt362 => ((antiquaryref09_Cover.f kj5 a0 l1 l2).bind fun bt366 => ((antiquaryref09_Table.f kj5 a0 l1 l2).bind fun bt370 => ((antiquarylaw09_sanity.f kj5).bind fun t375 => (if t375 = true then ((antiquaryref09_Same.f kj5 bt344.1 bt357.1).bind fun t376 => (if t376 = true then (if bt344.2 = bt357.2 then (if bt348.1 = bt362.1 then (if bt348.2.1 = bt362.2.1 then (if bt348.2.2 = bt362.2.2 then (if bt351.1 = bt366.2.1 then (if bt351.2 = bt366.2.2 then ((antiquaryref09_SameRows.f kj5 bt353.1 bt370.1).bind fun t377 => (if t377 = true then (some (bt353.2 == bt370.2)) else (some false))) else (some false)) else (some false)) else (some false)) else (some false)) else (some false)) else (some false)) else (some false))) else (some false))))))))))) = some r := by rw [if_neg (show ¬ (false = true) by decide)] at H; exact H
        clear H
        have H := H1
        clear H1
        replace H := Option.bind_eq_some_iff.mp H
        obtain ⟨⟨t344, t345⟩, A140, H⟩ := H
        replace H : ((pivot_Nearest.f kj5 a0 l1 l3).bind fun bt348 => ((pivot_Cover.f kj5 a0 l1 l2).bind fun bt351 => ((pivot_Table.f kj5 a0 l1 l2).bind fun bt353 => ((antiquaryref09_Choose.f a0 l2 a4).bind fun bt357 => ((antiquaryref09_Nearest.f kj5 a0 l1 l3).bind fun bt362 => ((antiquaryref09_Cover.f kj5 a0 l1 l2).bind fun bt366 => ((antiquaryref09_Table.f kj5 a0 l1 l2).bind fun bt370 => ((antiquarylaw09_sanity.f kj5).bind fun t375 => (if t375 = true then ((antiquaryref09_Same.f kj5 t344 bt357.1).bind fun t376 => (if t376 = true then (if t345 = bt357.2 then (if bt348.1 = bt362.1 then (if bt348.2.1 = bt362.2.1 then (if bt348.2.2 = bt362.2.2 then (if bt351.1 = bt366.2.1 then (if bt351.2 = bt366.2.2 then ((antiquaryref09_SameRows.f kj5 bt353.1 bt370.1).bind fun t377 => (if t377 = true then (some (bt353.2 == bt370.2)) else (some false))) else (some false)) else (some false)) else (some false)) else (some false)) else (some false)) else (some false)) else (some false))) else (some false)))))))))) = some r := H
        have A14 := Aside0.mk A140
        clear A140
        replace H := Option.bind_eq_some_iff.mp H
        obtain ⟨⟨t348, t349, t350⟩, A150, H⟩ := H
        replace H : ((pivot_Cover.f kj5 a0 l1 l2).bind fun bt351 => ((pivot_Table.f kj5 a0 l1 l2).bind fun bt353 => ((antiquaryref09_Choose.f a0 l2 a4).bind fun bt357 => ((antiquaryref09_Nearest.f kj5 a0 l1 l3).bind fun bt362 => ((antiquaryref09_Cover.f kj5 a0 l1 l2).bind fun bt366 => ((antiquaryref09_Table.f kj5 a0 l1 l2).bind fun bt370 => ((antiquarylaw09_sanity.f kj5).bind fun t375 => (if t375 = true then ((antiquaryref09_Same.f kj5 t344 bt357.1).bind fun t376 => (if t376 = true then (if t345 = bt357.2 then (if t348 = bt362.1 then (if t349 = bt362.2.1 then (if t350 = bt362.2.2 then (if bt351.1 = bt366.2.1 then (if bt351.2 = bt366.2.2 then ((antiquaryref09_SameRows.f kj5 bt353.1 bt370.1).bind fun t377 => (if t377 = true then (some (bt353.2 == bt370.2)) else (some false))) else (some false)) else (some false)) else (some false)) else (some false)) else (some false)) else (some false)) else (some false))) else (some false))))))))) = some r := H
        have A15 := Aside0.mk A150
        clear A150
        replace H := Option.bind_eq_some_iff.mp H
        obtain ⟨⟨t351, t352⟩, A160, H⟩ := H
        replace H : ((pivot_Table.f kj5 a0 l1 l2).bind fun bt353 => ((antiquaryref09_Choose.f a0 l2 a4).bind fun bt357 => ((antiquaryref09_Nearest.f kj5 a0 l1 l3).bind fun bt362 => ((antiquaryref09_Cover.f kj5 a0 l1 l2).bind fun bt366 => ((antiquaryref09_Table.f kj5 a0 l1 l2).bind fun bt370 => ((antiquarylaw09_sanity.f kj5).bind fun t375 => (if t375 = true then ((antiquaryref09_Same.f kj5 t344 bt357.1).bind fun t376 => (if t376 = true then (if t345 = bt357.2 then (if t348 = bt362.1 then (if t349 = bt362.2.1 then (if t350 = bt362.2.2 then (if t351 = bt366.2.1 then (if t352 = bt366.2.2 then ((antiquaryref09_SameRows.f kj5 bt353.1 bt370.1).bind fun t377 => (if t377 = true then (some (bt353.2 == bt370.2)) else (some false))) else (some false)) else (some false)) else (some false)) else (some false)) else (some false)) else (some false)) else (some false))) else (some false)))))))) = some r := H
        have A16 := Aside0.mk A160
        clear A160
        replace H := Option.bind_eq_some_iff.mp H
        obtain ⟨⟨t353, t354⟩, A170, H⟩ := H
        replace H : ((antiquaryref09_Choose.f a0 l2 a4).bind fun bt357 => ((antiquaryref09_Nearest.f kj5 a0 l1 l3).bind fun bt362 => ((antiquaryref09_Cover.f kj5 a0 l1 l2).bind fun bt366 => ((antiquaryref09_Table.f kj5 a0 l1 l2).bind fun bt370 => ((antiquarylaw09_sanity.f kj5).bind fun t375 => (if t375 = true then ((antiquaryref09_Same.f kj5 t344 bt357.1).bind fun t376 => (if t376 = true then (if t345 = bt357.2 then (if t348 = bt362.1 then (if t349 = bt362.2.1 then (if t350 = bt362.2.2 then (if t351 = bt366.2.1 then (if t352 = bt366.2.2 then ((antiquaryref09_SameRows.f kj5 t353 bt370.1).bind fun t377 => (if t377 = true then (some (t354 == bt370.2)) else (some false))) else (some false)) else (some false)) else (some false)) else (some false)) else (some false)) else (some false)) else (some false))) else (some false))))))) = some r := H
        have A17 := Aside0.mk A170
        clear A170
        replace H := Option.bind_eq_some_iff.mp H
        obtain ⟨⟨t357, t360⟩, A180, H⟩ := H
        replace H : ((antiquaryref09_Nearest.f kj5 a0 l1 l3).bind fun bt362 => ((antiquaryref09_Cover.f kj5 a0 l1 l2).bind fun bt366 => ((antiquaryref09_Table.f kj5 a0 l1 l2).bind fun bt370 => ((antiquarylaw09_sanity.f kj5).bind fun t375 => (if t375 = true then ((antiquaryref09_Same.f kj5 t344 t357).bind fun t376 => (if t376 = true then (if t345 = t360 then (if t348 = bt362.1 then (if t349 = bt362.2.1 then (if t350 = bt362.2.2 then (if t351 = bt366.2.1 then (if t352 = bt366.2.2 then ((antiquaryref09_SameRows.f kj5 t353 bt370.1).bind fun t377 => (if t377 = true then (some (t354 == bt370.2)) else (some false))) else (some false)) else (some false)) else (some false)) else (some false)) else (some false)) else (some false)) else (some false))) else (some false)))))) = some r := H
        have A18 := Aside0.mk A180
        clear A180
        replace H := Option.bind_eq_some_iff.mp H
        obtain ⟨⟨t362, t363, t364⟩, A190, H⟩ := H
        replace H : ((antiquaryref09_Cover.f kj5 a0 l1 l2).bind fun bt366 => ((antiquaryref09_Table.f kj5 a0 l1 l2).bind fun bt370 => ((antiquarylaw09_sanity.f kj5).bind fun t375 => (if t375 = true then ((antiquaryref09_Same.f kj5 t344 t357).bind fun t376 => (if t376 = true then (if t345 = t360 then (if t348 = t362 then (if t349 = t363 then (if t350 = t364 then (if t351 = bt366.2.1 then (if t352 = bt366.2.2 then ((antiquaryref09_SameRows.f kj5 t353 bt370.1).bind fun t377 => (if t377 = true then (some (t354 == bt370.2)) else (some false))) else (some false)) else (some false)) else (some false)) else (some false)) else (some false)) else (some false)) else (some false))) else (some false))))) = some r := H
        have A19 := Aside0.mk A190
        clear A190
        replace H := Option.bind_eq_some_iff.mp H
        obtain ⟨⟨t366, t367, t368⟩, A200, H⟩ := H
        replace H : ((antiquaryref09_Table.f kj5 a0 l1 l2).bind fun bt370 => ((antiquarylaw09_sanity.f kj5).bind fun t375 => (if t375 = true then ((antiquaryref09_Same.f kj5 t344 t357).bind fun t376 => (if t376 = true then (if t345 = t360 then (if t348 = t362 then (if t349 = t363 then (if t350 = t364 then (if t351 = t367 then (if t352 = t368 then ((antiquaryref09_SameRows.f kj5 t353 bt370.1).bind fun t377 => (if t377 = true then (some (t354 == bt370.2)) else (some false))) else (some false)) else (some false)) else (some false)) else (some false)) else (some false)) else (some false)) else (some false))) else (some false)))) = some r := H
        have A20 := Aside0.mk A200
        clear A200
        replace H := Option.bind_eq_some_iff.mp H
        obtain ⟨⟨t370, t373⟩, A210, H⟩ := H
        replace H : ((antiquarylaw09_sanity.f kj5).bind fun t375 => (if t375 = true then ((antiquaryref09_Same.f kj5 t344 t357).bind fun t376 => (if t376 = true then (if t345 = t360 then (if t348 = t362 then (if t349 = t363 then (if t350 = t364 then (if t351 = t367 then (if t352 = t368 then ((antiquaryref09_SameRows.f kj5 t353 t370).bind fun t377 => (if t377 = true then (some (t354 == t373)) else (some false))) else (some false)) else (some false)) else (some false)) else (some false)) else (some false)) else (some false)) else (some false))) else (some false))) = some r := H
        have A21 := Aside0.mk A210
        clear A210
        replace H := Option.bind_eq_some_iff.mp H
        obtain ⟨t375, A220, H⟩ := H
        replace H : (if t375 = true then ((antiquaryref09_Same.f kj5 t344 t357).bind fun t376 => (if t376 = true then (if t345 = t360 then (if t348 = t362 then (if t349 = t363 then (if t350 = t364 then (if t351 = t367 then (if t352 = t368 then ((antiquaryref09_SameRows.f kj5 t353 t370).bind fun t377 => (if t377 = true then (some (t354 == t373)) else (some false))) else (some false)) else (some false)) else (some false)) else (some false)) else (some false)) else (some false)) else (some false))) else (some false)) = some r := H
        have A22 := Aside0.mk A220
        clear A220
        by_cases c23 : t375 = true
        · subst c23
          have H1 : ((antiquaryref09_Same.f kj5 t344 t357).bind fun t376 => (if t376 = true then (if t345 = t360 then (if t348 = t362 then (if t349 = t363 then (if t350 = t364 then (if t351 = t367 then (if t352 = t368 then ((antiquaryref09_SameRows.f kj5 t353 t370).bind fun t377 => (if t377 = true then (some (t354 == t373)) else (some false))) else (some false)) else (some false)) else (some false)) else (some false)) else (some false)) else (some false)) else (some false))) = some r := by rw [if_pos rfl] at H; exact H
          clear H
          have H := H1
          clear H1
          replace H := Option.bind_eq_some_iff.mp H
          obtain ⟨t376, A240, H⟩ := H
          replace H : (if t376 = true then (if t345 = t360 then (if t348 = t362 then (if t349 = t363 then (if t350 = t364 then (if t351 = t367 then (if t352 = t368 then ((antiquaryref09_SameRows.f kj5 t353 t370).bind fun t377 => (if t377 = true then (some (t354 == t373)) else (some false))) else (some false)) else (some false)) else (some false)) else (some false)) else (some false)) else (some false)) else (some false)) = some r := H
          have A24 := Aside0.mk A240
          clear A240
          by_cases c25 : t376 = true
          · subst c25
            have H1 : (if t345 = t360 then (if t348 = t362 then (if t349 = t363 then (if t350 = t364 then (if t351 = t367 then (if t352 = t368 then ((antiquaryref09_SameRows.f kj5 t353 t370).bind fun t377 => (if t377 = true then (some (t354 == t373)) else (some false))) else (some false)) else (some false)) else (some false)) else (some false)) else (some false)) else (some false)) = some r := by rw [if_pos rfl] at H; exact H
            clear H
            have H := H1
            clear H1
            by_cases c26 : t345 = t360
            · rw [if_pos c26] at H
              have c26b0 : (t345 == t360) = true := beq_iff_eq.mpr c26
              have c26b1 : (t345 != t360) = false := bne_eq_false_iff_eq.mpr c26
              clear c26
              by_cases c27 : t348 = t362
              · rw [if_pos c27] at H
                have c27b0 : (t348 == t362) = true := beq_iff_eq.mpr c27
                have c27b1 : (t348 != t362) = false := bne_eq_false_iff_eq.mpr c27
                clear c27
                by_cases c28 : t349 = t363
                · rw [if_pos c28] at H
                  have c28b0 : (t349 == t363) = true := beq_iff_eq.mpr c28
                  have c28b1 : (t349 != t363) = false := bne_eq_false_iff_eq.mpr c28
                  clear c28
                  by_cases c29 : t350 = t364
                  · rw [if_pos c29] at H
                    have c29b0 : (t350 == t364) = true := beq_iff_eq.mpr c29
                    have c29b1 : (t350 != t364) = false := bne_eq_false_iff_eq.mpr c29
                    clear c29
                    by_cases c30 : t351 = t367
                    · rw [if_pos c30] at H
                      have c30b0 : (t351 == t367) = true := beq_iff_eq.mpr c30
                      have c30b1 : (t351 != t367) = false := bne_eq_false_iff_eq.mpr c30
                      clear c30
                      by_cases c31 : t352 = t368
                      · rw [if_pos c31] at H
                        have c31b0 : (t352 == t368) = true := beq_iff_eq.mpr c31
                        have c31b1 : (t352 != t368) = false := bne_eq_false_iff_eq.mpr c31
                        clear c31
                        replace H := Option.bind_eq_some_iff.mp H
                        obtain ⟨t377, A320, H⟩ := H
                        replace H : (if t377 = true then (some (t354 == t373)) else (some false)) = some r := H
                        have A32 := Aside0.mk A320
                        clear A320
                        by_cases c33 : t377 = true
                        · subst c33
                          have H1 : (some (t354 == t373)) = some r := by rw [if_pos rfl] at H; exact H
                          clear H
                          have H := H1
                          clear H1
                          obtain rfl := Option.some.inj H
                          go_wp2_with (first | ((with_reducible refine gate_callee (f := 11) rfl ?_); refine goesL_ (some 42) rfl rfl Try.func11 (by kernel_rfl) rfl #[.int .i64 a0, .slice A2 l2.length c2, .int .i64 a4] rfl (by (try simp only [List.map_toArray, List.map_cons, List.map_nil]); first | done | rfl | (simp only [List.length_drop, List.length_take]; rfl)) ?_; (with_reducible refine (pivot_Choose.calls a0 _ _ l2 a4 t344 t345 _ ?side1 ?side2 A14.out).mono ?_); (case side1 => repeat (first | exact (Kd.C_below HR2.out HB.out) | (with_reducible refine Kd.C_alloc ?_ _) | (with_reducible refine Kd.C_drewN ?_ _) | (with_reducible refine Kd.C_drew ?_))); (case side2 => exact HC2.out); rintro e w34 ⟨v346, rfl, ho0, hb⟩; refine ⟨_, rfl, ?_⟩; have n0_ := Aside0.mk (Kd.R_lower ho0 (below_size (by repeat (first | (with_reducible first | exact HB.out | apply below_alloc | apply pw_below_drewN | apply below_drew1) | exact HB.out)))); have n1_ := Aside0.mk (below_step (by repeat (first | (with_reducible first | exact HB.out | apply below_alloc | apply pw_below_drewN | apply below_drew1) | exact HB.out)) hb); clear HB; have HO347 := n0_; have HB := n1_; clear n0_ n1_; (try clear hb); (try clear hb2); (try clear hk); (try clear hi); (try clear ho0)) | ((with_reducible refine gate_callee (f := 12) rfl ?_); refine goesL_ (some 49) rfl rfl Try.func12 (by kernel_rfl) rfl #[.int .i64 a0, .slice A1 l1.length c1, .slice A3 l3.length c3] rfl (by (try simp only [List.map_toArray, List.map_cons, List.map_nil]); first | done | rfl | (simp only [List.length_drop, List.length_take]; rfl)) ?_; (with_reducible refine (pivot_Nearest.calls kj5 a0 _ _ l1 _ _ l3 t348 t349 t350 _ ?side1 ?side2 ?side3 ?side4 A15.out).mono ?_); (case side1 => repeat (first | exact (Kd.C_below HR1.out HB.out) | (with_reducible refine Kd.C_alloc ?_ _) | (with_reducible refine Kd.C_drewN ?_ _) | (with_reducible refine Kd.C_drew ?_))); (case side2 => exact HC1.out); (case side3 => repeat (first | exact (Kd.C_below HR3.out HB.out) | (with_reducible refine Kd.C_alloc ?_ _) | (with_reducible refine Kd.C_drewN ?_ _) | (with_reducible refine Kd.C_drew ?_))); (case side4 => exact HC3.out); rintro e w35 ⟨rfl, hb⟩; refine ⟨_, rfl, ?_⟩; have n0_ := Aside0.mk (Kd.R_below (by (with_reducible repeat (first | apply Kd.R_alloc | apply Kd.R_drewN | apply Kd.R_drew)); exact HO347.out) hb); have n1_ := Aside0.mk (below_step (by repeat (first | (with_reducible first | exact HB.out | apply below_alloc | apply pw_below_drewN | apply below_drew1) | exact HB.out)) hb); clear HO347; clear HB; have HO347 := n0_; have HB := n1_; clear n0_ n1_; (try clear hb); (try clear hb2); (try clear hk); (try clear hi)) | ((with_reducible refine gate_callee (f := 13) rfl ?_); refine goesL_ (some 57) rfl rfl Try.func13 (by kernel_rfl) rfl #[.int .i64 a0, .slice A1 l1.length c1, .slice A2 l2.length c2] rfl (by (try simp only [List.map_toArray, List.map_cons, List.map_nil]); first | done | rfl | (simp only [List.length_drop, List.length_take]; rfl)) ?_; (with_reducible refine (pivot_Cover.calls kj5 a0 _ _ l1 _ _ l2 t351 t352 _ ?side1 ?side2 ?side3 ?side4 A16.out).mono ?_); (case side1 => repeat (first | exact (Kd.C_below HR1.out HB.out) | (with_reducible refine Kd.C_alloc ?_ _) | (with_reducible refine Kd.C_drewN ?_ _) | (with_reducible refine Kd.C_drew ?_))); (case side2 => exact HC1.out); (case side3 => repeat (first | exact (Kd.C_below HR2.out HB.out) | (with_reducible refine Kd.C_alloc ?_ _) | (with_reducible refine Kd.C_drewN ?_ _) | (with_reducible refine Kd.C_drew ?_))); (case side4 => exact HC2.out); rintro e w36 ⟨rfl, hb⟩; refine ⟨_, rfl, ?_⟩; have n0_ := Aside0.mk (Kd.R_below (by (with_reducible repeat (first | apply Kd.R_alloc | apply Kd.R_drewN | apply Kd.R_drew)); exact HO347.out) hb); have n1_ := Aside0.mk (below_step (by repeat (first | (with_reducible first | exact HB.out | apply below_alloc | apply pw_below_drewN | apply below_drew1) | exact HB.out)) hb); clear HO347; clear HB; have HO347 := n0_; have HB := n1_; clear n0_ n1_; (try clear hb); (try clear hb2); (try clear hk); (try clear hi)) | ((with_reducible refine gate_callee (f := 14) rfl ?_); refine goesL_ (some 64) rfl rfl Try.func14 (by kernel_rfl) rfl #[.int .i64 a0, .slice A1 l1.length c1, .slice A2 l2.length c2] rfl (by (try simp only [List.map_toArray, List.map_cons, List.map_nil]); first | done | rfl | (simp only [List.length_drop, List.length_take]; rfl)) ?_; (with_reducible refine (pivot_Table.calls kj5 a0 _ _ l1 _ _ l2 t353 t354 _ ?side1 ?side2 ?side3 ?side4 A17.out).mono ?_); (case side1 => repeat (first | exact (Kd.C_below HR1.out HB.out) | (with_reducible refine Kd.C_alloc ?_ _) | (with_reducible refine Kd.C_drewN ?_ _) | (with_reducible refine Kd.C_drew ?_))); (case side2 => exact HC1.out); (case side3 => repeat (first | exact (Kd.C_below HR2.out HB.out) | (with_reducible refine Kd.C_alloc ?_ _) | (with_reducible refine Kd.C_drewN ?_ _) | (with_reducible refine Kd.C_drew ?_))); (case side4 => exact HC2.out); rintro e w37 ⟨v355, rfl, ho0, hb⟩; refine ⟨_, rfl, ?_⟩; have n0_ := Aside0.mk (Kd.R_below (by (with_reducible repeat (first | apply Kd.R_alloc | apply Kd.R_drewN | apply Kd.R_drew)); exact HO347.out) hb); have n1_ := Aside0.mk (Kd.S_lower (Kd.S_new' ho0 (Kd.R_lt (by (with_reducible repeat (first | apply Kd.R_alloc | apply Kd.R_drewN | apply Kd.R_drew)); exact HO347.out))) (below_size (by repeat (first | (with_reducible first | exact HB.out | apply below_alloc | apply pw_below_drewN | apply below_drew1) | exact HB.out)))); have n2_ := Aside0.mk (below_step (by repeat (first | (with_reducible first | exact HB.out | apply below_alloc | apply pw_below_drewN | apply below_drew1) | exact HB.out)) hb); clear HO347; clear HB; have HO347 := n0_; have HO356 := n1_; have HB := n2_; clear n0_ n1_ n2_; (try clear hb); (try clear hb2); (try clear hk); (try clear hi); (try clear ho0)) | ((with_reducible refine gate_callee (f := 15) rfl ?_); refine goesL_ (some 70) rfl rfl Try.func15 (by kernel_rfl) rfl #[.int .i64 a0, .slice A2 l2.length c2, .int .i64 a4] rfl (by (try simp only [List.map_toArray, List.map_cons, List.map_nil]); first | done | rfl | (simp only [List.length_drop, List.length_take]; rfl)) ?_; (with_reducible refine (antiquaryref09_Choose.calls a0 _ _ l2 a4 t357 t360 _ ?side1 ?side2 A18.out).mono ?_); (case side1 => repeat (first | exact (Kd.C_below HR2.out HB.out) | (with_reducible refine Kd.C_alloc ?_ _) | (with_reducible refine Kd.C_drewN ?_ _) | (with_reducible refine Kd.C_drew ?_))); (case side2 => exact HC2.out); rintro e w38 ⟨v358, rfl, ho0, hb⟩; refine ⟨_, rfl, ?_⟩; have n0_ := Aside0.mk (Kd.R_elder' (by (with_reducible repeat (first | apply Kd.R_alloc | apply Kd.R_drewN | apply Kd.R_drew)); exact HO347.out) (Kd.R_base ho0) hb); have n1_ := Aside0.mk (Kd.S_elder' (by (with_reducible repeat (first | apply Kd.S_alloc | apply Kd.S_drewN | apply Kd.S_drew)); exact HO356.out) (Kd.R_base ho0) hb); have n2_ := Aside0.mk (Kd.R_lower (Kd.R_new' ho0 (Kd.R_lt (by (with_reducible repeat (first | apply Kd.R_alloc | apply Kd.R_drewN | apply Kd.R_drew)); exact HO347.out))) (below_size (by repeat (first | (with_reducible first | exact HB.out | apply below_alloc | apply pw_below_drewN | apply below_drew1) | exact HB.out)))); have n3_ := Aside0.mk (below_step (by repeat (first | (with_reducible first | exact HB.out | apply below_alloc | apply pw_below_drewN | apply below_drew1) | exact HB.out)) hb); clear HO347; clear HO356; clear HB; have HO347 := n0_; have HO356 := n1_; have HO359 := n2_; have HB := n3_; clear n0_ n1_ n2_ n3_; (try clear hb); (try clear hb2); (try clear hk); (try clear hi); (try clear ho0)) | ((with_reducible refine gate_dst (N := 20) rfl ?_); (try (refine gate_guard (by rfl) ?_; dsimp only)); refine box_event ?hg (N := 20) ?hd (cs := #[.slice none 0 0, .int .i64 0]) (t := 36) ?hr ?_; (case hd => rfl); (case hg => rfl); (case hr => first | (go_simp; done) | (go_simp; rfl)); intro gb361 hg w39 hbox hb; have n0_ := Aside0.mk (Kd.R_below (by (with_reducible repeat (first | apply Kd.R_alloc | apply Kd.R_drewN | apply Kd.R_drew)); exact HO347.out) hb); have n1_ := Aside0.mk (Kd.S_below (by (with_reducible repeat (first | apply Kd.S_alloc | apply Kd.S_drewN | apply Kd.S_drew)); exact HO356.out) hb); have n2_ := Aside0.mk (Kd.R_below (by (with_reducible repeat (first | apply Kd.R_alloc | apply Kd.R_drewN | apply Kd.R_drew)); exact HO359.out) hb); have n3_ := Aside0.mk (below_step (by repeat (first | (with_reducible first | exact HB.out | apply below_alloc | apply pw_below_drewN | apply below_drew1) | exact HB.out)) hb); have n4_ := Aside0.mk (hbox); have n5_ := Aside0.mk ((by rw [hg]; exact (below_size (by repeat (first | (with_reducible first | exact HB.out | apply below_alloc | apply pw_below_drewN | apply below_drew1) | exact HB.out))) : w.heap.size ≤ gb361)); have n6_ := Aside0.mk ((by rw [hg]; exact (below_size (by repeat (first | (with_reducible first | exact HB.out | apply below_alloc | apply pw_below_drewN | apply below_drew1) | exact HB.out))) : w.heap.size ≤ gb361)); clear HO347; clear HO356; clear HO359; clear HB; have HO347 := n0_; have HO356 := n1_; have HO359 := n2_; have HB := n3_; have BK361 := n4_; have GW361 := n5_; have GE361 := n6_; clear n0_ n1_ n2_ n3_ n4_ n5_ n6_; clear hb hbox hg; obtain ⟨Ao40, co40, eo40⟩ := Kd.R_slice HO359.out; subst eo40; have hcz41_0 : w39.cell? ⟨gb361, 0, none⟩ = some (.slice none 0 0) := (blk_cell BK361.out 0).trans rfl; have hcz41_1 : w39.cell? ⟨gb361, 1, none⟩ = some (.int .i64 0) := (blk_cell BK361.out 1).trans rfl; have hfz41_0 := blk_frozen BK361.out 0; have hfz41_1 := blk_frozen BK361.out 1) | ((with_reducible refine gate_callee (f := 16) rfl ?_); refine goesL_ (some 74) rfl rfl Try.func16 (by kernel_rfl) rfl #[.int .i64 a0, .slice A1 l1.length c1, .slice A3 l3.length c3] rfl (by (try simp only [List.map_toArray, List.map_cons, List.map_nil]); first | done | rfl | (simp only [List.length_drop, List.length_take]; rfl)) ?_; (with_reducible refine (antiquaryref09_Nearest.calls kj5 a0 _ _ l1 _ _ l3 t362 t363 t364 _ ?side1 ?side2 ?side3 ?side4 A19.out).mono ?_); (case side1 => exact Kd.C_below HR1.out (by repeat (first | (with_reducible first | exact HB.out | apply below_alloc | apply pw_below_drewN | apply below_drew1 | refine below_set ?_ GE361.out) | exact HB.out))); (case side2 => exact HC1.out); (case side3 => exact Kd.C_below HR3.out (by repeat (first | (with_reducible first | exact HB.out | apply below_alloc | apply pw_below_drewN | apply below_drew1 | refine below_set ?_ GE361.out) | exact HB.out))); (case side4 => exact HC3.out); rintro e w42 ⟨rfl, hb⟩; refine ⟨_, rfl, ?_⟩; have n0_ := Aside0.mk (Kd.R_below (by (with_reducible repeat (first | apply Kd.R_alloc | apply Kd.R_drewN | apply Kd.R_drew)); exact (Kd.R_mono (Kd.R_far (p := ⟨gb361, 1, none⟩) (Kd.R_far (p := ⟨gb361, 0, none⟩) (Kd.R_types HO347.out BK361.out (by decide)) (fun _ hk => hk.2) (.slice Ao40 t357.length co40)) (fun _ hk => hk.2) (.int .i64 t360)) (fun _ h_ => h_.1))) hb); have n1_ := Aside0.mk (Kd.S_below (by (with_reducible repeat (first | apply Kd.S_alloc | apply Kd.S_drewN | apply Kd.S_drew)); exact (Kd.S_mono (Kd.S_far (p := ⟨gb361, 1, none⟩) (Kd.S_far (p := ⟨gb361, 0, none⟩) (Kd.S_types HO356.out BK361.out (by decide)) (fun _ hk => hk.2) (.slice Ao40 t357.length co40)) (fun _ hk => hk.2) (.int .i64 t360)) (fun _ h_ => h_.1))) hb); have n2_ := Aside0.mk (Kd.R_below (by (with_reducible repeat (first | apply Kd.R_alloc | apply Kd.R_drewN | apply Kd.R_drew)); exact (Kd.R_mono (Kd.R_far (p := ⟨gb361, 1, none⟩) (Kd.R_far (p := ⟨gb361, 0, none⟩) (Kd.R_types HO359.out BK361.out (by decide)) (fun _ hk => hk.2) (.slice Ao40 t357.length co40)) (fun _ hk => hk.2) (.int .i64 t360)) (fun _ h_ => h_.1))) hb); have n3_ := Aside0.mk (blk_below (g := gb361) (o := .cells #[.slice Ao40 t357.length co40, .int .i64 t360] 36 (0, 0)) (by (with_reducible repeat (first | refine blk_drewN ?_ _ | refine blk_drew ?_ | refine blk_alloc ?_ _)); refine blk_put (cs := #[.slice Ao40 t357.length co40, .int .i64 0]) ?_ 1 _ rfl; (with_reducible repeat (first | refine blk_drewN ?_ _ | refine blk_drew ?_ | refine blk_alloc ?_ _)); refine blk_put (cs := #[.slice none 0 0, .int .i64 0]) ?_ 0 _ rfl; (with_reducible repeat (first | refine blk_drewN ?_ _ | refine blk_drew ?_ | refine blk_alloc ?_ _)); exact BK361.out) hb); have n4_ := Aside0.mk (below_step (by repeat (first | (with_reducible first | exact HB.out | apply below_alloc | apply pw_below_drewN | apply below_drew1 | refine below_set ?_ GE361.out) | exact HB.out)) hb); clear HO347; clear HO356; clear HO359; clear BK361; clear HB; have HO347 := n0_; have HO356 := n1_; have HO359 := n2_; have BK361 := n3_; have HB := n4_; clear n0_ n1_ n2_ n3_ n4_; (try clear hb); (try clear hb2); (try clear hk); (try clear hi)) | ((with_reducible refine gate_dst (N := 21) rfl ?_); (try (refine gate_guard (by rfl) ?_; dsimp only)); refine box_event ?hg (N := 21) ?hd (cs := #[.int .i64 0, .int .i64 0, .int .i64 0]) (t := 39) ?hr ?_; (case hd => rfl); (case hg => rfl); (case hr => first | (go_simp; done) | (go_simp; rfl)); intro gb365 hg w43 hbox hb; have n0_ := Aside0.mk (Kd.R_below (by (with_reducible repeat (first | apply Kd.R_alloc | apply Kd.R_drewN | apply Kd.R_drew)); exact HO347.out) hb); have n1_ := Aside0.mk (Kd.S_below (by (with_reducible repeat (first | apply Kd.S_alloc | apply Kd.S_drewN | apply Kd.S_drew)); exact HO356.out) hb); have n2_ := Aside0.mk (Kd.R_below (by (with_reducible repeat (first | apply Kd.R_alloc | apply Kd.R_drewN | apply Kd.R_drew)); exact HO359.out) hb); have n3_ := Aside0.mk (blk_below (g := gb361) (o := .cells #[.slice Ao40 t357.length co40, .int .i64 t360] 36 (0, 0)) (by (with_reducible repeat (first | refine blk_drewN ?_ _ | refine blk_drew ?_ | refine blk_alloc ?_ _)); exact BK361.out) hb); have n4_ := Aside0.mk (below_step (by repeat (first | (with_reducible first | exact HB.out | apply below_alloc | apply pw_below_drewN | apply below_drew1 | refine below_set ?_ GE361.out) | exact HB.out)) hb); have n5_ := Aside0.mk (hbox); have n6_ := Aside0.mk ((by rw [hg]; exact (below_size (by repeat (first | (with_reducible first | exact HB.out | apply below_alloc | apply pw_below_drewN | apply below_drew1 | refine below_set ?_ GE361.out) | exact HB.out))) : w.heap.size ≤ gb365)); have n7_ := Aside0.mk ((by rw [hg]; exact (below_size (by repeat (first | (with_reducible first | exact HB.out | apply below_alloc | apply pw_below_drewN | apply below_drew1 | refine below_set ?_ GE361.out) | exact HB.out))) : w.heap.size ≤ gb365)); have n8_ := Aside0.mk ((by rw [hg]; exact Nat.ne_of_lt (blk_lt (g := gb361) (o := .cells #[.slice Ao40 t357.length co40, .int .i64 t360] 36 (0, 0)) (by (with_reducible repeat (first | refine blk_drewN ?_ _ | refine blk_drew ?_ | refine blk_alloc ?_ _)); exact BK361.out)) : gb361 ≠ gb365)); have n9_ := Aside0.mk ((by rw [hg]; exact Nat.ne_of_gt (blk_lt (g := gb361) (o := .cells #[.slice Ao40 t357.length co40, .int .i64 t360] 36 (0, 0)) (by (with_reducible repeat (first | refine blk_drewN ?_ _ | refine blk_drew ?_ | refine blk_alloc ?_ _)); exact BK361.out)) : gb365 ≠ gb361)); clear HO347; clear HO356; clear HO359; clear BK361; clear HB; have HO347 := n0_; have HO356 := n1_; have HO359 := n2_; have BK361 := n3_; have HB := n4_; have BK365 := n5_; have GW365 := n6_; have GE365 := n7_; have NB361_365 := n8_; have NB365_361 := n9_; clear n0_ n1_ n2_ n3_ n4_ n5_ n6_ n7_ n8_ n9_; clear hb hbox hg; have hnb44 := NB365_361.out; have hnc44 := NB361_365.out; have hcz45_0 : w43.cell? ⟨gb365, 0, none⟩ = some (.int .i64 0) := (blk_cell BK365.out 0).trans rfl; have hcz45_1 : w43.cell? ⟨gb365, 1, none⟩ = some (.int .i64 0) := (blk_cell BK365.out 1).trans rfl; have hcz45_2 : w43.cell? ⟨gb365, 2, none⟩ = some (.int .i64 0) := (blk_cell BK365.out 2).trans rfl; have hfz45_0 := blk_frozen BK365.out 0; have hfz45_1 := blk_frozen BK365.out 1; have hfz45_2 := blk_frozen BK365.out 2) | ((with_reducible refine gate_callee (f := 17) rfl ?_); refine goesL_ (some 78) rfl rfl Try.func17 (by kernel_rfl) rfl #[.int .i64 a0, .slice A1 l1.length c1, .slice A2 l2.length c2] rfl (by (try simp only [List.map_toArray, List.map_cons, List.map_nil]); first | done | rfl | (simp only [List.length_drop, List.length_take]; rfl)) ?_; (with_reducible refine (antiquaryref09_Cover.calls kj5 a0 _ _ l1 _ _ l2 t366 t367 t368 _ ?side1 ?side2 ?side3 ?side4 A20.out).mono ?_); (case side1 => exact Kd.C_below HR1.out (by repeat (first | (with_reducible first | exact HB.out | apply below_alloc | apply pw_below_drewN | apply below_drew1 | refine below_set ?_ GE361.out | refine below_set ?_ GE365.out) | exact HB.out))); (case side2 => exact HC1.out); (case side3 => exact Kd.C_below HR2.out (by repeat (first | (with_reducible first | exact HB.out | apply below_alloc | apply pw_below_drewN | apply below_drew1 | refine below_set ?_ GE361.out | refine below_set ?_ GE365.out) | exact HB.out))); (case side4 => exact HC2.out); rintro e w46 ⟨rfl, hb⟩; refine ⟨_, rfl, ?_⟩; have n0_ := Aside0.mk (Kd.R_below (by (with_reducible repeat (first | apply Kd.R_alloc | apply Kd.R_drewN | apply Kd.R_drew)); exact (Kd.R_mono (Kd.R_far (p := ⟨gb365, 2, none⟩) (Kd.R_far (p := ⟨gb365, 1, none⟩) (Kd.R_far (p := ⟨gb365, 0, none⟩) (Kd.R_types HO347.out BK365.out (by decide)) (fun _ hk => hk.2) (.int .i64 t362)) (fun _ hk => hk.2) (.int .i64 t363)) (fun _ hk => hk.2) (.int .i64 t364)) (fun _ h_ => h_.1))) hb); have n1_ := Aside0.mk (Kd.S_below (by (with_reducible repeat (first | apply Kd.S_alloc | apply Kd.S_drewN | apply Kd.S_drew)); exact (Kd.S_mono (Kd.S_far (p := ⟨gb365, 2, none⟩) (Kd.S_far (p := ⟨gb365, 1, none⟩) (Kd.S_far (p := ⟨gb365, 0, none⟩) (Kd.S_types HO356.out BK365.out (by decide)) (fun _ hk => hk.2) (.int .i64 t362)) (fun _ hk => hk.2) (.int .i64 t363)) (fun _ hk => hk.2) (.int .i64 t364)) (fun _ h_ => h_.1))) hb); have n2_ := Aside0.mk (Kd.R_below (by (with_reducible repeat (first | apply Kd.R_alloc | apply Kd.R_drewN | apply Kd.R_drew)); exact (Kd.R_mono (Kd.R_far (p := ⟨gb365, 2, none⟩) (Kd.R_far (p := ⟨gb365, 1, none⟩) (Kd.R_far (p := ⟨gb365, 0, none⟩) (Kd.R_types HO359.out BK365.out (by decide)) (fun _ hk => hk.2) (.int .i64 t362)) (fun _ hk => hk.2) (.int .i64 t363)) (fun _ hk => hk.2) (.int .i64 t364)) (fun _ h_ => h_.1))) hb); have n3_ := Aside0.mk (blk_below (g := gb361) (o := .cells #[.slice Ao40 t357.length co40, .int .i64 t360] 36 (0, 0)) (by (with_reducible repeat (first | refine blk_drewN ?_ _ | refine blk_drew ?_ | refine blk_alloc ?_ _)); refine blk_far ?_ NB361_365.out _; (with_reducible repeat (first | refine blk_drewN ?_ _ | refine blk_drew ?_ | refine blk_alloc ?_ _)); refine blk_far ?_ NB361_365.out _; (with_reducible repeat (first | refine blk_drewN ?_ _ | refine blk_drew ?_ | refine blk_alloc ?_ _)); refine blk_far ?_ NB361_365.out _; (with_reducible repeat (first | refine blk_drewN ?_ _ | refine blk_drew ?_ | refine blk_alloc ?_ _)); exact BK361.out) hb); have n4_ := Aside0.mk (blk_below (g := gb365) (o := .cells #[.int .i64 t362, .int .i64 t363, .int .i64 t364] 39 (0, 0)) (by (with_reducible repeat (first | refine blk_drewN ?_ _ | refine blk_drew ?_ | refine blk_alloc ?_ _)); refine blk_put (cs := #[.int .i64 t362, .int .i64 t363, .int .i64 0]) ?_ 2 _ rfl; (with_reducible repeat (first | refine blk_drewN ?_ _ | refine blk_drew ?_ | refine blk_alloc ?_ _)); refine blk_put (cs := #[.int .i64 t362, .int .i64 0, .int .i64 0]) ?_ 1 _ rfl; (with_reducible repeat (first | refine blk_drewN ?_ _ | refine blk_drew ?_ | refine blk_alloc ?_ _)); refine blk_put (cs := #[.int .i64 0, .int .i64 0, .int .i64 0]) ?_ 0 _ rfl; (with_reducible repeat (first | refine blk_drewN ?_ _ | refine blk_drew ?_ | refine blk_alloc ?_ _)); exact BK365.out) hb); have n5_ := Aside0.mk (below_step (by repeat (first | (with_reducible first | exact HB.out | apply below_alloc | apply pw_below_drewN | apply below_drew1 | refine below_set ?_ GE361.out | refine below_set ?_ GE365.out) | exact HB.out)) hb); clear HO347; clear HO356; clear HO359; clear BK361; clear BK365; clear HB; have HO347 := n0_; have HO356 := n1_; have HO359 := n2_; have BK361 := n3_; have BK365 := n4_; have HB := n5_; clear n0_ n1_ n2_ n3_ n4_ n5_; (try clear hb); (try clear hb2); (try clear hk); (try clear hi)) | ((with_reducible refine gate_dst (N := 22) rfl ?_); (try (refine gate_guard (by rfl) ?_; dsimp only)); refine box_event ?hg (N := 22) ?hd (cs := #[.int .i64 0, .int .i64 0, .int .i64 0]) (t := 39) ?hr ?_; (case hd => rfl); (case hg => rfl); (case hr => first | (go_simp; done) | (go_simp; rfl)); intro gb369 hg w47 hbox hb; have n0_ := Aside0.mk (Kd.R_below (by (with_reducible repeat (first | apply Kd.R_alloc | apply Kd.R_drewN | apply Kd.R_drew)); exact HO347.out) hb); have n1_ := Aside0.mk (Kd.S_below (by (with_reducible repeat (first | apply Kd.S_alloc | apply Kd.S_drewN | apply Kd.S_drew)); exact HO356.out) hb); have n2_ := Aside0.mk (Kd.R_below (by (with_reducible repeat (first | apply Kd.R_alloc | apply Kd.R_drewN | apply Kd.R_drew)); exact HO359.out) hb); have n3_ := Aside0.mk (blk_below (g := gb361) (o := .cells #[.slice Ao40 t357.length co40, .int .i64 t360] 36 (0, 0)) (by (with_reducible repeat (first | refine blk_drewN ?_ _ | refine blk_drew ?_ | refine blk_alloc ?_ _)); exact BK361.out) hb); have n4_ := Aside0.mk (blk_below (g := gb365) (o := .cells #[.int .i64 t362, .int .i64 t363, .int .i64 t364] 39 (0, 0)) (by (with_reducible repeat (first | refine blk_drewN ?_ _ | refine blk_drew ?_ | refine blk_alloc ?_ _)); exact BK365.out) hb); have n5_ := Aside0.mk (below_step (by repeat (first | (with_reducible first | exact HB.out | apply below_alloc | apply pw_below_drewN | apply below_drew1 | refine below_set ?_ GE361.out | refine below_set ?_ GE365.out) | exact HB.out)) hb); have n6_ := Aside0.mk (hbox); have n7_ := Aside0.mk ((by rw [hg]; exact (below_size (by repeat (first | (with_reducible first | exact HB.out | apply below_alloc | apply pw_below_drewN | apply below_drew1 | refine below_set ?_ GE361.out | refine below_set ?_ GE365.out) | exact HB.out))) : w.heap.size ≤ gb369)); have n8_ := Aside0.mk ((by rw [hg]; exact (below_size (by repeat (first | (with_reducible first | exact HB.out | apply below_alloc | apply pw_below_drewN | apply below_drew1 | refine below_set ?_ GE361.out | refine below_set ?_ GE365.out) | exact HB.out))) : w.heap.size ≤ gb369)); have n9_ := Aside0.mk ((by rw [hg]; exact Nat.ne_of_lt (blk_lt (g := gb361) (o := .cells #[.slice Ao40 t357.length co40, .int .i64 t360] 36 (0, 0)) (by (with_reducible repeat (first | refine blk_drewN ?_ _ | refine blk_drew ?_ | refine blk_alloc ?_ _)); exact BK361.out)) : gb361 ≠ gb369)); have n10_ := Aside0.mk ((by rw [hg]; exact Nat.ne_of_gt (blk_lt (g := gb361) (o := .cells #[.slice Ao40 t357.length co40, .int .i64 t360] 36 (0, 0)) (by (with_reducible repeat (first | refine blk_drewN ?_ _ | refine blk_drew ?_ | refine blk_alloc ?_ _)); exact BK361.out)) : gb369 ≠ gb361)); have n11_ := Aside0.mk ((by rw [hg]; exact Nat.ne_of_lt (blk_lt (g := gb365) (o := .cells #[.int .i64 t362, .int .i64 t363, .int .i64 t364] 39 (0, 0)) (by (with_reducible repeat (first | refine blk_drewN ?_ _ | refine blk_drew ?_ | refine blk_alloc ?_ _)); exact BK365.out)) : gb365 ≠ gb369)); have n12_ := Aside0.mk ((by rw [hg]; exact Nat.ne_of_gt (blk_lt (g := gb365) (o := .cells #[.int .i64 t362, .int .i64 t363, .int .i64 t364] 39 (0, 0)) (by (with_reducible repeat (first | refine blk_drewN ?_ _ | refine blk_drew ?_ | refine blk_alloc ?_ _)); exact BK365.out)) : gb369 ≠ gb365)); clear HO347; clear HO356; clear HO359; clear BK361; clear BK365; clear HB; have HO347 := n0_; have HO356 := n1_; have HO359 := n2_; have BK361 := n3_; have BK365 := n4_; have HB := n5_; have BK369 := n6_; have GW369 := n7_; have GE369 := n8_; have NB361_369 := n9_; have NB369_361 := n10_; have NB365_369 := n11_; have NB369_365 := n12_; clear n0_ n1_ n2_ n3_ n4_ n5_ n6_ n7_ n8_ n9_ n10_ n11_ n12_; clear hb hbox hg; have hnb48 := NB369_361.out; have hnc48 := NB361_369.out; have hnb49 := NB369_365.out; have hnc49 := NB365_369.out; have hcz50_0 : w47.cell? ⟨gb369, 0, none⟩ = some (.int .i64 0) := (blk_cell BK369.out 0).trans rfl; have hcz50_1 : w47.cell? ⟨gb369, 1, none⟩ = some (.int .i64 0) := (blk_cell BK369.out 1).trans rfl; have hcz50_2 : w47.cell? ⟨gb369, 2, none⟩ = some (.int .i64 0) := (blk_cell BK369.out 2).trans rfl; have hfz50_0 := blk_frozen BK369.out 0; have hfz50_1 := blk_frozen BK369.out 1; have hfz50_2 := blk_frozen BK369.out 2) | ((with_reducible refine gate_callee (f := 18) rfl ?_); refine goesL_ (some 82) rfl rfl Try.func18 (by kernel_rfl) rfl #[.int .i64 a0, .slice A1 l1.length c1, .slice A2 l2.length c2] rfl (by (try simp only [List.map_toArray, List.map_cons, List.map_nil]); first | done | rfl | (simp only [List.length_drop, List.length_take]; rfl)) ?_; (with_reducible refine (antiquaryref09_Table.calls kj5 a0 _ _ l1 _ _ l2 t370 t373 _ ?side1 ?side2 ?side3 ?side4 A21.out).mono ?_); (case side1 => exact Kd.C_below HR1.out (by repeat (first | (with_reducible first | exact HB.out | apply below_alloc | apply pw_below_drewN | apply below_drew1 | refine below_set ?_ GE361.out | refine below_set ?_ GE365.out | refine below_set ?_ GE369.out) | exact HB.out))); (case side2 => exact HC1.out); (case side3 => exact Kd.C_below HR2.out (by repeat (first | (with_reducible first | exact HB.out | apply below_alloc | apply pw_below_drewN | apply below_drew1 | refine below_set ?_ GE361.out | refine below_set ?_ GE365.out | refine below_set ?_ GE369.out) | exact HB.out))); (case side4 => exact HC2.out); rintro e w51 ⟨v371, rfl, ho0, hb⟩; refine ⟨_, rfl, ?_⟩; have n0_ := Aside0.mk (Kd.R_below (by (with_reducible repeat (first | apply Kd.R_alloc | apply Kd.R_drewN | apply Kd.R_drew)); exact (Kd.R_mono (Kd.R_far (p := ⟨gb369, 2, none⟩) (Kd.R_far (p := ⟨gb369, 1, none⟩) (Kd.R_far (p := ⟨gb369, 0, none⟩) (Kd.R_types HO347.out BK369.out (by decide)) (fun _ hk => hk.2) (.int .i64 t366)) (fun _ hk => hk.2) (.int .i64 t367)) (fun _ hk => hk.2) (.int .i64 t368)) (fun _ h_ => h_.1))) hb); have n1_ := Aside0.mk (Kd.S_elder' (by (with_reducible repeat (first | apply Kd.S_alloc | apply Kd.S_drewN | apply Kd.S_drew)); exact (Kd.S_mono (Kd.S_far (p := ⟨gb369, 2, none⟩) (Kd.S_far (p := ⟨gb369, 1, none⟩) (Kd.S_far (p := ⟨gb369, 0, none⟩) (Kd.S_types HO356.out BK369.out (by decide)) (fun _ hk => hk.2) (.int .i64 t366)) (fun _ hk => hk.2) (.int .i64 t367)) (fun _ hk => hk.2) (.int .i64 t368)) (fun _ h_ => h_.1))) (Kd.S_base ho0) hb); have n2_ := Aside0.mk (Kd.R_below (by (with_reducible repeat (first | apply Kd.R_alloc | apply Kd.R_drewN | apply Kd.R_drew)); exact (Kd.R_mono (Kd.R_far (p := ⟨gb369, 2, none⟩) (Kd.R_far (p := ⟨gb369, 1, none⟩) (Kd.R_far (p := ⟨gb369, 0, none⟩) (Kd.R_types HO359.out BK369.out (by decide)) (fun _ hk => hk.2) (.int .i64 t366)) (fun _ hk => hk.2) (.int .i64 t367)) (fun _ hk => hk.2) (.int .i64 t368)) (fun _ h_ => h_.1))) hb); have n3_ := Aside0.mk (Kd.S_lower (Kd.S_new' (Kd.S_new' (Kd.S_new' ho0 (Kd.R_lt (by (with_reducible repeat (first | apply Kd.R_alloc | apply Kd.R_drewN | apply Kd.R_drew)); exact (Kd.R_mono (Kd.R_far (p := ⟨gb369, 2, none⟩) (Kd.R_far (p := ⟨gb369, 1, none⟩) (Kd.R_far (p := ⟨gb369, 0, none⟩) (Kd.R_types HO347.out BK369.out (by decide)) (fun _ hk => hk.2) (.int .i64 t366)) (fun _ hk => hk.2) (.int .i64 t367)) (fun _ hk => hk.2) (.int .i64 t368)) (fun _ h_ => h_.1))))) (Kd.S_lt (by (with_reducible repeat (first | apply Kd.S_alloc | apply Kd.S_drewN | apply Kd.S_drew)); exact (Kd.S_mono (Kd.S_far (p := ⟨gb369, 2, none⟩) (Kd.S_far (p := ⟨gb369, 1, none⟩) (Kd.S_far (p := ⟨gb369, 0, none⟩) (Kd.S_types HO356.out BK369.out (by decide)) (fun _ hk => hk.2) (.int .i64 t366)) (fun _ hk => hk.2) (.int .i64 t367)) (fun _ hk => hk.2) (.int .i64 t368)) (fun _ h_ => h_.1))))) (Kd.R_lt (by (with_reducible repeat (first | apply Kd.R_alloc | apply Kd.R_drewN | apply Kd.R_drew)); exact (Kd.R_mono (Kd.R_far (p := ⟨gb369, 2, none⟩) (Kd.R_far (p := ⟨gb369, 1, none⟩) (Kd.R_far (p := ⟨gb369, 0, none⟩) (Kd.R_types HO359.out BK369.out (by decide)) (fun _ hk => hk.2) (.int .i64 t366)) (fun _ hk => hk.2) (.int .i64 t367)) (fun _ hk => hk.2) (.int .i64 t368)) (fun _ h_ => h_.1))))) (below_size (by repeat (first | (with_reducible first | exact HB.out | apply below_alloc | apply pw_below_drewN | apply below_drew1 | refine below_set ?_ GE361.out | refine below_set ?_ GE365.out | refine below_set ?_ GE369.out) | exact HB.out)))); have n4_ := Aside0.mk (blk_below (g := gb361) (o := .cells #[.slice Ao40 t357.length co40, .int .i64 t360] 36 (0, 0)) (by (with_reducible repeat (first | refine blk_drewN ?_ _ | refine blk_drew ?_ | refine blk_alloc ?_ _)); refine blk_far ?_ NB361_369.out _; (with_reducible repeat (first | refine blk_drewN ?_ _ | refine blk_drew ?_ | refine blk_alloc ?_ _)); refine blk_far ?_ NB361_369.out _; (with_reducible repeat (first | refine blk_drewN ?_ _ | refine blk_drew ?_ | refine blk_alloc ?_ _)); refine blk_far ?_ NB361_369.out _; (with_reducible repeat (first | refine blk_drewN ?_ _ | refine blk_drew ?_ | refine blk_alloc ?_ _)); exact BK361.out) hb); have n5_ := Aside0.mk (blk_below (g := gb365) (o := .cells #[.int .i64 t362, .int .i64 t363, .int .i64 t364] 39 (0, 0)) (by (with_reducible repeat (first | refine blk_drewN ?_ _ | refine blk_drew ?_ | refine blk_alloc ?_ _)); refine blk_far ?_ NB365_369.out _; (with_reducible repeat (first | refine blk_drewN ?_ _ | refine blk_drew ?_ | refine blk_alloc ?_ _)); refine blk_far ?_ NB365_369.out _; (with_reducible repeat (first | refine blk_drewN ?_ _ | refine blk_drew ?_ | refine blk_alloc ?_ _)); refine blk_far ?_ NB365_369.out _; (with_reducible repeat (first | refine blk_drewN ?_ _ | refine blk_drew ?_ | refine blk_alloc ?_ _)); exact BK365.out) hb); have n6_ := Aside0.mk (blk_below (g := gb369) (o := .cells #[.int .i64 t366, .int .i64 t367, .int .i64 t368] 39 (0, 0)) (by (with_reducible repeat (first | refine blk_drewN ?_ _ | refine blk_drew ?_ | refine blk_alloc ?_ _)); refine blk_put (cs := #[.int .i64 t366, .int .i64 t367, .int .i64 0]) ?_ 2 _ rfl; (with_reducible repeat (first | refine blk_drewN ?_ _ | refine blk_drew ?_ | refine blk_alloc ?_ _)); refine blk_put (cs := #[.int .i64 t366, .int .i64 0, .int .i64 0]) ?_ 1 _ rfl; (with_reducible repeat (first | refine blk_drewN ?_ _ | refine blk_drew ?_ | refine blk_alloc ?_ _)); refine blk_put (cs := #[.int .i64 0, .int .i64 0, .int .i64 0]) ?_ 0 _ rfl; (with_reducible repeat (first | refine blk_drewN ?_ _ | refine blk_drew ?_ | refine blk_alloc ?_ _)); exact BK369.out) hb); have n7_ := Aside0.mk (below_step (by repeat (first | (with_reducible first | exact HB.out | apply below_alloc | apply pw_below_drewN | apply below_drew1 | refine below_set ?_ GE361.out | refine below_set ?_ GE365.out | refine below_set ?_ GE369.out) | exact HB.out)) hb); clear HO347; clear HO356; clear HO359; clear BK361; clear BK365; clear BK369; clear HB; have HO347 := n0_; have HO356 := n1_; have HO359 := n2_; have HO372 := n3_; have BK361 := n4_; have BK365 := n5_; have BK369 := n6_; have HB := n7_; clear n0_ n1_ n2_ n3_ n4_ n5_ n6_ n7_; (try clear hb); (try clear hb2); (try clear hk); (try clear hi); (try clear ho0)) | ((with_reducible refine gate_dst (N := 23) rfl ?_); (try (refine gate_guard (by rfl) ?_; dsimp only)); refine box_event ?hg (N := 23) ?hd (cs := #[.slice none 0 0, .int .i64 0]) (t := 43) ?hr ?_; (case hd => rfl); (case hg => rfl); (case hr => first | (go_simp; done) | (go_simp; rfl)); intro gb374 hg w52 hbox hb; have n0_ := Aside0.mk (Kd.R_below (by (with_reducible repeat (first | apply Kd.R_alloc | apply Kd.R_drewN | apply Kd.R_drew)); exact HO347.out) hb); have n1_ := Aside0.mk (Kd.S_below (by (with_reducible repeat (first | apply Kd.S_alloc | apply Kd.S_drewN | apply Kd.S_drew)); exact HO356.out) hb); have n2_ := Aside0.mk (Kd.R_below (by (with_reducible repeat (first | apply Kd.R_alloc | apply Kd.R_drewN | apply Kd.R_drew)); exact HO359.out) hb); have n3_ := Aside0.mk (Kd.S_below (by (with_reducible repeat (first | apply Kd.S_alloc | apply Kd.S_drewN | apply Kd.S_drew)); exact HO372.out) hb); have n4_ := Aside0.mk (blk_below (g := gb361) (o := .cells #[.slice Ao40 t357.length co40, .int .i64 t360] 36 (0, 0)) (by (with_reducible repeat (first | refine blk_drewN ?_ _ | refine blk_drew ?_ | refine blk_alloc ?_ _)); exact BK361.out) hb); have n5_ := Aside0.mk (blk_below (g := gb365) (o := .cells #[.int .i64 t362, .int .i64 t363, .int .i64 t364] 39 (0, 0)) (by (with_reducible repeat (first | refine blk_drewN ?_ _ | refine blk_drew ?_ | refine blk_alloc ?_ _)); exact BK365.out) hb); have n6_ := Aside0.mk (blk_below (g := gb369) (o := .cells #[.int .i64 t366, .int .i64 t367, .int .i64 t368] 39 (0, 0)) (by (with_reducible repeat (first | refine blk_drewN ?_ _ | refine blk_drew ?_ | refine blk_alloc ?_ _)); exact BK369.out) hb); have n7_ := Aside0.mk (below_step (by repeat (first | (with_reducible first | exact HB.out | apply below_alloc | apply pw_below_drewN | apply below_drew1 | refine below_set ?_ GE361.out | refine below_set ?_ GE365.out | refine below_set ?_ GE369.out) | exact HB.out)) hb); have n8_ := Aside0.mk (hbox); have n9_ := Aside0.mk ((by rw [hg]; exact (below_size (by repeat (first | (with_reducible first | exact HB.out | apply below_alloc | apply pw_below_drewN | apply below_drew1 | refine below_set ?_ GE361.out | refine below_set ?_ GE365.out | refine below_set ?_ GE369.out) | exact HB.out))) : w.heap.size ≤ gb374)); have n10_ := Aside0.mk ((by rw [hg]; exact (below_size (by repeat (first | (with_reducible first | exact HB.out | apply below_alloc | apply pw_below_drewN | apply below_drew1 | refine below_set ?_ GE361.out | refine below_set ?_ GE365.out | refine below_set ?_ GE369.out) | exact HB.out))) : w.heap.size ≤ gb374)); have n11_ := Aside0.mk ((by rw [hg]; exact Nat.ne_of_lt (blk_lt (g := gb361) (o := .cells #[.slice Ao40 t357.length co40, .int .i64 t360] 36 (0, 0)) (by (with_reducible repeat (first | refine blk_drewN ?_ _ | refine blk_drew ?_ | refine blk_alloc ?_ _)); exact BK361.out)) : gb361 ≠ gb374)); have n12_ := Aside0.mk ((by rw [hg]; exact Nat.ne_of_gt (blk_lt (g := gb361) (o := .cells #[.slice Ao40 t357.length co40, .int .i64 t360] 36 (0, 0)) (by (with_reducible repeat (first | refine blk_drewN ?_ _ | refine blk_drew ?_ | refine blk_alloc ?_ _)); exact BK361.out)) : gb374 ≠ gb361)); have n13_ := Aside0.mk ((by rw [hg]; exact Nat.ne_of_lt (blk_lt (g := gb365) (o := .cells #[.int .i64 t362, .int .i64 t363, .int .i64 t364] 39 (0, 0)) (by (with_reducible repeat (first | refine blk_drewN ?_ _ | refine blk_drew ?_ | refine blk_alloc ?_ _)); exact BK365.out)) : gb365 ≠ gb374)); have n14_ := Aside0.mk ((by rw [hg]; exact Nat.ne_of_gt (blk_lt (g := gb365) (o := .cells #[.int .i64 t362, .int .i64 t363, .int .i64 t364] 39 (0, 0)) (by (with_reducible repeat (first | refine blk_drewN ?_ _ | refine blk_drew ?_ | refine blk_alloc ?_ _)); exact BK365.out)) : gb374 ≠ gb365)); have n15_ := Aside0.mk ((by rw [hg]; exact Nat.ne_of_lt (blk_lt (g := gb369) (o := .cells #[.int .i64 t366, .int .i64 t367, .int .i64 t368] 39 (0, 0)) (by (with_reducible repeat (first | refine blk_drewN ?_ _ | refine blk_drew ?_ | refine blk_alloc ?_ _)); exact BK369.out)) : gb369 ≠ gb374)); have n16_ := Aside0.mk ((by rw [hg]; exact Nat.ne_of_gt (blk_lt (g := gb369) (o := .cells #[.int .i64 t366, .int .i64 t367, .int .i64 t368] 39 (0, 0)) (by (with_reducible repeat (first | refine blk_drewN ?_ _ | refine blk_drew ?_ | refine blk_alloc ?_ _)); exact BK369.out)) : gb374 ≠ gb369)); clear HO347; clear HO356; clear HO359; clear HO372; clear BK361; clear BK365; clear BK369; clear HB; have HO347 := n0_; have HO356 := n1_; have HO359 := n2_; have HO372 := n3_; have BK361 := n4_; have BK365 := n5_; have BK369 := n6_; have HB := n7_; have BK374 := n8_; have GW374 := n9_; have GE374 := n10_; have NB361_374 := n11_; have NB374_361 := n12_; have NB365_374 := n13_; have NB374_365 := n14_; have NB369_374 := n15_; have NB374_369 := n16_; clear n0_ n1_ n2_ n3_ n4_ n5_ n6_ n7_ n8_ n9_ n10_ n11_ n12_ n13_ n14_ n15_ n16_; clear hb hbox hg; obtain ⟨Ao53, co53, eo53⟩ := Kd.S_slice HO372.out; subst eo53; have hnb54 := NB374_361.out; have hnc54 := NB361_374.out; have hnb55 := NB374_365.out; have hnc55 := NB365_374.out; have hnb56 := NB374_369.out; have hnc56 := NB369_374.out; have hcz57_0 : w52.cell? ⟨gb374, 0, none⟩ = some (.slice none 0 0) := (blk_cell BK374.out 0).trans rfl; have hcz57_1 : w52.cell? ⟨gb374, 1, none⟩ = some (.int .i64 0) := (blk_cell BK374.out 1).trans rfl; have hfz57_0 := blk_frozen BK374.out 0; have hfz57_1 := blk_frozen BK374.out 1) | ((with_reducible refine gate_callee (f := 10) rfl ?_); refine goesL_ (some 83) rfl rfl Try.func10 (by kernel_rfl) rfl #[] rfl (by (try simp only [List.map_toArray, List.map_cons, List.map_nil]); first | done | rfl | (simp only [List.length_drop, List.length_take]; rfl)) ?_; (with_reducible refine (antiquarylaw09_sanity.calls kj5  true _ A22.out (by first | rfl | exact HT.out)).mono ?_); rintro e w58 ⟨rfl, hb⟩; refine ⟨_, rfl, ?_⟩; have n0_ := Aside0.mk (Kd.R_below (by (with_reducible repeat (first | apply Kd.R_alloc | apply Kd.R_drewN | apply Kd.R_drew)); exact (Kd.R_mono (Kd.R_far (p := ⟨gb374, 1, none⟩) (Kd.R_far (p := ⟨gb374, 0, none⟩) (Kd.R_types HO347.out BK374.out (by decide)) (fun _ hk => hk.2) (.slice Ao53 t370.length co53)) (fun _ hk => hk.2) (.int .i64 t373)) (fun _ h_ => h_.1))) hb); have n1_ := Aside0.mk (Kd.S_below (by (with_reducible repeat (first | apply Kd.S_alloc | apply Kd.S_drewN | apply Kd.S_drew)); exact (Kd.S_mono (Kd.S_far (p := ⟨gb374, 1, none⟩) (Kd.S_far (p := ⟨gb374, 0, none⟩) (Kd.S_types HO356.out BK374.out (by decide)) (fun _ hk => hk.2) (.slice Ao53 t370.length co53)) (fun _ hk => hk.2) (.int .i64 t373)) (fun _ h_ => h_.1))) hb); have n2_ := Aside0.mk (Kd.R_below (by (with_reducible repeat (first | apply Kd.R_alloc | apply Kd.R_drewN | apply Kd.R_drew)); exact (Kd.R_mono (Kd.R_far (p := ⟨gb374, 1, none⟩) (Kd.R_far (p := ⟨gb374, 0, none⟩) (Kd.R_types HO359.out BK374.out (by decide)) (fun _ hk => hk.2) (.slice Ao53 t370.length co53)) (fun _ hk => hk.2) (.int .i64 t373)) (fun _ h_ => h_.1))) hb); have n3_ := Aside0.mk (Kd.S_below (by (with_reducible repeat (first | apply Kd.S_alloc | apply Kd.S_drewN | apply Kd.S_drew)); exact (Kd.S_mono (Kd.S_far (p := ⟨gb374, 1, none⟩) (Kd.S_far (p := ⟨gb374, 0, none⟩) (Kd.S_types HO372.out BK374.out (by decide)) (fun _ hk => hk.2) (.slice Ao53 t370.length co53)) (fun _ hk => hk.2) (.int .i64 t373)) (fun _ h_ => h_.1))) hb); have n4_ := Aside0.mk (blk_below (g := gb361) (o := .cells #[.slice Ao40 t357.length co40, .int .i64 t360] 36 (0, 0)) (by (with_reducible repeat (first | refine blk_drewN ?_ _ | refine blk_drew ?_ | refine blk_alloc ?_ _)); refine blk_far ?_ NB361_374.out _; (with_reducible repeat (first | refine blk_drewN ?_ _ | refine blk_drew ?_ | refine blk_alloc ?_ _)); refine blk_far ?_ NB361_374.out _; (with_reducible repeat (first | refine blk_drewN ?_ _ | refine blk_drew ?_ | refine blk_alloc ?_ _)); exact BK361.out) hb); have n5_ := Aside0.mk (blk_below (g := gb365) (o := .cells #[.int .i64 t362, .int .i64 t363, .int .i64 t364] 39 (0, 0)) (by (with_reducible repeat (first | refine blk_drewN ?_ _ | refine blk_drew ?_ | refine blk_alloc ?_ _)); refine blk_far ?_ NB365_374.out _; (with_reducible repeat (first | refine blk_drewN ?_ _ | refine blk_drew ?_ | refine blk_alloc ?_ _)); refine blk_far ?_ NB365_374.out _; (with_reducible repeat (first | refine blk_drewN ?_ _ | refine blk_drew ?_ | refine blk_alloc ?_ _)); exact BK365.out) hb); have n6_ := Aside0.mk (blk_below (g := gb369) (o := .cells #[.int .i64 t366, .int .i64 t367, .int .i64 t368] 39 (0, 0)) (by (with_reducible repeat (first | refine blk_drewN ?_ _ | refine blk_drew ?_ | refine blk_alloc ?_ _)); refine blk_far ?_ NB369_374.out _; (with_reducible repeat (first | refine blk_drewN ?_ _ | refine blk_drew ?_ | refine blk_alloc ?_ _)); refine blk_far ?_ NB369_374.out _; (with_reducible repeat (first | refine blk_drewN ?_ _ | refine blk_drew ?_ | refine blk_alloc ?_ _)); exact BK369.out) hb); have n7_ := Aside0.mk (blk_below (g := gb374) (o := .cells #[.slice Ao53 t370.length co53, .int .i64 t373] 43 (0, 0)) (by (with_reducible repeat (first | refine blk_drewN ?_ _ | refine blk_drew ?_ | refine blk_alloc ?_ _)); refine blk_put (cs := #[.slice Ao53 t370.length co53, .int .i64 0]) ?_ 1 _ rfl; (with_reducible repeat (first | refine blk_drewN ?_ _ | refine blk_drew ?_ | refine blk_alloc ?_ _)); refine blk_put (cs := #[.slice none 0 0, .int .i64 0]) ?_ 0 _ rfl; (with_reducible repeat (first | refine blk_drewN ?_ _ | refine blk_drew ?_ | refine blk_alloc ?_ _)); exact BK374.out) hb); have n8_ := Aside0.mk (below_step (by repeat (first | (with_reducible first | exact HB.out | apply below_alloc | apply pw_below_drewN | apply below_drew1 | refine below_set ?_ GE361.out | refine below_set ?_ GE365.out | refine below_set ?_ GE369.out | refine below_set ?_ GE374.out) | exact HB.out)) hb); clear HO347; clear HO356; clear HO359; clear HO372; clear BK361; clear BK365; clear BK369; clear BK374; clear HB; have HO347 := n0_; have HO356 := n1_; have HO359 := n2_; have HO372 := n3_; have BK361 := n4_; have BK365 := n5_; have BK369 := n6_; have BK374 := n7_; have HB := n8_; clear n0_ n1_ n2_ n3_ n4_ n5_ n6_ n7_ n8_; (try clear hb); (try clear hb2); (try clear hk); (try clear hi); have hcz59_0 : w58.cell? ⟨gb361, 0, none⟩ = some (.slice Ao40 t357.length co40) := (blk_cell BK361.out 0).trans rfl; have hcz59_1 : w58.cell? ⟨gb361, 1, none⟩ = some (.int .i64 t360) := (blk_cell BK361.out 1).trans rfl; have hfz59_0 := blk_frozen BK361.out 0; have hfz59_1 := blk_frozen BK361.out 1; obtain ⟨Ao60, co60, eo60⟩ := Kd.R_slice HO347.out; subst eo60) | (go_at_call 19; (with_reducible refine (antiquaryref09_Same.calls kj5 _ _ t344 _ _ t357 true _ ?side1 ?side2 ?side3 ?side4 A24.out).mono ?_); (case side1 => repeat (first | exact (Kd.R_reads' HO347.out).2.2 | (with_reducible refine Kd.C_alloc ?_ _) | (with_reducible refine Kd.C_drewN ?_ _) | (with_reducible refine Kd.C_drew ?_))); (case side2 => exact (Kd.R_reads' HO347.out).2.1); (case side3 => repeat (first | exact (Kd.R_reads' HO359.out).2.2 | (with_reducible refine Kd.C_alloc ?_ _) | (with_reducible refine Kd.C_drewN ?_ _) | (with_reducible refine Kd.C_drew ?_))); (case side4 => exact (Kd.R_reads' HO359.out).2.1); rintro e w' ⟨rfl, ⟨nd, rfl⟩⟩; have hcz61_0 : w58.cell? ⟨gb365, 0, none⟩ = some (.int .i64 t362) := (blk_cell BK365.out 0).trans rfl; have hcz61_1 : w58.cell? ⟨gb365, 1, none⟩ = some (.int .i64 t363) := (blk_cell BK365.out 1).trans rfl; have hcz61_2 : w58.cell? ⟨gb365, 2, none⟩ = some (.int .i64 t364) := (blk_cell BK365.out 2).trans rfl; have hfz61_0 := blk_frozen BK365.out 0; have hfz61_1 := blk_frozen BK365.out 1; have hfz61_2 := blk_frozen BK365.out 2; have hcz62_0 : w58.cell? ⟨gb369, 0, none⟩ = some (.int .i64 t366) := (blk_cell BK369.out 0).trans rfl; have hcz62_1 : w58.cell? ⟨gb369, 1, none⟩ = some (.int .i64 t367) := (blk_cell BK369.out 1).trans rfl; have hcz62_2 : w58.cell? ⟨gb369, 2, none⟩ = some (.int .i64 t368) := (blk_cell BK369.out 2).trans rfl; have hfz62_0 := blk_frozen BK369.out 0; have hfz62_1 := blk_frozen BK369.out 1; have hfz62_2 := blk_frozen BK369.out 2; have hcz63_0 : w58.cell? ⟨gb374, 0, none⟩ = some (.slice Ao53 t370.length co53) := (blk_cell BK374.out 0).trans rfl; have hcz63_1 : w58.cell? ⟨gb374, 1, none⟩ = some (.int .i64 t373) := (blk_cell BK374.out 1).trans rfl; have hfz63_0 := blk_frozen BK374.out 0; have hfz63_1 := blk_frozen BK374.out 1; obtain ⟨Ao64, co64, eo64⟩ := Kd.S_slice HO356.out; subst eo64) | (go_at_call 20; (with_reducible refine (antiquaryref09_SameRows.calls kj5 _ _ t353 _ _ t370 true _ ?side1 ?side2 ?side3 ?side4 A32.out).mono ?_); (case side1 => repeat (first | exact (Kd.S_reads' HO356.out).2.2 | (with_reducible refine Kd.C_alloc ?_ _) | (with_reducible refine Kd.C_drewN ?_ _) | (with_reducible refine Kd.C_drew ?_))); (case side2 => exact (Kd.S_reads' HO356.out).2.1); (case side3 => repeat (first | exact (Kd.S_reads' HO372.out).2.2 | (with_reducible refine Kd.C_alloc ?_ _) | (with_reducible refine Kd.C_drewN ?_ _) | (with_reducible refine Kd.C_drew ?_))); (case side4 => exact (Kd.S_reads' HO372.out).2.1); rintro e w' ⟨rfl, ⟨nd, rfl⟩⟩))
                          go_ret
                          exact ⟨by first | rfl | (simp [errW_none, errW_some] <;> rfl) | (simp [*, errW_none, errW_some] <;> rfl), by repeat (first | (with_reducible first | exact HB.out | apply below_alloc | apply pw_below_drewN | apply below_drew1 | refine below_set ?_ GE361.out | refine below_set ?_ GE365.out | refine below_set ?_ GE369.out | refine below_set ?_ GE374.out) | exact HB.out)⟩
                        · replace c33 := Bool.eq_false_iff.mpr c33
                          subst c33
                          have H1 : (some false) = some r := by rw [if_neg (show ¬ (false = true) by decide)] at H; exact H
                          clear H
                          have H := H1
                          clear H1
                          exact absurd (Option.some.inj H) (by rw [HT.out]; decide)
                      · rw [if_neg c31] at H
                        have c31b0 : (t352 == t368) = false := beq_eq_false_iff_ne.mpr c31
                        have c31b1 : (t352 != t368) = true := bne_iff_ne.mpr c31
                        exact absurd (Option.some.inj H) (by rw [HT.out]; decide)
                    · rw [if_neg c30] at H
                      have c30b0 : (t351 == t367) = false := beq_eq_false_iff_ne.mpr c30
                      have c30b1 : (t351 != t367) = true := bne_iff_ne.mpr c30
                      exact absurd (Option.some.inj H) (by rw [HT.out]; decide)
                  · rw [if_neg c29] at H
                    have c29b0 : (t350 == t364) = false := beq_eq_false_iff_ne.mpr c29
                    have c29b1 : (t350 != t364) = true := bne_iff_ne.mpr c29
                    exact absurd (Option.some.inj H) (by rw [HT.out]; decide)
                · rw [if_neg c28] at H
                  have c28b0 : (t349 == t363) = false := beq_eq_false_iff_ne.mpr c28
                  have c28b1 : (t349 != t363) = true := bne_iff_ne.mpr c28
                  exact absurd (Option.some.inj H) (by rw [HT.out]; decide)
              · rw [if_neg c27] at H
                have c27b0 : (t348 == t362) = false := beq_eq_false_iff_ne.mpr c27
                have c27b1 : (t348 != t362) = true := bne_iff_ne.mpr c27
                exact absurd (Option.some.inj H) (by rw [HT.out]; decide)
            · rw [if_neg c26] at H
              have c26b0 : (t345 == t360) = false := beq_eq_false_iff_ne.mpr c26
              have c26b1 : (t345 != t360) = true := bne_iff_ne.mpr c26
              exact absurd (Option.some.inj H) (by rw [HT.out]; decide)
          · replace c25 := Bool.eq_false_iff.mpr c25
            subst c25
            have H1 : (some false) = some r := by rw [if_neg (show ¬ (false = true) by decide)] at H; exact H
            clear H
            have H := H1
            clear H1
            exact absurd (Option.some.inj H) (by rw [HT.out]; decide)
        · replace c23 := Bool.eq_false_iff.mpr c23
          subst c23
          have H1 : (some false) = some r := by rw [if_neg (show ¬ (false = true) by decide)] at H; exact H
          clear H
          have H := H1
          clear H1
          exact absurd (Option.some.inj H) (by rw [HT.out]; decide)
end Go.Proofs.Ytoidpkpgeeeggaa.Q
end
section
set_option linter.unusedVariables false
namespace Go.Proofs.Ytoidpkpgeeeggaa.Near
open Go.RowKit Go.Proofs.Ytoidpkpgeeeggaa.Q Go.Proofs.YtoidpkpgeeeggaaW.PrintWords Plain Go
theorem min_snoc {l : List Int} (h : l ≠ []) (x : Int) : Lib.minOf (l ++ [x]) = if x < Lib.minOf l then x else Lib.minOf l := by
  unfold Lib.minOf
  have e : (l ++ [x]).headD 0 = l.headD 0 := by cases l with
    | nil => exact absurd rfl h
    | cons y l => rfl
  rw [e, List.foldl_append, List.foldl_cons, List.foldl_nil]
  rw [Int.min_def]
  split <;> split <;> omega
theorem max_snoc {l : List Int} (h : l ≠ []) (x : Int) : Lib.maxOf (l ++ [x]) = if Lib.maxOf l < x then x else Lib.maxOf l := by
  unfold Lib.maxOf
  have e : (l ++ [x]).headD 0 = l.headD 0 := by cases l with
    | nil => exact absurd rfl h
    | cons y l => rfl
  rw [e, List.foldl_append, List.foldl_cons, List.foldl_nil]
  rw [Int.max_def]
  split <;> split <;> omega
theorem snoc_ind {α : Type} {P : List α → Prop} (l : List α) (h0 : P []) (hs : ∀ l x, P l → P (l ++ [x])) : P l := by
  have : ∀ n (l : List α), l.length = n → P l := by
    intro n
    induction n with
    | zero => intro l h; rw [List.eq_nil_of_length_eq_zero h]; exact h0
    | succ n ih =>
      intro l h
      have hne : l ≠ [] := by intro e; rw [e] at h; simp at h
      rw [← List.dropLast_concat_getLast hne]
      exact hs _ _ (ih _ (by rw [List.length_dropLast, h]; omega))
  exact this l.length l rfl
theorem min_one (x : Int) : Lib.minOf [x] = x := by simp [Lib.minOf]
theorem max_one (x : Int) : Lib.maxOf [x] = x := by simp [Lib.maxOf]
theorem min_le (l : List Int) : ∀ x ∈ l, Lib.minOf l ≤ x := by
  refine snoc_ind (P := fun l => ∀ x ∈ l, Lib.minOf l ≤ x) l (fun x hx => by cases hx) (fun l y ih x hx => ?_)
  by_cases h : l = []
  · subst h
    simp only [List.nil_append, List.mem_singleton] at hx ⊢
    rw [hx, min_one]; omega
  · rw [min_snoc h]
    rcases List.mem_append.1 hx with hx | hx
    · have := ih x hx; split <;> omega
    · rw [List.mem_singleton] at hx; split <;> omega
theorem le_max (l : List Int) : ∀ x ∈ l, x ≤ Lib.maxOf l := by
  refine snoc_ind (P := fun l => ∀ x ∈ l, x ≤ Lib.maxOf l) l (fun x hx => by cases hx) (fun l y ih x hx => ?_)
  by_cases h : l = []
  · subst h
    simp only [List.nil_append, List.mem_singleton] at hx ⊢
    rw [hx, max_one]; omega
  · rw [max_snoc h]
    rcases List.mem_append.1 hx with hx | hx
    · have := ih x hx; split <;> omega
    · rw [List.mem_singleton] at hx; split <;> omega
theorem min_mem (l : List Int) (h : l ≠ []) : Lib.minOf l ∈ l := by
  refine snoc_ind (P := fun l => l ≠ [] → Lib.minOf l ∈ l) l (fun h => absurd rfl h) (fun l y ih _ => ?_) h
  by_cases h : l = []
  · subst h; simp [min_one]
  · rw [min_snoc h]
    split
    · simp
    · exact List.mem_append_left _ (ih h)
theorem max_mem (l : List Int) (h : l ≠ []) : Lib.maxOf l ∈ l := maxOf_mem (by cases l with
  | nil => exact absurd rfl h
  | cons x l => simp)
theorem find_snoc_in {l : List Int} {x : Int} (h : x ∈ l) (y : Int) : (l ++ [y]).findIdx (· == x) = l.findIdx (· == x) := by
  rw [List.findIdx_append, if_pos (List.findIdx_lt_length_of_exists ⟨x, h, by simp⟩)]
theorem find_snoc_new {l : List Int} {x : Int} (h : ∀ y ∈ l, y ≠ x) : (l ++ [x]).findIdx (· == x) = l.length := by
  have e : l.findIdx (· == x) = l.length := List.findIdx_eq_length_of_false (fun y hy => by simpa using h y hy)
  rw [List.findIdx_append, e, if_neg (by omega)]
  simp [List.findIdx_cons]
def minAt : List Int → Nat → Int × Int → Int × Int
  | [], _, b => b
  | k :: ks, i, b => minAt ks (i + 1) (if k < b.2 then ((i : Int), k) else b)
theorem minAt_is (ks : List Int) : ∀ pre : List Int, pre ≠ [] → minAt ks pre.length (((pre.findIdx (· == Lib.minOf pre) : Nat) : Int), Lib.minOf pre) = ((((pre ++ ks).findIdx (· == Lib.minOf (pre ++ ks)) : Nat) : Int), Lib.minOf (pre ++ ks)) := by
  induction ks with
  | nil => intro pre h; simp [minAt]
  | cons k ks ih =>
    intro pre h
    have e : pre ++ k :: ks = (pre ++ [k]) ++ ks := by simp
    have hn := ih (pre ++ [k]) (by simp)
    rw [e, ← hn]
    simp only [minAt, List.length_append, List.length_singleton]
    congr 1
    have hm := min_snoc h k
    by_cases c : k < Lib.minOf pre
    · rw [if_pos c] at hm
      simp only [if_pos c]
      rw [hm, find_snoc_new (fun y hy => by have := min_le pre y hy; omega)]
    · rw [if_neg c] at hm
      simp only [if_neg c]
      rw [hm, find_snoc_in (min_mem pre h)]
theorem nearAt_is (m : Int) (v : List Int) : ∀ (c : List (List Int)) (i : Nat) (b : Int × Int), nearAt m v c i b = minAt (c.map (fun q => key m q v)) i b
  | [], _, _ => rfl
  | q :: c, i, b => by
    simp only [nearAt, List.map_cons, minAt]
    exact nearAt_is m v c (i + 1) _
theorem nearOf_is (m : Int) {c : List (List Int)} (h : c ≠ []) (v : List Int) : nearOf m c v = ((((keysOf m c v).findIdx (· == Lib.minOf (keysOf m c v)) : Nat) : Int), Lib.minOf (keysOf m c v)) := by
  obtain ⟨q, c, rfl⟩ : ∃ q t, c = q :: t := by
    cases c with
    | nil => exact absurd rfl h
    | cons q t => exact ⟨q, t, rfl⟩
  unfold nearOf
  rw [nearAt_is]
  unfold keysOf
  have hr : rowOf (q :: c) 0 = q := rfl
  rw [hr]
  simp only [List.map_cons, minAt]
  rw [if_neg (by simp)]
  have := minAt_is (c.map fun q => key m q v) [key m q v] (by simp)
  rw [min_one] at this
  simpa using this
theorem keysOf_ne {m : Int} {c : List (List Int)} (h : c ≠ []) (v : List Int) : keysOf m c v ≠ [] := by
  unfold keysOf; simpa using h
def leasts (m : Int) (l ch : List (List Int)) : List Int := l.map (fun v => Lib.minOf (keysOf m ch v))
theorem takeN_get (xs : List Int) (key : Nat → Int) : ∀ i, i ≤ xs.length → ∀ j, (takeN xs key i).getD j 0 = if j < i then mn (xs.getD j 0) (key j) else xs.getD j 0
  | 0, _, j => by simp [takeN]
  | i + 1, h, j => by
    have ih := takeN_get xs key i (by omega)
    have hl := takeN_length xs key i
    have e : rd (takeN xs key i) (i : Int) = xs.getD i 0 := by
      unfold rd; rw [Int.toNat_natCast, ih i, if_neg (by omega)]
    simp only [takeN, e]
    by_cases c : j = i
    · subst c
      rw [if_pos (by omega)]
      simp [List.getD_eq_getElem?_getD, hl, show j < xs.length by omega]
    · have h2 := ih j
      rw [List.getD_eq_getElem?_getD, List.getElem?_set, if_neg (by omega), ← List.getD_eq_getElem?_getD, h2]
      by_cases c2 : j < i
      · rw [if_pos c2, if_pos (by omega)]
      · rw [if_neg c2, if_neg (by omega)]
theorem takeN_is {xs : List Int} {key : Nat → Int} {n : Nat} (h : xs.length = n) : takeN xs key n = (List.range n).map (fun i => mn (xs.getD i 0) (key i)) := by
  apply List.ext_getElem
  · simp [takeN_length, h]
  · intro i h1 h2
    have := takeN_get xs key n (by omega) i
    rw [takeN_length] at h1
    rw [if_pos (by omega), List.getD_eq_getElem?_getD, List.getElem?_eq_getElem (by rw [takeN_length]; omega)] at this
    simpa using this
theorem map_range_row (l : List (List Int)) (f : List Int → Int) : (List.range l.length).map (fun i => f (rowOf l i)) = l.map f := by
  apply List.ext_getElem
  · simp
  · intro i h1 h2
    simp at h1 h2
    simp [rowOf, List.getD_eq_getElem?_getD, h2]
theorem keysOf_snoc (m : Int) (ch : List (List Int)) (q v : List Int) : keysOf m (ch ++ [q]) v = keysOf m ch v ++ [key m q v] := by simp [keysOf]
theorem leasts_first {m : Int} {l : List (List Int)} (ha : ∀ v ∈ l, alike (rowOf l 0) v) : takeN (List.replicate l.length 134217728) (keysTo m l 0) l.length = leasts m l [rowOf l 0] := by
  rw [takeN_is (by simp)]
  unfold leasts
  rw [← map_range_row]
  refine List.map_congr_left (fun i hi => ?_)
  have hi := List.mem_range.1 hi
  have h1 := key_isKey m (ha _ (rowOf_mem hi))
  have := h1.2
  have e : (List.replicate l.length (134217728 : Int)).getD i 0 = 134217728 := by simp [List.getD_eq_getElem?_getD, hi]
  rw [e]
  unfold keysTo keysOf mn
  rw [List.map_singleton, min_one]
  split <;> omega
theorem leasts_more {m : Int} {l ch : List (List Int)} (hc : ch ≠ []) (at_ : Nat) : takeN (leasts m l ch) (keysTo m l at_) l.length = leasts m l (ch ++ [rowOf l at_]) := by
  rw [takeN_is (by simp [leasts])]
  show _ = leasts m l (ch ++ [rowOf l at_])
  unfold leasts
  rw [← map_range_row l (fun v => Lib.minOf (keysOf m (ch ++ [rowOf l at_]) v))]
  refine List.map_congr_left (fun i hi => ?_)
  have hi := List.mem_range.1 hi
  have e : (l.map (fun v => Lib.minOf (keysOf m ch v))).getD i 0 = Lib.minOf (keysOf m ch (rowOf l i)) := by simp [List.getD_eq_getElem?_getD, hi, rowOf]
  rw [e, keysOf_snoc, min_snoc (keysOf_ne hc _)]
  unfold keysTo mn
  split <;> (try split) <;> omega
theorem farN_is {m : Int} {l ch : List (List Int)} (hc : ch ≠ []) (hp : ∀ v ∈ l, 0 ≤ Lib.minOf (keysOf m ch v)) : ∀ i, 0 < i → i ≤ l.length → farN m l ch i = (((leasts m l ch).take i).findIdx (· == Lib.maxOf ((leasts m l ch).take i)), Lib.maxOf ((leasts m l ch).take i)) := by
  intro i h0 hi
  induction i with
  | zero => omega
  | succ i ih =>
    have hll : (leasts m l ch).length = l.length := by simp [leasts]
    have hx : (leasts m l ch)[i]'(by omega) = (nearOf m ch (rowOf l i)).2 := by
      rw [nearOf_is m hc]
      simp [leasts, rowOf, List.getD_eq_getElem?_getD, show i < l.length by omega]
    have hpos : 0 ≤ (nearOf m ch (rowOf l i)).2 := by
      rw [nearOf_is m hc]; exact hp _ (rowOf_mem (by omega))
    rw [List.take_succ_eq_append_getElem (by omega), hx]
    simp only [farN]
    generalize (nearOf m ch (rowOf l i)).2 = x at *
    by_cases h1 : i = 0
    · subst h1
      simp only [farN, List.take_zero, List.nil_append, max_one]
      by_cases c : x > 0
      · have c' : x > (0 : Int) := c
        simp [c', List.findIdx_cons]
      · obtain rfl : x = 0 := by omega
        simp [List.findIdx_cons]
    · rw [ih (by omega) (by omega)]
      have hne : (leasts m l ch).take i ≠ [] := by
        intro e
        have h2 : ((leasts m l ch).take i).length = i := by rw [List.length_take]; omega
        rw [e] at h2; simp at h2; omega
      have hm := max_snoc hne x
      have htl : ((leasts m l ch).take i).length = i := by rw [List.length_take]; omega
      generalize (leasts m l ch).take i = t at *
      by_cases c : Lib.maxOf t < x
      · rw [if_pos c] at hm
        rw [if_pos c, hm, find_snoc_new (fun y hy => by have := le_max t y hy; omega)]
        rw [htl]
      · rw [if_neg c] at hm
        rw [if_neg c, hm, find_snoc_in (max_mem t hne)]
theorem mins_nonneg (m : Int) {ch : List (List Int)} (hc : ch ≠ []) (v : List Int) : 0 ≤ Lib.minOf (keysOf m ch v) := by
  have := min_mem _ (keysOf_ne (m := m) hc v)
  unfold keysOf at this
  obtain ⟨q, _, e⟩ := List.mem_map.1 this
  unfold keysOf
  rw [← e]
  exact key_nonneg m q v
theorem farN_all {m : Int} {l ch : List (List Int)} (hc : ch ≠ []) (hl : 0 < l.length) : farN m l ch l.length = (farAt (leasts m l ch), Lib.maxOf (leasts m l ch)) := by
  have h := farN_is (m := m) (l := l) hc (fun v _ => mins_nonneg m hc v) l.length hl (Nat.le_refl _)
  rw [List.take_of_length_le (by simp [leasts])] at h
  exact h
theorem chooseL_is (m : Int) (l : List (List Int)) (most : Int) (hl : 0 < l.length) : ∀ (n : Nat) (out : List Int) (ch : List (List Int)), ch ≠ [] → chooseL m l most n (leasts m l ch) out = rchooseL m l most n out ch
  | 0, _, _, _ => rfl
  | n + 1, out, ch, hc => by
    have hf := farN_all (m := m) (l := l) hc hl
    simp only [chooseL, rchooseL, hf]
    split
    · split
      · rfl
      · rw [leasts_more hc]
        exact chooseL_is m l most hl n _ _ (by simp)
    · rfl
theorem choose_is {m : Int} {l : List (List Int)} (most : Int) (hf : pivot_isFit l) : chooseOf m l most = rchooseOf m l most := by
  unfold chooseOf rchooseOf
  rw [leasts_first hf.2.2]
  exact chooseL_is m l most hf.1 8 _ _ (by simp)
end Go.Proofs.Ytoidpkpgeeeggaa.Near
end
section
set_option linter.unusedVariables false
namespace Go.Proofs.Ytoidpkpgeeeggaa.EvTab
open Go.RowKit Go.Proofs.Ytoidpkpgeeeggaa.Q Go.Proofs.YtoidpkpgeeeggaaW.PrintWords Plain Go.Proofs.Ytoidpkpgeeeggaa.Near Go
theorem few_ev (l : List (List Int)) (most : Int) (hm : most ≤ 1000) : Ev (fun k => antiquaryref09_Few.f k l most) (decide ((l.length : Int) ≤ most ∧ ∀ v ∈ l, v.length ≤ 40)) := by
  unfold antiquaryref09_Few.f
  by_cases h : (l.length : Int) > most
  · exact ev_pos h (ev_some (decide_eq_false (fun h2 => by have := h2.1; omega)).symm)
  refine ev_neg h ?_
  have hall := all_lt l [] (fun v => v.length ≤ 40)
  refine ev_count (G := fun i k => antiquaryref09_Few.l0 k l (i : Int)) (n := l.length) (fun i => ∀ j, j < i → (l.getD j []).length ≤ 40) (fun j hj => by omega) (fun i hi hI h2 => ?_) (fun hI => ?_)
  · refine ev_succ ?_
    simp only [antiquaryref09_Few.l0]
    refine ev_pos (by omega) (ev_pos (by omega) ?_)
    rw [show rd_L1 l (i : Int) = l.getD i [] by unfold rd_L1; rw [Int.toNat_natCast]]
    by_cases c : ((l.getD i []).length : Int) > 40
    · exact ev_pos c (ev_some (decide_eq_false (fun h => by have := hall.1 h.2 i hi; omega)).symm)
    · refine ev_neg c ?_
      rw [wsuc i (by omega)]
      refine h2 (fun j hj => ?_)
      rcases Nat.lt_succ_iff_lt_or_eq.1 hj with h1 | rfl
      · exact hI j h1
      · omega
  · refine ev_succ ?_
    simp only [antiquaryref09_Few.l0]
    refine ev_neg (by omega) (ev_some ?_)
    symm
    rw [decide_eq_true_eq]
    exact ⟨by omega, hall.2 hI⟩
theorem few_of {l : List (List Int)} {most : Int} (hm : most ≤ 1000) (h : (l.length : Int) ≤ most ∧ ∀ v ∈ l, v.length ≤ 40) : pivot_few l := ⟨by omega, fun v hv => by have := h.2 v hv; omega⟩
theorem small_of {l : List (List Int)} (h : pivot_few l) : pivot_smallRows l := ⟨by have := h.1; omega, fun v hv => by have := h.2 v hv; omega⟩
def isPivots (m : Int) (p : List (List Int)) : Prop := (1 ≤ m ∧ m ≤ 3) ∧ pivot_isFit p ∧ p.length ≤ 8
instance (m : Int) (p : List (List Int)) : Decidable (isPivots m p) := by unfold isPivots; infer_instance
theorem pivots_ev (m : Int) {p : List (List Int)} (hp : pivot_few p) : Ev (fun k => antiquaryref09_Pivots.f k m p) (decide (isPivots m p)) := by
  unfold antiquaryref09_Pivots.f
  refine ev_ob (ref09_Metric_is m) ?_
  by_cases h1 : 1 ≤ m ∧ m ≤ 3
  · refine ev_pos (by simpa using h1) (ev_bind (ref09_Fit_ev hp) ?_)
    by_cases h2 : pivot_isFit p
    · refine ev_pos (by simpa using h2) (ev_some ?_)
      rw [Bool.eq_iff_iff, decide_eq_true_eq, decide_eq_true_eq]
      exact ⟨fun h => ⟨h1, h2, by omega⟩, fun h => by have := h.2.2; omega⟩
    · exact ev_neg (by simpa using h2) (ev_some (decide_eq_false (fun h => h2 h.2.1)).symm)
  · exact ev_neg (by simpa using h1) (ev_some (decide_eq_false (fun h => h1 h.1)).symm)
theorem row0_fit {l : List (List Int)} (h : pivot_isFit l) : isVec (rowOf l 0) := (h.2.2 _ (rowOf_mem (i := 0) (by have := h.1; omega))).1
theorem both_ev (m : Int) {p l : List (List Int)} (hp : pivot_few p) (hl : pivot_few l) : Ev (fun k => antiquaryref09_Both.f k m p l) (decide (tabOk m p l)) := by
  unfold antiquaryref09_Both.f
  refine ev_bind (pivots_ev m hp) ?_
  by_cases h1 : isPivots m p
  · refine ev_pos (by simpa using h1) (ev_bind (ref09_Fit_ev hl) ?_)
    by_cases h2 : pivot_isFit l
    · have a1 := h1.2.1.1
      have a2 := h2.1
      refine ev_pos (by simpa using h2) (ev_pos (by omega) (ev_pos (by omega) (ev_some ?_)))
      rw [show rd_L1 l 0 = rowOf l 0 from rdL_row l 0, show rd_L1 p 0 = rowOf p 0 from rdL_row p 0, Bool.eq_iff_iff, beq_iff_eq, decide_eq_true_eq]
      exact ⟨fun h => ⟨h1, h2, row0_fit h1.2.1, row0_fit h2, by omega⟩, fun (h : tabOk m p l) => by have := h.2.2.2.2; omega⟩
    · exact ev_neg (by simpa using h2) (ev_some (decide_eq_false (fun h => h2 h.2.1)).symm)
  · exact ev_neg (by simpa using h1) (ev_some (decide_eq_false (fun h => h1 h.1)).symm)
theorem rkeys_ev (m : Int) {p : List (List Int)} (hp : p.length ≤ 4096) {v : List Int} (ha : ∀ x ∈ p, alike x v) : Ev (fun k => antiquaryref09_Keys.f k m p v) (keysOf m p v) := by
  refine ev_cast (ev_count0 (G := fun i k => antiquaryref09_Keys.l0 k m p v ((List.range i).map (fun j => key m (rowOf p j) v)) (i : Int)) (n := p.length) (r := keysOf m p v) (fun i hi h => ?_) ?_) rfl
  · refine ev_succ ?_
    simp only [antiquaryref09_Keys.l0]
    refine ev_pos (by omega) (ev_pos (by omega) ?_)
    rw [rdL_row]
    refine ev_bind (R4.key_ev m (ha _ (rowOf_mem hi))) (ev_pos (by simp; omega) ?_)
    rw [wsuc i (by omega)]
    rw [List.range_succ, List.map_append, List.map_singleton] at h
    exact h
  · refine ev_succ ?_
    simp only [antiquaryref09_Keys.l0]
    exact ev_neg (by omega) (ev_some (map_range_row p (fun q => key m q v)))
theorem map_range_rows {β : Type} (l : List (List Int)) (f : List Int → β) : (List.range l.length).map (fun i => f (rowOf l i)) = l.map f := by
  apply List.ext_getElem
  · simp
  · intro i h1 h2
    simp at h1 h2
    simp [rowOf, List.getD_eq_getElem?_getD, h2]
theorem rtable_ev (m : Int) {p l : List (List Int)} (hp : pivot_few p) (hl : pivot_few l) : Ev (fun k => antiquaryref09_Table.f k m p l) (if tabOk m p l then (tableOf m p l, 0) else ([], 1)) := by
  unfold antiquaryref09_Table.f
  refine ev_bind (both_ev m hp hl) ?_
  by_cases h : tabOk m p l
  · rw [if_pos h]
    refine ev_pos (by simpa using h) ?_
    have l1 := hl.1
    refine ev_cast (ev_count0 (G := fun i k => antiquaryref09_Table.l0 k m p l ((List.range i).map (fun j => keysOf m p (rowOf l j))) (i : Int)) (n := l.length) (r := (tableOf m p l, 0)) (fun i hi h2 => ?_) ?_) rfl
    · refine ev_succ ?_
      simp only [antiquaryref09_Table.l0]
      refine ev_pos (by omega) (ev_pos (by omega) ?_)
      rw [rdL_row]
      refine ev_bind (rkeys_ev m hp.1 (fun x hx => tabOk_alike h hx (rowOf_mem hi))) (ev_pos (by simp; omega) ?_)
      rw [wsuc i (by omega)]
      rw [List.range_succ, List.map_append, List.map_singleton] at h2
      exact h2
    · refine ev_succ ?_
      simp only [antiquaryref09_Table.l0]
      refine ev_neg (by omega) (ev_some ?_)
      rw [map_range_rows l (keysOf m p)]; rfl
  · rw [if_neg h]
    exact ev_neg (by simpa using h) (ev_some rfl)
theorem tableOf_length (m : Int) (p l : List (List Int)) : (tableOf m p l).length = l.length := by simp [tableOf]
theorem keysOf_length (m : Int) (p : List (List Int)) (v : List Int) : (keysOf m p v).length = p.length := by simp [keysOf]
theorem row_table {m : Int} {p l : List (List Int)} {i : Nat} (h : i < l.length) : rowOf (tableOf m p l) i = keysOf m p (rowOf l i) := by
  unfold rowOf tableOf; simp [List.getD_eq_getElem?_getD, h]
end Go.Proofs.Ytoidpkpgeeeggaa.EvTab
end
section
set_option linter.unusedVariables false
namespace Go.Proofs.Ytoidpkpgeeeggaa.EvCover
open Go.RowKit Go.Proofs.Ytoidpkpgeeeggaa.Q Go.Proofs.YtoidpkpgeeeggaaW.PrintWords Plain Go.Proofs.Ytoidpkpgeeeggaa.Near Go.Proofs.Ytoidpkpgeeeggaa.EvTab Go
theorem same_ints (a : List Int) (ha : a.length ≤ 9223372036854775807) : Ev (fun k => antiquaryref09_Same.f k a a) true := by
  unfold antiquaryref09_Same.f
  refine ev_pos rfl ?_
  refine ev_count0 (G := fun i k => antiquaryref09_Same.l0 k a a (i : Int)) (n := a.length) (fun i hi h => ?_) ?_
  · refine ev_succ ?_
    simp only [antiquaryref09_Same.l0]
    refine ev_pos (by omega) (ev_pos (by omega) (ev_pos (by omega) (ev_pos (by first | rfl | trivial) ?_)))
    rw [wsuc i (by omega)]
    exact h
  · refine ev_succ ?_
    simp only [antiquaryref09_Same.l0]
    exact ev_neg (by omega) (ev_some rfl)
theorem same_rows (a : List (List Int)) (ha : a.length ≤ 9223372036854775807) (hv : ∀ v ∈ a, v.length ≤ 9223372036854775807) : Ev (fun k => antiquaryref09_SameRows.f k a a) true := by
  unfold antiquaryref09_SameRows.f
  refine ev_pos rfl ?_
  refine ev_count0 (G := fun i k => antiquaryref09_SameRows.l0 k a a (i : Int)) (n := a.length) (fun i hi h => ?_) ?_
  · refine ev_succ ?_
    simp only [antiquaryref09_SameRows.l0]
    refine ev_pos (by omega) (ev_pos (by omega) (ev_pos (by omega) ?_))
    rw [rdL_row]
    refine ev_bind (same_ints _ (hv _ (rowOf_mem hi))) (ev_pos rfl ?_)
    rw [wsuc i (by omega)]
    exact h
  · refine ev_succ ?_
    simp only [antiquaryref09_SameRows.l0]
    exact ev_neg (by omega) (ev_some rfl)
theorem alike_is {p q : List Int} (hp : p.length ≤ 4611686018427387904) : vector_Alike.f p q = some (decide (alike p q)) := by
  by_cases h : p.length = q.length
  · exact vector_Alike.is p q hp (by omega)
  · unfold vector_Alike.f
    rw [if_neg (by omega), decide_eq_false (fun h2 => h h2.2.2)]
def isNear (m : Int) (p : List (List Int)) (v : List Int) : Prop := isPivots m p ∧ alike (rowOf p 0) v
instance (m : Int) (p : List (List Int)) (v : List Int) : Decidable (isNear m p v) := by unfold isNear; infer_instance
def nearIdx (m : Int) (p : List (List Int)) (v : List Int) : Int := (((keysOf m p v).findIdx (· == Lib.minOf (keysOf m p v)) : Nat) : Int)
def nearKey (m : Int) (p : List (List Int)) (v : List Int) : Int := Lib.minOf (keysOf m p v)
theorem fit_ne {p : List (List Int)} (h : pivot_isFit p) : p ≠ [] := by
  intro e; have := h.1; rw [e] at this; simp at this
theorem near_alike {m : Int} {p : List (List Int)} {v : List Int} (h : isNear m p v) : ∀ x ∈ p, alike x v := fun x hx => alike_trans (alike_symm (h.1.2.1.2.2 x hx)) h.2
theorem near_ev (m : Int) {p : List (List Int)} {v : List Int} (hp : pivot_smallRows p) : Ev (fun k => pivot_Nearest.f k m p v) (if isNear m p v then (nearIdx m p v, nearKey m p v, 0) else (0, 0, 1)) := by
  have no : ¬ isNear m p v → Ev (fun k => pivot_Nearest.j0 k m p v true) (if isNear m p v then (nearIdx m p v, nearKey m p v, 0) else (0, 0, 1)) := fun h => by
    refine ev_succ ?_
    simp only [pivot_Nearest.j0]
    exact ev_pos (by first | rfl | trivial) (ev_some (if_neg h).symm)
  unfold pivot_Nearest.f
  refine ev_ob (pivot_arePivots.is hp) ?_
  by_cases h1 : isPivots m p
  · have l0 := h1.2.1.1
    refine ev_pos (decide_eq_true h1) (ev_pos (by omega) ?_)
    rw [show rd_L1 p 0 = rowOf p 0 from rdL_row p 0]
    refine ev_ob (alike_is (hp.2 _ (rowOf_mem (by omega)))) ?_
    by_cases h2 : alike (rowOf p 0) v
    · rw [decide_eq_true h2]
      have h : isNear m p v := ⟨h1, h2⟩
      rw [if_pos h]
      refine ev_succ ?_
      simp only [pivot_Nearest.j0]
      have hk := keysOf_length m p v
      have l8 := h1.2.2
      refine ev_neg (by simp) (ev_bind (pivot_keys.ev h1.1 (by omega) (near_alike h)) (ev_ob (show slices_Min_int_int.f (keysOf m p v) = some (nearKey m p v) from if_pos ⟨by omega, by omega⟩) (ev_bind (slices_Index.ev (by omega) (min_mem _ (keysOf_ne (fit_ne h1.2.1) v))) (ev_some rfl))))
    · rw [decide_eq_false h2]
      exact no (fun h => h2 h.2)
  · exact ev_neg (fun h => h1 (of_decide_eq_true h)) (no (fun h => h1 h.1))
theorem rnear_ev (m : Int) {p : List (List Int)} {v : List Int} (hp : pivot_few p) (hv : v.length ≤ 1000000) : Ev (fun k => antiquaryref09_Nearest.f k m p v) (if isNear m p v then (nearIdx m p v, nearKey m p v, 0) else (0, 0, 1)) := by
  unfold antiquaryref09_Nearest.f
  refine ev_bind (pivots_ev m hp) ?_
  by_cases h1 : isPivots m p
  · have l0 := h1.2.1.1
    refine ev_pos (decide_eq_true h1) (ev_pos (by omega) ?_)
    rw [show rd_L1 p 0 = rowOf p 0 from rdL_row p 0]
    have hl0 := hp.2 _ (rowOf_mem (l := p) (i := 0) (by omega))
    refine ev_bind (R4.alike_ev _ _ (by omega) (by omega)) ?_
    by_cases h2 : alike (rowOf p 0) v
    · have h : isNear m p v := ⟨h1, h2⟩
      rw [if_pos h]
      refine ev_pos (decide_eq_true h2) (ev_bind (ref09_near_ev m (by omega) hp.1 (near_alike h)) (ev_some ?_))
      rw [nearOf_is m (fit_ne h1.2.1) v]
      rfl
    · rw [if_neg (fun h => h2 h.2)]
      exact ev_neg (by simpa using h2) (ev_some rfl)
  · rw [if_neg (fun h => h1 h.1)]
    exact ev_neg (by simpa using h1) (ev_some rfl)
/-- the greatest key of a vector and its nearest pivot, of the first n -/
def coverN (m : Int) (p l : List (List Int)) : Nat → Int
  | 0 => 0
  | n + 1 => mx (coverN m p l n) (nearKey m p (rowOf l n))
def coverOf (m : Int) (p l : List (List Int)) : Int := coverN m p l l.length
theorem tab_near {m : Int} {p l : List (List Int)} (h : tabOk m p l) {i : Nat} (hi : i < l.length) : ∀ x ∈ p, alike x (rowOf l i) := fun x hx => tabOk_alike h hx (rowOf_mem hi)
theorem cover_ev (m : Int) {p l : List (List Int)} (hp : pivot_smallRows p) (hl : pivot_smallRows l) : Ev (fun k => pivot_Cover.f k m p l) (if tabOk m p l then (coverOf m p l, 0) else (0, 1)) := by
  unfold pivot_Cover.f
  refine ev_bind (pivot_Table.ev hp hl) ?_
  by_cases h : tabOk m p l
  · rw [if_pos h, if_pos h]
    have tl := tableOf_length m p l
    have l4 := h.2.1.2.1
    have p8 := h.1.2.2
    have p1 := h.1.2.1.1
    refine ev_pos rfl ?_
    dsimp only
    refine ev_cast (ev_count0 (G := fun i k => pivot_Cover.l0 k (coverN m p l i) (tableOf m p l) ((tableOf m p l).length : Int) (i : Int)) (n := l.length) (r := (coverOf m p l, 0)) (fun i hi h2 => ?_) ?_) rfl
    · refine ev_succ ?_
      simp only [pivot_Cover.l0]
      refine ev_pos (by omega) (ev_pos (by omega) (ev_pos (by omega) ?_))
      have hk := keysOf_length m p (rowOf l i)
      rw [rdL_row, row_table hi]
      refine ev_ob (show slices_Min_int_int.f (keysOf m p (rowOf l i)) = some (nearKey m p (rowOf l i)) from if_pos ⟨by omega, by omega⟩) ?_
      rw [wsuc i (by omega)]
      exact h2
    · refine ev_succ ?_
      simp only [pivot_Cover.l0]
      exact ev_neg (by omega) (ev_some rfl)
  · rw [if_neg h, if_neg h]
    exact ev_neg (by simp) (ev_some rfl)
theorem rcover_ev (m : Int) {p l : List (List Int)} (hp : pivot_few p) (hl : pivot_few l) : Ev (fun k => antiquaryref09_Cover.f k m p l) (if tabOk m p l then (0, coverOf m p l, 0) else (0, 0, 1)) := by
  unfold antiquaryref09_Cover.f
  refine ev_bind (both_ev m hp hl) ?_
  by_cases h : tabOk m p l
  · rw [if_pos h]
    refine ev_pos (decide_eq_true h) ?_
    have l1 := hl.1
    have p1 := h.1.2.1.1
    refine ev_cast (ev_count0 (G := fun i k => antiquaryref09_Cover.l0 k m p l (coverN m p l i) (i : Int)) (n := l.length) (r := (0, coverOf m p l, 0)) (fun i hi h2 => ?_) ?_) rfl
    · refine ev_succ ?_
      simp only [antiquaryref09_Cover.l0]
      refine ev_pos (by omega) (ev_pos (by omega) ?_)
      rw [rdL_row]
      refine ev_bind (ref09_near_ev m (by omega) hp.1 (tab_near h hi)) ?_
      rw [wsuc i (by omega), nearOf_is m (fit_ne h.1.2.1)]
      exact h2
    · refine ev_succ ?_
      simp only [antiquaryref09_Cover.l0]
      exact ev_neg (by omega) (ev_some rfl)
  · rw [if_neg h]
    exact ev_neg (by simpa using h) (ev_some rfl)
end Go.Proofs.Ytoidpkpgeeeggaa.EvCover
end
section
set_option linter.unusedVariables false
namespace Go.Proofs.Ytoidpkpgeeeggaa.Sane
open Go.RowKit Go.Proofs.Ytoidpkpgeeeggaa.Q Go.Proofs.YtoidpkpgeeeggaaW.PrintWords Plain
theorem sanity_is : antiquarylaw09_sanity.f 60 = some true := by decide +kernel
theorem sanity_ev : Ev (fun k => antiquarylaw09_sanity.f k) true := ev_ofx (fun k => antiquarylaw09_sanity.mono k) ⟨60, sanity_is⟩
end Go.Proofs.Ytoidpkpgeeeggaa.Sane
end
section
set_option linter.unusedVariables false
namespace Go.Proofs.Ytoidpkpgeeeggaa.Pure
open Go.RowKit Go.Proofs.Ytoidpkpgeeeggaa.Q Go.Proofs.YtoidpkpgeeeggaaW.PrintWords Plain Go.Proofs.Ytoidpkpgeeeggaa.EvCover Go.Proofs.Ytoidpkpgeeeggaa.EvTab Go.Proofs.Ytoidpkpgeeeggaa.Near
theorem chooseL_length (m : Int) (l : List (List Int)) (most : Int) : ∀ (n : Nat) (xs out : List Int), (chooseL m l most n xs out).length ≤ out.length + n
  | 0, _, out => by simp [chooseL]
  | n + 1, xs, out => by
    unfold chooseL
    split
    · split
      · omega
      · have := chooseL_length m l most n (takeN xs (keysTo m l (farAt xs)) l.length) (out ++ [(farAt xs : Int)])
        simp at this
        omega
    · omega
theorem PivotChoosesAsSpecified (m : Int) (p l : List (List Int)) (v : List Int) (most : Int) (_ : (Go.Lit.int .i64 m).wf = true) (hp : p.length ≤ Go.maxLen) (_ : ∀ v ∈ p, v.length ≤ Go.maxLen ∧ ∀ x ∈ v, (Go.Lit.int .i64 x).wf = true)
    (hl : l.length ≤ Go.maxLen) (_ : ∀ v ∈ l, v.length ≤ Go.maxLen ∧ ∀ x ∈ v, (Go.Lit.int .i64 x).wf = true) (_ : v.length ≤ Go.maxLen) (_ : ∀ x ∈ v, (Go.Lit.int .i64 x).wf = true) (_ : (Go.Lit.int .i64 most).wf = true) :
    ∃ k, antiquarylaw09_PivotChoosesAsSpecified.f k m p l v most = some true := by
  refine ev_ex ?_
  have other : Ev (fun k => antiquarylaw09_PivotChoosesAsSpecified.j0 k m p l v most true) true := by
    refine ev_succ ?_
    simp only [antiquarylaw09_PivotChoosesAsSpecified.j0]
    exact ev_pos (by first | rfl | trivial) (ev_bind Sane.sanity_ev (ev_some rfl))
  refine ev_bind (few_ev p 10 (by omega)) ?_
  by_cases h1 : (p.length : Int) ≤ 10 ∧ ∀ v ∈ p, v.length ≤ 40
  rotate_left
  · exact ev_neg (by simpa using h1) other
  refine ev_pos (decide_eq_true h1) (ev_bind (few_ev l 30 (by omega)) ?_)
  by_cases h2 : (l.length : Int) ≤ 30 ∧ ∀ v ∈ l, v.length ≤ 40
  rotate_left
  · exact ev_neg (by simpa using h2) other
  refine ev_pos (decide_eq_true h2) ?_
  by_cases h3 : (v.length : Int) > 40
  · rw [decide_eq_true h3]; exact other
  rw [decide_eq_false h3]
  have fp := few_of (by omega) h1
  have fl := few_of (by omega) h2
  have sp := small_of fp
  have sl := small_of fl
  have hc : (if chooseOk m l most then (chooseOf m l most, (0 : Int)) else ([], 1)) = (if chooseOk m l most then (rchooseOf m l most, 0) else ([], 1)) := by
    by_cases c : chooseOk m l most
    · rw [if_pos c, if_pos c, choose_is most c.2.1]
    · rw [if_neg c, if_neg c]
  have lc : (if chooseOk m l most then (chooseOf m l most, (0 : Int)) else ([], 1)).1.length ≤ 9223372036854775807 := by
    split
    · have := chooseL_length m l most 8 (takeN (List.replicate l.length 134217728) (keysTo m l 0) l.length) [0]
      show (chooseL m l most 8 (takeN (List.replicate l.length 134217728) (keysTo m l 0) l.length) [0]).length ≤ _
      simp only [List.length_singleton] at this
      omega
    · simp
  refine ev_succ ?_
  simp only [antiquarylaw09_PivotChoosesAsSpecified.j0]
  refine ev_neg (by simp) (ev_ob (show pivot_Choose.f m l most = some _ from if_pos sl) (ev_bind (near_ev m sp) (ev_bind (cover_ev m sp sl) (ev_bind (pivot_Table.ev sp sl) (ev_ob (show antiquaryref09_Choose.f m l most = some _ from if_pos fl) (ev_bind (rnear_ev m fp (by omega)) (ev_bind (rcover_ev m fp fl) (ev_bind (rtable_ev m fp fl) ?_))))))))
  rw [← hc]
  refine ev_bind Sane.sanity_ev (ev_pos rfl (ev_bind (same_ints _ lc) (ev_pos rfl (ev_pos rfl (ev_pos rfl (ev_pos rfl (ev_pos rfl ?_)))))))
  have tl : (if tabOk m p l then (tableOf m p l, (0 : Int)) else ([], 1)).1.length ≤ 9223372036854775807 := by
    split
    · rw [tableOf_length]; omega
    · simp
  have tv : ∀ v ∈ (if tabOk m p l then (tableOf m p l, (0 : Int)) else ([], 1)).1, v.length ≤ 9223372036854775807 := by
    split
    · intro w hw
      obtain ⟨u, _, rfl⟩ := List.mem_map.1 hw
      rw [keysOf_length]; omega
    · intro w hw; cases hw
  have e1 : (if tabOk m p l then (coverOf m p l, (0 : Int)) else (0, 1)).1 = (if tabOk m p l then ((0 : Int), coverOf m p l, (0 : Int)) else (0, 0, 1)).2.1 := by split <;> rfl
  have e2 : (if tabOk m p l then (coverOf m p l, (0 : Int)) else (0, 1)).2 = (if tabOk m p l then ((0 : Int), coverOf m p l, (0 : Int)) else (0, 0, 1)).2.2 := by split <;> rfl
  exact ev_pos e1 (ev_pos e2 (ev_bind (same_rows _ tl tv) (ev_pos rfl (ev_some (by simp)))))
end Go.Proofs.Ytoidpkpgeeeggaa.Pure
end
section
set_option linter.unusedVariables false
namespace Go.Proofs.Ytoidpkpgeeeggaa.Open
open Go.RowKit Go.Proofs.Ytoidpkpgeeeggaa.Q Go.Proofs.YtoidpkpgeeeggaaW.PrintWords Go.Deep
theorem open_rows {H : Type} {enc : TypeId × Value → H} {P : Program} {w : World} {base : Nat} {held : Bool} {t e q : TypeId} {a : Option Addr} {len cap : Nat} {d : DataW H} {ps : List MemPlace}
    (ht : P.underlying t = some (.slice e)) (he : P.underlying e = some (.slice q)) (hq : P.underlying q = some (.int .i64)) (ce : P.cellsOf e = 1) (cq : P.cellsOf q = 1) (h : DataW.Trod enc P w base (fun _ => true) held t (.slice a len cap) d ps) (ty : Nat) :
    ∃ l : List (List Int), l.length = len ∧ len ≤ cap ∧ cap ≤ maxLen ∧ Kd.C (Kd.slice ty (Kd.int .i64)) w a len l ∧ ∀ v ∈ l, v.length ≤ maxLen ∧ ∀ x ∈ v, (Lit.int .i64 x).wf = true := by
  obtain ⟨fuel, hf⟩ := h
  rcases open_int_rows ht he hq ce cq hf with ⟨hcs, _⟩ | ⟨x, len', cap', A, L, C, Z, hcs, _, hl, hm, _, hx⟩
  · simp [Value.cells] at hcs
    obtain ⟨rfl, rfl, rfl⟩ := hcs
    exact ⟨[], rfl, Nat.le_refl _, Nat.zero_le _, Kd.C_nil _ _, by simp⟩
  · simp [Value.cells] at hcs
    obtain ⟨rfl, rfl, rfl⟩ := hcs
    have hlen : ∀ r, r < cap → ((Z r).take (L r)).length = L r := fun r hr => by
      have := hx r hr
      rw [List.length_take]; omega
    refine ⟨(List.range len).map (fun r => (Z r).take (L r)), by simp, hl, hm, ⟨by simp, by have := hm; unfold maxLen at this; omega, fun _ => ⟨x, rfl, fun j p hp => ?_⟩⟩, ?_⟩
    · have hj : j < len := by
        rcases Nat.lt_or_ge j len with h | h
        · exact h
        · rw [List.getElem?_eq_none (by simp; omega)] at hp; cases hp
      rw [List.getElem?_map, List.getElem?_range hj] at hp
      cases hp
      obtain ⟨hc, hLC, hCm, hZ, hwf, hnone, hsome⟩ := hx j (by omega)
      have hL := hlen j (by omega)
      refine ⟨[.slice (A j) (L j) (C j)], rfl, ⟨A j, C j, by rw [hL], by rw [hL]; exact hLC, ?_⟩, fun i u hu => ?_⟩
      · refine ⟨rfl, by rw [hL]; unfold maxLen at hCm; omega, fun hpos => ?_⟩
        cases hA : A j with
        | none =>
          have hp2 : 0 < L j := by rw [← hL]; exact hpos
          have := hnone hA
          omega
        | some a' =>
          refine ⟨a', rfl, fun c p hp => ⟨[.int .i64 p], rfl, ?_, fun i u hu => ?_⟩⟩
          · exact rfl
          · have hc2 : c < L j := by
              have h6 : c < (List.take (L j) (Z j)).length := (List.getElem?_eq_some_iff.1 hp).1
              omega
            match i, hu with
            | 0, hu =>
              cases hu
              have h3 := (hsome a' hA).2 c (by omega)
              have h4 : (Z j).getD c 0 = p := by
                rw [List.getElem?_take, if_pos hc2] at hp
                rw [List.getD_eq_getElem?_getD, hp]; rfl
              rw [h4] at h3
              show w.cell? (a'.add (c * 1 + 0)) = _
              rw [Nat.mul_one]
              exact h3
            | i + 1, hu => simp at hu
      · match i, hu with
        | 0, hu => cases hu; simpa [Kd.slice] using hc
        | i + 1, hu => simp at hu
    · intro v hv
      obtain ⟨r, hr, rfl⟩ := List.mem_map.1 hv
      have hr := List.mem_range.1 hr
      obtain ⟨_, hLC, hCm, hZ, hwf, _⟩ := hx r (by omega)
      exact ⟨by rw [hlen r (by omega)]; omega, fun y hy => hwf y (List.mem_of_mem_take hy)⟩
end Go.Proofs.Ytoidpkpgeeeggaa.Open
end
