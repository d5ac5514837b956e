/- A part of the proof of PivotMoreIsBetter: what the row's text reaches (packed by a program of this claim out of its texts). -/
import Derived.Test.YtoidpkpgeeeggaaKPivotMoreIsBetterb
section
namespace Go.Proofs.Ytoidpkpgeeeggaa.Q
open Go.RowKit Go.Proofs.YtoidpkpgeeeggaaW.PrintWords Go.Proofs.YtoidpkpgeeeggaaW.PrintLast Go.Proofs.YtoidpkpgeeeggaaW.PrintMore
attribute [local go_sem] max2_int min2_int max_two min_two max_three min_three max_four min_four   -- for this text's walks alone
set_option linter.unusedVariables false
set_option linter.unusedSimpArgs false
def validSh (l : List S57) : Prop := (∀ s ∈ l, 0 ≤ s.f0 ∧ s.f0 ≤ s.f1 ∧ s.f1 ≤ 134217728) ∧ l.length ≤ 8
instance (l : List S57) : Decidable (validSh l) := by unfold validSh; infer_instance
theorem pivot_has_is (x : Int) : pivot_pair_int_has.f 0 134217728 x = some (decide (Plain.isKey x)) := by
  unfold pivot_pair_int_has.f pivot_pair_int_with.f
  refine Plain.bind_of rfl ?_
  congr 1
  rw [Bool.eq_iff_iff, Bool.and_eq_true, beq_iff_eq, beq_iff_eq, decide_eq_true_eq]
  unfold mn mx Plain.isKey
  dsimp only
  split <;> split <;> omega
theorem pivot_rdSh (pre : List S57) (x : S57) (v : List S57) : rd_T57 (pre ++ x :: v) (pre.length : Int) = x := by
  unfold rd_T57
  simp
theorem pivot_Valid.ev_l (x0 : List S57) (h0 : x0.length ≤ 4611686018427387904) (v : List S57) : ∀ pre : List S57, x0 = pre ++ v → Ev (fun k => pivot_Valid.l0 k x0 (pre ++ v) (x0.length : Int) (pre.length : Int)) (decide ((∀ s ∈ v, 0 ≤ s.f0 ∧ s.f0 ≤ s.f1 ∧ s.f1 ≤ 134217728) ∧ x0.length ≤ 8)) := by
  induction v with
  | nil =>
    intro pre hx
    have hl : x0.length = pre.length := by rw [hx]; simp
    refine Plain.ev_succ ?_
    simp only [pivot_Valid.l0, List.append_nil]
    refine Plain.ev_neg (by omega) (Plain.ev_some ?_)
    rw [Bool.eq_iff_iff]; simp; omega
  | cons x v ih =>
    intro pre hx
    have hl : (x0.length : Int) = pre.length + 1 + v.length := by rw [hx]; simp; omega
    have hl2 : ((pre ++ x :: v).length : Int) = pre.length + 1 + v.length := by simp; omega
    refine Plain.ev_succ ?_
    simp only [pivot_Valid.l0]
    refine Plain.ev_pos (by omega) (Plain.ev_pos (by omega) (Plain.ev_pos (by omega) ?_))
    rw [pivot_rdSh]
    have hn := ih (pre ++ [x]) (by rw [hx]; simp)
    rw [show ((pre ++ [x]).length : Int) = (pre.length : Int) + 1 by simp, show pre ++ [x] ++ v = pre ++ x :: v by simp] at hn
    have bad : ¬ (0 ≤ x.f0 ∧ x.f0 ≤ x.f1 ∧ x.f1 ≤ 134217728) → false = decide ((∀ s ∈ x :: v, 0 ≤ s.f0 ∧ s.f0 ≤ s.f1 ∧ s.f1 ≤ 134217728) ∧ x0.length ≤ 8) := fun h => by
      symm; rw [decide_eq_false_iff_not]; exact fun k => h (k.1 x List.mem_cons_self)
    by_cases h1 : x.f0 > x.f1
    · exact Plain.ev_pos h1 (Plain.ev_some (bad (by omega)))
    · refine Plain.ev_neg h1 (Plain.ev_ob (show pivot_all.f = some (0, 134217728) from rfl) (Plain.ev_ob (pivot_has_is _) ?_))
      by_cases h2 : Plain.isKey x.f0
      · refine Plain.ev_pos (by simpa using h2) (Plain.ev_ob (show pivot_all.f = some (0, 134217728) from rfl) (Plain.ev_ob (pivot_has_is _) ?_))
        by_cases h3 : Plain.isKey x.f1
        · refine Plain.ev_pos (by simpa using h3) ?_
          rw [show wrap64 ((pre.length : Int) + 1) = (pre.length : Int) + 1 by unfold wrap64; omega]
          refine Plain.ev_cast hn ?_
          rw [Bool.eq_iff_iff, decide_eq_true_eq, decide_eq_true_eq]
          refine and_congr_left (fun _ => ⟨fun h y hy => ?_, fun h y hy => h y (List.mem_cons_of_mem _ hy)⟩)
          rcases List.mem_cons.mp hy with rfl | hy
          · exact ⟨h2.1, by omega, h3.2⟩
          · exact h y hy
        · exact Plain.ev_neg (by simpa using h3) (Plain.ev_some (bad (fun h => h3 ⟨by omega, h.2.2⟩)))
      · exact Plain.ev_neg (by simpa using h2) (Plain.ev_some (bad (fun h => h2 ⟨h.1, by omega⟩)))
theorem pivot_Valid.ev (l : List S57) (h0 : l.length ≤ 4611686018427387904) : Ev (fun k => pivot_Valid.f k l) (decide (validSh l)) := by
  have h : Ev (fun k => pivot_Valid.f k l) _ := pivot_Valid.ev_l l h0 l [] rfl
  exact Plain.ev_cast h (by rw [Bool.eq_iff_iff, decide_eq_true_eq, decide_eq_true_eq]; exact Iff.rfl)
theorem pivot_isMetric.is (m : Int) : pivot_isMetric.f m = some (decide (1 ≤ m ∧ m ≤ 3)) := by
  unfold pivot_isMetric.f metric_Valid.f
  by_cases h1 : m ≥ 1
  · rw [if_pos h1]
    by_cases h2 : m ≤ 3
    · rw [if_pos h2]
      refine Plain.bind_of (a := decide (1 ≤ m ∧ m ≤ 3)) (Plain.bind_of (a := 0) (by unfold metric_clamp_int.f mx mn; rfl) ?_) rfl
      congr 1
      rw [decide_eq_true ⟨h1, h2⟩]
      rfl
    · rw [if_neg h2]
      refine Plain.bind_of rfl ?_
      congr 1; symm; rw [decide_eq_false_iff_not]; omega
  · rw [if_neg h1]
    refine Plain.bind_of rfl ?_
    congr 1; symm; rw [decide_eq_false_iff_not]; omega
theorem metric_Gap.is (m : Int) {lo hi a : Int} (ha : Plain.isKey a) (hl : Plain.isKey lo) (hh : Plain.isKey hi) : metric_Gap.f m lo hi a = some (Plain.gap m lo hi a) := by
  unfold metric_Gap.f
  exact Plain.bind_of (show metric_clamp_int.f a lo hi = some (Plain.clamp a lo hi) from rfl) (Plain.bind_of (show metric_Low.f m a (Plain.clamp a lo hi) = some (Plain.low m a (Plain.clamp a lo hi)) from if_pos ⟨ha, Plain.clamp_key ha hl hh⟩) rfl)
theorem metric_Reach.is (m lo : Int) {hi a : Int} (ha : Plain.isKey a) (hh : Plain.isKey hi) : metric_Reach.f m lo hi a = some (Plain.high m a hi) := by
  unfold metric_Reach.f
  exact Plain.bind_of (show metric_High.f m a hi = some (Plain.high m a hi) from if_pos ⟨ha, hh⟩) rfl
theorem pivot_shAt {l : List S57} {k : Nat} (h : validSh l) (hk : k < l.length) : Plain.isKey (rd_T57 l (k : Int)).f0 ∧ Plain.isKey (rd_T57 l (k : Int)).f1 := by
  have e : rd_T57 l (k : Int) = l[k] := by unfold rd_T57; simp [hk]
  rw [e]
  have := h.1 _ (List.getElem_mem hk)
  exact ⟨⟨this.1, by omega⟩, ⟨by omega, this.2.2⟩⟩
/-- what the best is behind n shells -/
def bestAt (g : Int → S57 → Int → Int) (first : Int) (l : List S57) (ks : List Int) : Nat → Int
  | 0 => first
  | n + 1 => g (bestAt g first l ks n) (rd_T57 l (n : Int)) (rd ks (n : Int))
def keysGood (ks : List Int) : Prop := ∀ k ∈ ks, Plain.isKey k
instance (ks : List Int) : Decidable (keysGood ks) := by unfold keysGood; infer_instance
set_option maxHeartbeats 400000 in
theorem pivot_Low_1.calls (best lo hi key m : Int) (pd : Addr) (w : World) (hp : w.cell? pd = some (.int .i64 m)) (hk : Plain.isKey key) (hl : Plain.isKey lo) (hh : Plain.isKey hi) :
    Calls Try.prog 59 #[.int .i64 best, .agg #[.int .i64 lo, .int .i64 hi], .int .i64 key, .pointer (some pd)] w fun e w' => e = .returned (.int .i64 (mx best (Plain.gap m lo hi key))) ∧ Below w.heap.size w w' := by
  have HC := Aside0.mk (fun W => metric_Gap.calls m lo hi key _ W (metric_Gap.is m hk hl hh))
  have hu := Try.underlying57
  have hp2 : (w.alloc (.cells #[.int .i64 lo, .int .i64 hi] 57)).cell? pd = some (.int .i64 m) := (World.cell?_alloc_lt _ _ _ (World.block_lt_of_cell? _ _ hp)).trans hp
  clear hk hl hh
  obtain ⟨y, hy⟩ : ∃ y, Plain.gap m lo hi key = y := ⟨_, rfl⟩
  obtain ⟨z, hz⟩ : ∃ z, mx best y = z := ⟨_, rfl⟩
  rw [hy] at HC ⊢
  rw [hz]
  clear hy
  unfold mx at hz
  go_enter Try.func59, Try.ntmps59
  go_wp2_with fail
  refine (HC.out _).mono ?_
  rintro e w1 ⟨rfl, hb⟩
  go_wp2
  go_ret
  exact ⟨rfl, below_step (below_alloc (Below.refl _ _) _) hb⟩
set_option maxHeartbeats 400000 in
theorem pivot_High_1.calls (best lo hi key m : Int) (pd : Addr) (w : World) (hp : w.cell? pd = some (.int .i64 m)) (hk : Plain.isKey key) (hl : Plain.isKey lo) (hh : Plain.isKey hi) :
    Calls Try.prog 61 #[.int .i64 best, .agg #[.int .i64 lo, .int .i64 hi], .int .i64 key, .pointer (some pd)] w fun e w' => e = .returned (.int .i64 (mn best (Plain.high m key hi))) ∧ Below w.heap.size w w' := by
  have HC := Aside0.mk (fun W => metric_Reach.calls m lo hi key _ W (metric_Reach.is m lo hk hh))
  have hu := Try.underlying57
  have hp2 : (w.alloc (.cells #[.int .i64 lo, .int .i64 hi] 57)).cell? pd = some (.int .i64 m) := (World.cell?_alloc_lt _ _ _ (World.block_lt_of_cell? _ _ hp)).trans hp
  clear hk hl hh
  obtain ⟨y, hy⟩ : ∃ y, Plain.high m key hi = y := ⟨_, rfl⟩
  obtain ⟨z, hz⟩ : ∃ z, mn best y = z := ⟨_, rfl⟩
  rw [hy] at HC ⊢
  rw [hz]
  clear hy
  unfold mn at hz
  go_enter Try.func61, Try.ntmps61
  go_wp2_with fail
  refine (HC.out _).mono ?_
  rintro e w1 ⟨rfl, hb⟩
  go_wp2
  go_ret
  exact ⟨rfl, below_step (below_alloc (Below.refl _ _) _) hb⟩
theorem pivot_bound_Low_no.calls (m : Int) (A1 : Option Addr) (c1 : Nat) (l1 : List S57) (A2 : Option Addr) (c2 : Nat) (l2 : List Int) (first : Int) (pd : Addr) (w : World)
    (hr1 : Kd.C k57 w A1 l1.length l1) (hc1 : l1.length ≤ c1) (hl1 : l1.length ≤ 4611686018427387904) (hl2 : l2.length ≤ 4611686018427387904) (hno : ¬ ((1 ≤ m ∧ m ≤ 3) ∧ validSh l1 ∧ l2.length = l1.length)) :
    Calls Try.prog 58 #[.int .i64 m, .slice A1 l1.length c1, .slice A2 l2.length c2, .int .i64 first, .func (.func 59) #[] #[.pointer (some pd)]] w fun e w' => e = .returned (.tuple #[.int .i64 0, .int .i64 1]) ∧ Below w.heap.size w w' := by
  have HM := Aside0.mk (fun W => pivot_isMetric.calls m _ W (pivot_isMetric.is m))
  obtain ⟨kv, hkv⟩ := Plain.ev_ex (pivot_Valid.ev l1 hl1)
  have HV := Aside0.mk (fun W hW => pivot_Valid.calls kv A1 c1 l1 _ W hW hc1 hkv)
  have HR1 := Aside0.mk hr1
  clear hkv hr1
  by_cases h1 : 1 ≤ m ∧ m ≤ 3
  · rw [decide_eq_true h1] at HM
    by_cases h2 : validSh l1
    · rw [decide_eq_true h2] at HV
      have h3 : ((l2.length : Int) != (l1.length : Int)) = true := by simp; intro h; exact hno ⟨h1, h2, by omega⟩
      have h4 : (l2.length == l1.length) = false := by simp; intro h; exact hno ⟨h1, h2, by omega⟩
      have h5 : (l2.length != l1.length) = true := by simp; intro h; exact hno ⟨h1, h2, by omega⟩
      clear h2 hno
      go_enter Try.func58, Try.ntmps58
      go_wp2_with fail
      refine (HM.out _).mono ?_
      rintro e w1 ⟨rfl, hd⟩
      obtain ⟨n, rfl⟩ := hd.out
      clear hd
      go_wp2_with fail
      refine (HV.out _ (Kd.C_drewN HR1.out n)).mono ?_
      rintro e w2 ⟨rfl, hb⟩
      go_wp2
      go_ret2
      exact ⟨rfl, below_step (pw_below_drewN (Below.refl _ _) n) hb⟩
    · rw [decide_eq_false h2] at HV
      clear h2 hno
      go_enter Try.func58, Try.ntmps58
      go_wp2_with fail
      refine (HM.out _).mono ?_
      rintro e w1 ⟨rfl, hd⟩
      obtain ⟨n, rfl⟩ := hd.out
      clear hd
      go_wp2_with fail
      refine (HV.out _ (Kd.C_drewN HR1.out n)).mono ?_
      rintro e w2 ⟨rfl, hb⟩
      go_wp2
      go_ret2
      exact ⟨rfl, below_step (pw_below_drewN (Below.refl _ _) n) hb⟩
  · rw [decide_eq_false h1] at HM
    clear h1 hno
    go_enter Try.func58, Try.ntmps58
    go_wp2_with fail
    refine (HM.out _).mono ?_
    rintro e w1 ⟨rfl, hd⟩
    go_wp2
    go_ret2
    exact ⟨rfl, hd.below⟩
set_option maxHeartbeats 1000000 in
set_option maxRecDepth 100000 in
theorem pivot_bound_Low_yes.calls (m : Int) (A1 : Option Addr) (c1 : Nat) (l1 : List S57) (A2 : Option Addr) (c2 : Nat) (l2 : List Int) (first : Int) (pd : Addr) (w : World) (hp : w.cell? pd = some (.int .i64 m))
    (hr1 : Kd.C k57 w A1 l1.length l1) (hc1 : l1.length ≤ c1) (hr2 : Kd.C (Kd.int .i64) w A2 l2.length l2) (hl1 : l1.length ≤ 4611686018427387904) (hl2 : l2.length ≤ 4611686018427387904) (hm : 1 ≤ m ∧ m ≤ 3) (hv : validSh l1) (hlen : l2.length = l1.length) (r1 r2 : Int)
    (hr : (r1, r2) = if keysGood l2 then (bestAt (fun b s k => mx b (Plain.gap m s.f0 s.f1 k)) first l1 l2 l1.length, 0) else (0, 1)) :
    Calls Try.prog 58 #[.int .i64 m, .slice A1 l1.length c1, .slice A2 l2.length c2, .int .i64 first, .func (.func 59) #[] #[.pointer (some pd)]] w fun e w' => e = .returned (.tuple #[.int .i64 r1, .int .i64 r2]) ∧ Below w.heap.size w w' := by
  have HM := Aside0.mk (fun W => pivot_isMetric.calls m _ W (pivot_isMetric.is m))
  obtain ⟨kv, hkv⟩ := Plain.ev_ex (pivot_Valid.ev l1 hl1)
  have HV := Aside0.mk (fun W hW => pivot_Valid.calls kv A1 c1 l1 _ W hW hc1 hkv)
  rw [decide_eq_true hm] at HM
  rw [decide_eq_true hv] at HV
  have HR1 := Aside0.mk hr1
  have HR2 := Aside0.mk hr2
  have HP := Aside0.mk hp
  have HVS := Aside0.mk hv
  have HR := Aside0.mk hr
  have HL := Aside0.mk hlen
  have h3 : ((l2.length : Int) != (l1.length : Int)) = false := by simp; omega
  have h5 : (l2.length != l1.length) = false := by simp; omega
  have hu := Try.underlying57
  clear hkv hr1 hr2 hp hv hr hm hlen
  go_enter Try.func58, Try.ntmps58
  go_wp2_with fail
  refine (HM.out _).mono ?_
  rintro e w1 ⟨rfl, hd⟩
  obtain ⟨n, rfl⟩ := hd.out
  clear hd
  go_wp2_with fail
  refine (HV.out _ (Kd.C_drewN HR1.out n)).mono ?_
  rintro e w2 ⟨rfl, hb2⟩
  have HB := Aside0.mk (below_step (pw_below_drewN (Below.refl _ _) n) hb2)
  clear hb2
  go_wp2
  go_loopw [12, 33] (fun v i wr => ∃ (k : Nat) (best : Int), k ≤ l1.length ∧ i = .int .i64 k ∧ v = .int .i64 best ∧ Aside0 (best = bestAt (fun b s k => mx b (Plain.gap m s.f0 s.f1 k)) first l1 l2 k) ∧ Aside0 (∀ j, j < k → Plain.isKey (rd l2 (j : Int))) ∧ Aside0 (Below w.heap.size w wr)) (fun _ i _ => l1.length - (intOf i).toNat)
  case atStart => exact ⟨0, first, Nat.zero_le _, rfl, rfl, ⟨rfl⟩, ⟨fun j hj => by omega⟩, HB⟩
  case round =>
    clear HB
    obtain ⟨k, best, hk, rfl, rfl, hbest, hall, HB⟩ := hrel
    by_cases hlt : k < l1.length
    · have p1 : (0 : Int) ≤ (k : Int) := by omega
      have q1 : (k : Int) < (l1.length : Int) := by omega
      have q2 : (k : Int) < (l2.length : Int) := by have := HL.out; omega
      obtain ⟨ad, e1, hx0, hx1⟩ := at_T57 (Kd.C_below HR1.out HB.out) (k : Int) p1 q1
      cases e1
      obtain ⟨ad2, e2, hx2⟩ := Kd.at_int (Kd.C_below HR2.out HB.out) (k : Int) p1 q2
      cases e2
      rw [Int.toNat_natCast] at hx0 hx1 hx2
      go_wp2_with fail
      have hh0 : (wr.alloc (.cells #[.int .i64 (rd_T57 l1 ↑k).f0, .int .i64 (rd_T57 l1 ↑k).f1] 57)).cell? ⟨wr.heap.size, 0, none⟩ = some (.int .i64 (rd_T57 l1 ↑k).f0) := by simp [go_sem]
      have hh1 : (wr.alloc (.cells #[.int .i64 (rd_T57 l1 ↑k).f0, .int .i64 (rd_T57 l1 ↑k).f1] 57)).cell? ⟨wr.heap.size, 1, none⟩ = some (.int .i64 (rd_T57 l1 ↑k).f1) := by simp [go_sem]
      have hh2 : (wr.alloc (.cells #[.int .i64 (rd_T57 l1 ↑k).f0, .int .i64 (rd_T57 l1 ↑k).f1] 57)).cell? (ad2.add k) = some (.int .i64 (rd l2 (k : Int))) := (World.cell?_alloc_lt _ _ _ (World.block_lt_of_cell? _ _ hx2)).trans hx2
      have hh3 : Below w.heap.size w (wr.alloc (.cells #[.int .i64 (rd_T57 l1 ↑k).f0, .int .i64 (rd_T57 l1 ↑k).f1] 57)) := below_alloc HB.out _
      have HS := World.block_lt_of_cell? _ _ hx2
      clear hx0 hx1 hx2 HB
      generalize wr.alloc (.cells #[.int .i64 (rd_T57 l1 ↑k).f0, .int .i64 (rd_T57 l1 ↑k).f1] 57) = wa at *
      generalize wr.heap.size = pb at *
      have hh4 : wa.cell? pd = some (.int .i64 m) := pw_cell_below hh3 HP.out
      have HX := Aside0.mk (fun (W : World) => pivot_pair_int_has.calls 0 134217728 (rd l2 (k : Int)) _ W (pivot_has_is _))
      by_cases hgood : Plain.isKey (rd l2 (k : Int))
      · rw [decide_eq_true hgood] at HX
        have HN : Aside0 (∀ j, j < k + 1 → Plain.isKey (rd l2 (j : Int))) := ⟨fun j hj => by
          rcases Nat.lt_or_ge j k with h | h
          · exact hall.out j h
          · obtain rfl : j = k := by omega
            exact hgood⟩
        have HC := Aside0.mk (fun (W : World) hW => pivot_Low_1.calls best (rd_T57 l1 ↑k).f0 (rd_T57 l1 ↑k).f1 (rd l2 (k : Int)) m pd W hW hgood (pivot_shAt HVS.out hlt).1 (pivot_shAt HVS.out hlt).2)
        have HE : Aside0 (mx best (Plain.gap m (rd_T57 l1 ↑k).f0 (rd_T57 l1 ↑k).f1 (rd l2 (k : Int))) = bestAt (fun b s k => mx b (Plain.gap m s.f0 s.f1 k)) first l1 l2 (k + 1)) := ⟨by rw [hbest.out]; rfl⟩
        clear hgood hall
        generalize mx best (Plain.gap m (rd_T57 l1 ↑k).f0 (rd_T57 l1 ↑k).f1 (rd l2 (k : Int))) = nb at *
        go_region_held3 (fun w' => w'.cell? ⟨pb, 0, none⟩ = some (.int .i64 (rd_T57 l1 ↑k).f0) ∧ w'.cell? ⟨pb, 1, none⟩ = some (.int .i64 (rd_T57 l1 ↑k).f1) ∧ w'.cell? (ad2.add k) = some (.int .i64 (rd l2 (k : Int))) ∧ w'.cell? pd = some (.int .i64 m) ∧ Below w.heap.size w w') (first | exact ⟨hh0, hh1, hh2, hh4, below_drew hh3⟩ | (go_split_ands; exact ⟨pw_cell_below hb (by assumption), pw_cell_below hb (by assumption), pw_cell_below hb (by assumption), pw_cell_below hb (by assumption), below_step (by assumption) hb⟩) | go_keep)
          ((first | (go_at_call 56; refine (pivot_all.calls _ _ _ rfl).mono ?_; rintro e w1 ⟨rfl, hb⟩) | (go_at_call 57; refine (HX.out _).mono ?_; rintro e w1 ⟨rfl, hb⟩)))
        all_goals (clear hh0 hh1 hh2 hh3 hh4)
        all_goals (rename_i hS_)
        all_goals (obtain ⟨hh0, hh1, hh2, hh4, hh3⟩ := hS_)
        all_goals (go_wp2_with fail)
        all_goals (
          go_region_held3 (fun w' => w'.cell? ⟨pb, 0, none⟩ = some (.int .i64 (rd_T57 l1 ↑k).f0) ∧ w'.cell? ⟨pb, 1, none⟩ = some (.int .i64 (rd_T57 l1 ↑k).f1) ∧ w'.cell? (ad2.add k) = some (.int .i64 (rd l2 (k : Int))) ∧ w'.cell? pd = some (.int .i64 m) ∧ Below w.heap.size w w') (first | exact ⟨hh0, hh1, hh2, hh4, below_drew hh3⟩ | (go_split_ands; exact ⟨pw_cell_below hb (by assumption), pw_cell_below hb (by assumption), pw_cell_below hb (by assumption), pw_cell_below hb (by assumption), below_step (by assumption) hb⟩) | go_keep)
            ((first | (go_at_call 59; refine (HC.out _ (by assumption)).mono ?_; rintro e w2 ⟨rfl, hb⟩))))
        all_goals (clear hh0 hh1 hh2 hh3 hh4)
        all_goals (rename_i hS_)
        all_goals (obtain ⟨hh0, hh1, hh2, hh4, hh3⟩ := hS_)
        all_goals go_wp2
        all_goals go_roundw
        case rel => exact ⟨k + 1, nb, by omega, by go_num, rfl, HE, HN, ⟨hh3⟩⟩
        case measure => simp [intOf]; omega
      · rw [decide_eq_false hgood] at HX
        obtain ⟨rfl, rfl⟩ : r1 = 0 ∧ r2 = 1 := by
          have h := HR.out
          rw [if_neg (fun hh => hgood (hh _ (by unfold rd; have := HL.out; simp [show k < l2.length by omega])))] at h
          exact ⟨congrArg Prod.fst h, congrArg Prod.snd h⟩
        clear hgood hall
        go_region_held3 (fun w' => w'.cell? ⟨pb, 0, none⟩ = some (.int .i64 (rd_T57 l1 ↑k).f0) ∧ w'.cell? ⟨pb, 1, none⟩ = some (.int .i64 (rd_T57 l1 ↑k).f1) ∧ w'.cell? (ad2.add k) = some (.int .i64 (rd l2 (k : Int))) ∧ w'.cell? pd = some (.int .i64 m) ∧ Below w.heap.size w w') (first | exact ⟨hh0, hh1, hh2, hh4, below_drew hh3⟩ | (go_split_ands; exact ⟨pw_cell_below hb (by assumption), pw_cell_below hb (by assumption), pw_cell_below hb (by assumption), pw_cell_below hb (by assumption), below_step (by assumption) hb⟩) | go_keep)
          ((first | (go_at_call 56; refine (pivot_all.calls _ _ _ rfl).mono ?_; rintro e w1 ⟨rfl, hb⟩) | (go_at_call 57; refine (HX.out _).mono ?_; rintro e w1 ⟨rfl, hb⟩)))
        all_goals (clear hh0 hh1 hh2 hh3 hh4)
        all_goals (rename_i hS_)
        all_goals (obtain ⟨hh0, hh1, hh2, hh4, hh3⟩ := hS_)
        all_goals (go_wp2)
        all_goals go_ret2
        all_goals exact ⟨rfl, hh3⟩
    · obtain rfl : k = l1.length := by omega
      have hgood : keysGood l2 := by
        intro x hx
        obtain ⟨j, hj, rfl⟩ := List.getElem_of_mem hx
        have h2 := hall.out j (by have := HL.out; omega)
        rw [show rd l2 (j : Int) = l2[j] by unfold rd; simp [hj]] at h2
        exact h2
      obtain ⟨rfl, rfl⟩ : r1 = best ∧ r2 = 0 := by
        have h := HR.out
        rw [if_pos hgood] at h
        rw [hbest.out]
        exact ⟨congrArg Prod.fst h, congrArg Prod.snd h⟩
      clear hgood hall
      go_wp2
      go_ret2
      exact ⟨rfl, HB.out⟩
theorem pivot_bound_High_no.calls (m : Int) (A1 : Option Addr) (c1 : Nat) (l1 : List S57) (A2 : Option Addr) (c2 : Nat) (l2 : List Int) (first : Int) (pd : Addr) (w : World)
    (hr1 : Kd.C k57 w A1 l1.length l1) (hc1 : l1.length ≤ c1) (hl1 : l1.length ≤ 4611686018427387904) (hl2 : l2.length ≤ 4611686018427387904) (hno : ¬ ((1 ≤ m ∧ m ≤ 3) ∧ validSh l1 ∧ l2.length = l1.length)) :
    Calls Try.prog 58 #[.int .i64 m, .slice A1 l1.length c1, .slice A2 l2.length c2, .int .i64 first, .func (.func 61) #[] #[.pointer (some pd)]] w fun e w' => e = .returned (.tuple #[.int .i64 0, .int .i64 1]) ∧ Below w.heap.size w w' := by
  have HM := Aside0.mk (fun W => pivot_isMetric.calls m _ W (pivot_isMetric.is m))
  obtain ⟨kv, hkv⟩ := Plain.ev_ex (pivot_Valid.ev l1 hl1)
  have HV := Aside0.mk (fun W hW => pivot_Valid.calls kv A1 c1 l1 _ W hW hc1 hkv)
  have HR1 := Aside0.mk hr1
  clear hkv hr1
  by_cases h1 : 1 ≤ m ∧ m ≤ 3
  · rw [decide_eq_true h1] at HM
    by_cases h2 : validSh l1
    · rw [decide_eq_true h2] at HV
      have h3 : ((l2.length : Int) != (l1.length : Int)) = true := by simp; intro h; exact hno ⟨h1, h2, by omega⟩
      have h4 : (l2.length == l1.length) = false := by simp; intro h; exact hno ⟨h1, h2, by omega⟩
      have h5 : (l2.length != l1.length) = true := by simp; intro h; exact hno ⟨h1, h2, by omega⟩
      clear h2 hno
      go_enter Try.func58, Try.ntmps58
      go_wp2_with fail
      refine (HM.out _).mono ?_
      rintro e w1 ⟨rfl, hd⟩
      obtain ⟨n, rfl⟩ := hd.out
      clear hd
      go_wp2_with fail
      refine (HV.out _ (Kd.C_drewN HR1.out n)).mono ?_
      rintro e w2 ⟨rfl, hb⟩
      go_wp2
      go_ret2
      exact ⟨rfl, below_step (pw_below_drewN (Below.refl _ _) n) hb⟩
    · rw [decide_eq_false h2] at HV
      clear h2 hno
      go_enter Try.func58, Try.ntmps58
      go_wp2_with fail
      refine (HM.out _).mono ?_
      rintro e w1 ⟨rfl, hd⟩
      obtain ⟨n, rfl⟩ := hd.out
      clear hd
      go_wp2_with fail
      refine (HV.out _ (Kd.C_drewN HR1.out n)).mono ?_
      rintro e w2 ⟨rfl, hb⟩
      go_wp2
      go_ret2
      exact ⟨rfl, below_step (pw_below_drewN (Below.refl _ _) n) hb⟩
  · rw [decide_eq_false h1] at HM
    clear h1 hno
    go_enter Try.func58, Try.ntmps58
    go_wp2_with fail
    refine (HM.out _).mono ?_
    rintro e w1 ⟨rfl, hd⟩
    go_wp2
    go_ret2
    exact ⟨rfl, hd.below⟩
set_option maxHeartbeats 1000000 in
set_option maxRecDepth 100000 in
theorem pivot_bound_High_yes.calls (m : Int) (A1 : Option Addr) (c1 : Nat) (l1 : List S57) (A2 : Option Addr) (c2 : Nat) (l2 : List Int) (first : Int) (pd : Addr) (w : World) (hp : w.cell? pd = some (.int .i64 m))
    (hr1 : Kd.C k57 w A1 l1.length l1) (hc1 : l1.length ≤ c1) (hr2 : Kd.C (Kd.int .i64) w A2 l2.length l2) (hl1 : l1.length ≤ 4611686018427387904) (hl2 : l2.length ≤ 4611686018427387904) (hm : 1 ≤ m ∧ m ≤ 3) (hv : validSh l1) (hlen : l2.length = l1.length) (r1 r2 : Int)
    (hr : (r1, r2) = if keysGood l2 then (bestAt (fun b s k => mn b (Plain.high m k s.f1)) first l1 l2 l1.length, 0) else (0, 1)) :
    Calls Try.prog 58 #[.int .i64 m, .slice A1 l1.length c1, .slice A2 l2.length c2, .int .i64 first, .func (.func 61) #[] #[.pointer (some pd)]] w fun e w' => e = .returned (.tuple #[.int .i64 r1, .int .i64 r2]) ∧ Below w.heap.size w w' := by
  have HM := Aside0.mk (fun W => pivot_isMetric.calls m _ W (pivot_isMetric.is m))
  obtain ⟨kv, hkv⟩ := Plain.ev_ex (pivot_Valid.ev l1 hl1)
  have HV := Aside0.mk (fun W hW => pivot_Valid.calls kv A1 c1 l1 _ W hW hc1 hkv)
  rw [decide_eq_true hm] at HM
  rw [decide_eq_true hv] at HV
  have HR1 := Aside0.mk hr1
  have HR2 := Aside0.mk hr2
  have HP := Aside0.mk hp
  have HVS := Aside0.mk hv
  have HR := Aside0.mk hr
  have HL := Aside0.mk hlen
  have h3 : ((l2.length : Int) != (l1.length : Int)) = false := by simp; omega
  have h5 : (l2.length != l1.length) = false := by simp; omega
  have hu := Try.underlying57
  clear hkv hr1 hr2 hp hv hr hm hlen
  go_enter Try.func58, Try.ntmps58
  go_wp2_with fail
  refine (HM.out _).mono ?_
  rintro e w1 ⟨rfl, hd⟩
  obtain ⟨n, rfl⟩ := hd.out
  clear hd
  go_wp2_with fail
  refine (HV.out _ (Kd.C_drewN HR1.out n)).mono ?_
  rintro e w2 ⟨rfl, hb2⟩
  have HB := Aside0.mk (below_step (pw_below_drewN (Below.refl _ _) n) hb2)
  clear hb2
  go_wp2
  go_loopw [12, 33] (fun v i wr => ∃ (k : Nat) (best : Int), k ≤ l1.length ∧ i = .int .i64 k ∧ v = .int .i64 best ∧ Aside0 (best = bestAt (fun b s k => mn b (Plain.high m k s.f1)) first l1 l2 k) ∧ Aside0 (∀ j, j < k → Plain.isKey (rd l2 (j : Int))) ∧ Aside0 (Below w.heap.size w wr)) (fun _ i _ => l1.length - (intOf i).toNat)
  case atStart => exact ⟨0, first, Nat.zero_le _, rfl, rfl, ⟨rfl⟩, ⟨fun j hj => by omega⟩, HB⟩
  case round =>
    clear HB
    obtain ⟨k, best, hk, rfl, rfl, hbest, hall, HB⟩ := hrel
    by_cases hlt : k < l1.length
    · have p1 : (0 : Int) ≤ (k : Int) := by omega
      have q1 : (k : Int) < (l1.length : Int) := by omega
      have q2 : (k : Int) < (l2.length : Int) := by have := HL.out; omega
      obtain ⟨ad, e1, hx0, hx1⟩ := at_T57 (Kd.C_below HR1.out HB.out) (k : Int) p1 q1
      cases e1
      obtain ⟨ad2, e2, hx2⟩ := Kd.at_int (Kd.C_below HR2.out HB.out) (k : Int) p1 q2
      cases e2
      rw [Int.toNat_natCast] at hx0 hx1 hx2
      go_wp2_with fail
      have hh0 : (wr.alloc (.cells #[.int .i64 (rd_T57 l1 ↑k).f0, .int .i64 (rd_T57 l1 ↑k).f1] 57)).cell? ⟨wr.heap.size, 0, none⟩ = some (.int .i64 (rd_T57 l1 ↑k).f0) := by simp [go_sem]
      have hh1 : (wr.alloc (.cells #[.int .i64 (rd_T57 l1 ↑k).f0, .int .i64 (rd_T57 l1 ↑k).f1] 57)).cell? ⟨wr.heap.size, 1, none⟩ = some (.int .i64 (rd_T57 l1 ↑k).f1) := by simp [go_sem]
      have hh2 : (wr.alloc (.cells #[.int .i64 (rd_T57 l1 ↑k).f0, .int .i64 (rd_T57 l1 ↑k).f1] 57)).cell? (ad2.add k) = some (.int .i64 (rd l2 (k : Int))) := (World.cell?_alloc_lt _ _ _ (World.block_lt_of_cell? _ _ hx2)).trans hx2
      have hh3 : Below w.heap.size w (wr.alloc (.cells #[.int .i64 (rd_T57 l1 ↑k).f0, .int .i64 (rd_T57 l1 ↑k).f1] 57)) := below_alloc HB.out _
      have HS := World.block_lt_of_cell? _ _ hx2
      clear hx0 hx1 hx2 HB
      generalize wr.alloc (.cells #[.int .i64 (rd_T57 l1 ↑k).f0, .int .i64 (rd_T57 l1 ↑k).f1] 57) = wa at *
      generalize wr.heap.size = pb at *
      have hh4 : wa.cell? pd = some (.int .i64 m) := pw_cell_below hh3 HP.out
      have HX := Aside0.mk (fun (W : World) => pivot_pair_int_has.calls 0 134217728 (rd l2 (k : Int)) _ W (pivot_has_is _))
      by_cases hgood : Plain.isKey (rd l2 (k : Int))
      · rw [decide_eq_true hgood] at HX
        have HN : Aside0 (∀ j, j < k + 1 → Plain.isKey (rd l2 (j : Int))) := ⟨fun j hj => by
          rcases Nat.lt_or_ge j k with h | h
          · exact hall.out j h
          · obtain rfl : j = k := by omega
            exact hgood⟩
        have HC := Aside0.mk (fun (W : World) hW => pivot_High_1.calls best (rd_T57 l1 ↑k).f0 (rd_T57 l1 ↑k).f1 (rd l2 (k : Int)) m pd W hW hgood (pivot_shAt HVS.out hlt).1 (pivot_shAt HVS.out hlt).2)
        have HE : Aside0 (mn best (Plain.high m (rd l2 (k : Int)) (rd_T57 l1 ↑k).f1) = bestAt (fun b s k => mn b (Plain.high m k s.f1)) first l1 l2 (k + 1)) := ⟨by rw [hbest.out]; rfl⟩
        clear hgood hall
        generalize mn best (Plain.high m (rd l2 (k : Int)) (rd_T57 l1 ↑k).f1) = nb at *
        go_region_held3 (fun w' => w'.cell? ⟨pb, 0, none⟩ = some (.int .i64 (rd_T57 l1 ↑k).f0) ∧ w'.cell? ⟨pb, 1, none⟩ = some (.int .i64 (rd_T57 l1 ↑k).f1) ∧ w'.cell? (ad2.add k) = some (.int .i64 (rd l2 (k : Int))) ∧ w'.cell? pd = some (.int .i64 m) ∧ Below w.heap.size w w') (first | exact ⟨hh0, hh1, hh2, hh4, below_drew hh3⟩ | (go_split_ands; exact ⟨pw_cell_below hb (by assumption), pw_cell_below hb (by assumption), pw_cell_below hb (by assumption), pw_cell_below hb (by assumption), below_step (by assumption) hb⟩) | go_keep)
          ((first | (go_at_call 56; refine (pivot_all.calls _ _ _ rfl).mono ?_; rintro e w1 ⟨rfl, hb⟩) | (go_at_call 57; refine (HX.out _).mono ?_; rintro e w1 ⟨rfl, hb⟩)))
        all_goals (clear hh0 hh1 hh2 hh3 hh4)
        all_goals (rename_i hS_)
        all_goals (obtain ⟨hh0, hh1, hh2, hh4, hh3⟩ := hS_)
        all_goals (go_wp2_with fail)
        all_goals (
          go_region_held3 (fun w' => w'.cell? ⟨pb, 0, none⟩ = some (.int .i64 (rd_T57 l1 ↑k).f0) ∧ w'.cell? ⟨pb, 1, none⟩ = some (.int .i64 (rd_T57 l1 ↑k).f1) ∧ w'.cell? (ad2.add k) = some (.int .i64 (rd l2 (k : Int))) ∧ w'.cell? pd = some (.int .i64 m) ∧ Below w.heap.size w w') (first | exact ⟨hh0, hh1, hh2, hh4, below_drew hh3⟩ | (go_split_ands; exact ⟨pw_cell_below hb (by assumption), pw_cell_below hb (by assumption), pw_cell_below hb (by assumption), pw_cell_below hb (by assumption), below_step (by assumption) hb⟩) | go_keep)
            ((first | (go_at_call 61; refine (HC.out _ (by assumption)).mono ?_; rintro e w2 ⟨rfl, hb⟩))))
        all_goals (clear hh0 hh1 hh2 hh3 hh4)
        all_goals (rename_i hS_)
        all_goals (obtain ⟨hh0, hh1, hh2, hh4, hh3⟩ := hS_)
        all_goals go_wp2
        all_goals go_roundw
        case rel => exact ⟨k + 1, nb, by omega, by go_num, rfl, HE, HN, ⟨hh3⟩⟩
        case measure => simp [intOf]; omega
      · rw [decide_eq_false hgood] at HX
        obtain ⟨rfl, rfl⟩ : r1 = 0 ∧ r2 = 1 := by
          have h := HR.out
          rw [if_neg (fun hh => hgood (hh _ (by unfold rd; have := HL.out; simp [show k < l2.length by omega])))] at h
          exact ⟨congrArg Prod.fst h, congrArg Prod.snd h⟩
        clear hgood hall
        go_region_held3 (fun w' => w'.cell? ⟨pb, 0, none⟩ = some (.int .i64 (rd_T57 l1 ↑k).f0) ∧ w'.cell? ⟨pb, 1, none⟩ = some (.int .i64 (rd_T57 l1 ↑k).f1) ∧ w'.cell? (ad2.add k) = some (.int .i64 (rd l2 (k : Int))) ∧ w'.cell? pd = some (.int .i64 m) ∧ Below w.heap.size w w') (first | exact ⟨hh0, hh1, hh2, hh4, below_drew hh3⟩ | (go_split_ands; exact ⟨pw_cell_below hb (by assumption), pw_cell_below hb (by assumption), pw_cell_below hb (by assumption), pw_cell_below hb (by assumption), below_step (by assumption) hb⟩) | go_keep)
          ((first | (go_at_call 56; refine (pivot_all.calls _ _ _ rfl).mono ?_; rintro e w1 ⟨rfl, hb⟩) | (go_at_call 57; refine (HX.out _).mono ?_; rintro e w1 ⟨rfl, hb⟩)))
        all_goals (clear hh0 hh1 hh2 hh3 hh4)
        all_goals (rename_i hS_)
        all_goals (obtain ⟨hh0, hh1, hh2, hh4, hh3⟩ := hS_)
        all_goals (go_wp2)
        all_goals go_ret2
        all_goals exact ⟨rfl, hh3⟩
    · obtain rfl : k = l1.length := by omega
      have hgood : keysGood l2 := by
        intro x hx
        obtain ⟨j, hj, rfl⟩ := List.getElem_of_mem hx
        have h2 := hall.out j (by have := HL.out; omega)
        rw [show rd l2 (j : Int) = l2[j] by unfold rd; simp [hj]] at h2
        exact h2
      obtain ⟨rfl, rfl⟩ : r1 = best ∧ r2 = 0 := by
        have h := HR.out
        rw [if_pos hgood] at h
        rw [hbest.out]
        exact ⟨congrArg Prod.fst h, congrArg Prod.snd h⟩
      clear hgood hall
      go_wp2
      go_ret2
      exact ⟨rfl, HB.out⟩
theorem maxOf_mem {zs : List Int} (h : 0 < zs.length) : Lib.maxOf zs ∈ zs := by
  have key : ∀ (l : List Int) (a : Int), l.foldl max a = a ∨ l.foldl max a ∈ l := by
    intro l
    induction l with
    | nil => intro a; exact .inl rfl
    | cons x l ih =>
      intro a
      rw [List.foldl_cons]
      rcases ih (max a x) with h | h
      · rw [h]
        rcases Int.le_total a x with h2 | h2
        · exact .inr (by rw [Int.max_eq_right h2]; exact List.mem_cons_self)
        · exact .inl (Int.max_eq_left h2)
      · exact .inr (List.mem_cons_of_mem _ h)
  unfold Lib.maxOf
  rcases key zs (zs.headD 0) with h2 | h2
  · rw [h2]
    cases zs with
    | nil => simp at h
    | cons x l => exact List.mem_cons_self
  · exact h2
theorem slices_Index.ev_l (l : List Int) (hl : l.length ≤ 4611686018427387904) (x : Int) (v : List Int) : ∀ pre : List Int, l = pre ++ v → Ev (fun k => slices_Index_int_int.l0 k l x (l.length : Int) (pre.length : Int)) (if x ∈ v then ((pre.length + v.findIdx (· == x) : Nat) : Int) else -1) := by
  induction v with
  | nil =>
    intro pre hx
    have h1 : l.length = pre.length := by rw [hx]; simp
    refine Plain.ev_succ ?_
    simp only [slices_Index_int_int.l0]
    exact Plain.ev_neg (by omega) (Plain.ev_some (by simp))
  | cons y v ih =>
    intro pre hx
    have h1 : (l.length : Int) = pre.length + 1 + v.length := by rw [hx]; simp; omega
    refine Plain.ev_succ ?_
    simp only [slices_Index_int_int.l0]
    refine Plain.ev_pos (by omega) (Plain.ev_pos (by omega) (Plain.ev_pos (by omega) ?_))
    rw [show rd l (pre.length : Int) = y by rw [hx]; exact vector_rd_mid _ _ _]
    by_cases h2 : x = y
    · exact Plain.ev_pos h2 (Plain.ev_some (by subst h2; simp [List.findIdx_cons]))
    · have hn := ih (pre ++ [y]) (by rw [hx]; simp)
      rw [show ((pre ++ [y]).length : Int) = (pre.length : Int) + 1 by simp] at hn
      refine Plain.ev_neg h2 ?_
      rw [show wrap64 ((pre.length : Int) + 1) = (pre.length : Int) + 1 by unfold wrap64; omega]
      refine Plain.ev_cast hn ?_
      have h3 : (x ∈ y :: v) = (x ∈ v) := by simp [h2]
      have h4 : (y == x) = false := by simp; exact fun h => h2 h.symm
      simp only [h3]
      split
      · simp [List.findIdx_cons, h4]; omega
      · rfl
theorem slices_Index.ev {l : List Int} (hl : l.length ≤ 4611686018427387904) {x : Int} (hx : x ∈ l) : Ev (fun k => slices_Index_int_int.f k l x) ((l.findIdx (· == x) : Nat) : Int) := by
  have h : Ev (fun k => slices_Index_int_int.f k l x) _ := slices_Index.ev_l l hl x l [] rfl
  exact Plain.ev_cast h (by rw [if_pos hx]; simp)
/-- the place of the farthest vector -/
def farAt (xs : List Int) : Nat := xs.findIdx (· == Lib.maxOf xs)
theorem farAt_lt {xs : List Int} (h : 0 < xs.length) : farAt xs < xs.length := List.findIdx_lt_length_of_exists ⟨Lib.maxOf xs, maxOf_mem h, by simp⟩
/-- the keys of the vectors to the one at a place -/
def keysTo (m : Int) (l : List (List Int)) (at_ : Nat) : Nat → Int := fun i => Plain.key m (rowOf l at_) (rowOf l i)
def chooseL (m : Int) (l : List (List Int)) (most : Int) : Nat → List Int → List Int → List Int
  | 0, _, out => out
  | n + 1, xs, out => if (out.length : Int) < most then (if Lib.maxOf xs = 0 then out else chooseL m l most n (takeN xs (keysTo m l (farAt xs)) l.length) (out ++ [(farAt xs : Int)])) else out
def chooseOf (m : Int) (l : List (List Int)) (most : Int) : List Int := chooseL m l most 8 (takeN (List.replicate l.length 134217728) (keysTo m l 0) l.length) [0]
def chooseOk (m : Int) (l : List (List Int)) (most : Int) : Prop := (1 ≤ m ∧ m ≤ 3) ∧ pivot_isFit l ∧ 1 ≤ most ∧ most ≤ 8
instance (m : Int) (l : List (List Int)) (most : Int) : Decidable (chooseOk m l most) := by unfold chooseOk; infer_instance
def pivot_Choose.f (a0 : Int) (l1 : List (List Int)) (a2 : Int) : Option (List Int × Int) := if pivot_smallRows l1 then some (if chooseOk a0 l1 a2 then (chooseOf a0 l1 a2, 0) else ([], 1)) else none
set_option maxHeartbeats 1000000 in
theorem pivot_Choose_no.calls (a0 : Int) (A1 : Option Addr) (c1 : Nat) (l1 : List (List Int)) (a2 : Int) (w : World) (hr1 : Kd.C (Kd.slice 3 (Kd.int .i64)) w A1 l1.length l1) (hc1 : l1.length ≤ c1) (hs : pivot_smallRows l1) (hno : ¬ chooseOk a0 l1 a2) :
    Calls Try.prog 11 #[.int .i64 a0, .slice A1 l1.length c1, .int .i64 a2] w fun e w' => e = .returned (.tuple #[.slice none 0 0, .int .i64 1]) ∧ Below w.heap.size w w' := by
  have HM := Aside0.mk (fun W => pivot_isMetric.calls a0 _ W (pivot_isMetric.is a0))
  have HF := Aside0.mk (fun n => pivot_fit.calls A1 c1 l1 (decide (pivot_isFit l1)) (w.drewN n) (Kd.C_drewN hr1 n) hc1 (if_pos hs))
  clear hr1 hs hc1
  by_cases h1 : 1 ≤ a0 ∧ a0 ≤ 3
  · rw [decide_eq_true h1] at HM
    by_cases h2 : pivot_isFit l1
    · rw [decide_eq_true h2] at HF
      by_cases h3 : a2 < 1
      · have d3 : decide (a2 < 1) = true := decide_eq_true h3
        clear h1 h2 h3 hno
        go_enter Try.func11, Try.ntmps11
        go_wp2_with fail
        refine (HM.out _).mono ?_
        rintro e w1 ⟨rfl, hd⟩
        obtain ⟨n, rfl⟩ := hd.out
        clear hd
        go_wp2_with fail
        refine (HF.out n).mono ?_
        rintro e w2 ⟨rfl, hb⟩
        go_wp2
        go_ret2
        exact ⟨rfl, below_step (pw_below_drewN (Below.refl _ _) n) hb⟩
      · have h4 : a2 > 8 := by
          by_cases h : a2 > 8
          · exact h
          · exact absurd ⟨h1, h2, by omega, by omega⟩ hno
        have d3 : decide (a2 < 1) = false := decide_eq_false h3
        have d4 : decide (a2 > 8) = true := decide_eq_true h4
        clear h1 h2 h3 h4 hno
        go_enter Try.func11, Try.ntmps11
        go_wp2_with fail
        refine (HM.out _).mono ?_
        rintro e w1 ⟨rfl, hd⟩
        obtain ⟨n, rfl⟩ := hd.out
        clear hd
        go_wp2_with fail
        refine (HF.out n).mono ?_
        rintro e w2 ⟨rfl, hb⟩
        go_wp2
        go_ret2
        exact ⟨rfl, below_step (pw_below_drewN (Below.refl _ _) n) hb⟩
    · rw [decide_eq_false h2] at HF
      clear h1 h2 hno
      go_enter Try.func11, Try.ntmps11
      go_wp2_with fail
      refine (HM.out _).mono ?_
      rintro e w1 ⟨rfl, hd⟩
      obtain ⟨n, rfl⟩ := hd.out
      clear hd
      go_wp2_with fail
      refine (HF.out n).mono ?_
      rintro e w2 ⟨rfl, hb⟩
      go_wp2
      go_ret2
      exact ⟨rfl, below_step (pw_below_drewN (Below.refl _ _) n) hb⟩
  · rw [decide_eq_false h1] at HM
    clear h1 hno
    go_enter Try.func11, Try.ntmps11
    go_wp2_with fail
    refine (HM.out _).mono ?_
    rintro e w1 ⟨rfl, hd⟩
    go_wp2
    go_ret2
    exact ⟨rfl, hd.below⟩
def lenV : Value → Nat
  | .slice _ n _ => n
  | _ => 0
theorem owns_filled {w : World} {base g n : Nat} {x : Int} (hb : base ≤ g) (hn : n ≤ 4096) (h : w.heap[g]? = some (.cells (Plain.filled x n n).toArray 3 (0, 0))) (ok : Nat → Prop) (hok : ok g) :
    Kd.R (Kd.int .i64) 3 w base ok (.slice (some ⟨g, 0, none⟩) (List.replicate n x).length n) (List.replicate n x) := by
  refine Kd.R_of_own ⟨by simp [encs], .inr ⟨g, n, (Plain.filled x n n).toArray, by simp, hb, h, by simp, by unfold maxLen; omega, by simp [Plain.filled], by simp [Plain.filled, encs]⟩⟩ (fun k hk => ?_)
  have : g = k := by simpa [Value.ownBlock] using hk
  subst this
  exact hok
theorem owns_one {w : World} {base : Nat} {x : Int} (hb : base ≤ w.heap.size) (ok : Nat → Prop) (hok : ok w.heap.size) :
    Kd.R (Kd.int .i64) 3 (w.alloc (.cells #[.int .i64 x] 3)) base ok (.slice (some ⟨w.heap.size, 0, none⟩) [x].length 1) [x] := by
  refine Kd.R_of_own ⟨by simp [encs], .inr ⟨w.heap.size, 1, #[.int .i64 x], by simp, hb, by unfold World.alloc; exact Array.getElem?_push_size, by simp, by unfold maxLen; omega, by simp, by simp [encs]⟩⟩ (fun k hk => ?_)
  have : w.heap.size = k := by simpa [Value.ownBlock] using hk
  subst this
  exact hok
theorem pivot_take2.calls (w0 : World) (m : Int) (hm : 1 ≤ m ∧ m ≤ 3) (A : Option Addr) (c : Nat) (l : List (List Int)) (hr : Kd.C (Kd.slice 3 (Kd.int .i64)) w0 A l.length l) (hl : l.length ≤ 4096) (hal : ∀ v ∈ l, Plain.alike (rowOf l 0) v)
    (cb g cap : Nat) (hne : cb ≠ g) (hg : w0.heap.size ≤ g) (xs : List Int) (hlen : xs.length = l.length) (at_ : Nat) (hat : at_ < l.length) (w : World) (HB : Below w0.heap.size w0 w)
    (h0 : w.cell? ⟨cb, 0, none⟩ = some (.int .i64 m)) (h1 : w.cell? ⟨cb, 1, none⟩ = some (.slice A l.length c)) (h2 : w.cell? ⟨cb, 2, none⟩ = some (.slice (some ⟨g, 0, none⟩) l.length cap))
    (hx : Kd.R (Kd.int .i64) 3 w w0.heap.size (fun k => k = g) (.slice (some ⟨g, 0, none⟩) l.length cap) xs) :
    Calls Try.prog 45 #[.pointer (some ⟨cb, 0, none⟩), .int .i64 at_] w fun e w' => e = .returned (.tuple #[]) ∧
      w'.cell? ⟨cb, 0, none⟩ = some (.int .i64 m) ∧ w'.cell? ⟨cb, 1, none⟩ = some (.slice A l.length c) ∧ w'.cell? ⟨cb, 2, none⟩ = some (.slice (some ⟨g, 0, none⟩) l.length cap) ∧
      Kd.R (Kd.int .i64) 3 w' w0.heap.size (fun k => k = g) (.slice (some ⟨g, 0, none⟩) l.length cap) (takeN xs (keysTo m l at_) l.length) ∧ w.grownBy w' (some g) := by
  have h := pivot_take.calls w0 m hm A c l hr hl hal cb g cap hne hg xs hlen at_ hat w HB h0 h1 (by rw [hlen]; exact h2) (by rw [hlen]; exact Kd.R_mono hx (fun _ _ => trivial))
  rw [hlen] at h
  refine h.mono ?_
  rintro e w' ⟨rfl, t0, t1, t2, tx, tg⟩
  exact ⟨rfl, t0, t1, t2, Kd.R_mono (Kd.R_tight rfl tx) (fun k hk => by simpa [Value.ownBlock] using hk), tg⟩
set_option maxHeartbeats 4000000 in
set_option maxRecDepth 100000 in
theorem pivot_Choose_yes.calls (a0 : Int) (A1 : Option Addr) (c1 : Nat) (l1 : List (List Int)) (a2 : Int) (w : World) (hr1 : Kd.C (Kd.slice 3 (Kd.int .i64)) w A1 l1.length l1) (hc1 : l1.length ≤ c1) (hs : pivot_smallRows l1) (hok : chooseOk a0 l1 a2) :
    Calls Try.prog 11 #[.int .i64 a0, .slice A1 l1.length c1, .int .i64 a2] w fun e w' => ∃ v0_ : Value, e = .returned (.tuple #[v0_, .int .i64 0]) ∧ Kd.R (Kd.int .i64) 3 w' w.heap.size (fun _ => True) v0_ (chooseOf a0 l1 a2) ∧ Below w.heap.size w w' := by
  obtain ⟨hm, hfit, h21, h28⟩ := hok
  have HM := Aside0.mk (fun W => pivot_isMetric.calls a0 _ W (pivot_isMetric.is a0))
  have HF := Aside0.mk (fun n => pivot_fit.calls A1 c1 l1 (decide (pivot_isFit l1)) (w.drewN n) (Kd.C_drewN hr1 n) hc1 (if_pos hs))
  rw [decide_eq_true hm] at HM
  rw [decide_eq_true hfit] at HF
  have HREP := Aside0.mk (fun (W : World) (ad : Addr) (hx : W.cell? ad = some (.int .i64 134217728)) => slices_Repeat.calls ad 1 134217728 l1.length W hx hfit.1 hfit.2.1)
  have HT := Aside0.mk (fun (cb g : Nat) (hne : cb ≠ g) (hg : w.heap.size ≤ g) (xs : List Int) (hlen : xs.length = l1.length) (at_ : Nat) (hat : at_ < l1.length) (W : World) (HB : Below w.heap.size w W) =>
    pivot_take2.calls w a0 hm A1 c1 l1 hr1 hfit.2.1 hfit.2.2 cb g l1.length hne hg xs hlen at_ hat W HB)
  have hmf : ∀ (fn : Fn) (first cap : Array Value) (w : World), (Instr.makeFunc fn first cap).run Try.prog w = .ok (.func fn first cap) w := fun _ _ _ _ => rfl
  have HL1 := Aside0.mk hfit.1
  have HL2 := Aside0.mk hfit.2.1
  have d3 : decide (a2 < 1) = false := decide_eq_false (by omega)
  have d4 : decide (a2 > 8) = false := decide_eq_false (by omega)
  have H28 := Aside0.mk h28
  have hu := Try.underlying78
  clear hm hfit hr1 hs hc1 h21 h28
  go_enter Try.func11, Try.ntmps11
  go_wp2_with fail
  refine (HM.out _).mono ?_
  rintro e w1 ⟨rfl, hd⟩
  obtain ⟨n, rfl⟩ := hd.out
  clear hd
  go_wp2_with fail
  refine (HF.out n).mono ?_
  rintro e w2 ⟨rfl, hb⟩
  have HB2 := Aside0.mk (below_step (pw_below_drewN (Below.refl _ _) n) hb)
  clear hb HM HF
  go_wp2_with fail
  refine (HREP.out _ ⟨w2.heap.size, 0, none⟩ (by simp [go_sem])).mono ?_
  rintro e w4 ⟨g, rfl, hg, hrow, hb4⟩
  have HB4 := Aside0.mk (below_step (below_alloc HB2.out (.cells #[.int .i64 134217728] 3)) hb4)
  have HG : Aside0 (w.heap.size ≤ g) := ⟨by have := HB2.out.size; have h2 := hg; simp at h2; omega⟩
  have HROW := Aside0.mk hrow
  have HGL : Aside0 (g < w4.heap.size) := ⟨by
    have h := hrow
    rw [Array.getElem?_eq_some_iff] at h
    exact h.1⟩
  clear hg hrow hb4 HREP HB2
  go_wp2_with fail
  obtain ⟨cb, hcb⟩ : ∃ cb, w4.heap.size = cb := ⟨_, rfl⟩
  have hne : cb ≠ g := by have := HGL.out; omega
  have hx0 := owns_filled HG.out HL2.out HROW.out (fun k => k = g) rfl
  rw [List.length_replicate] at hx0
  have HB5 := below_alloc HB4.out (.cells #[.int .i64 a0, .slice A1 l1.length c1, .slice (some ⟨g, 0, none⟩) l1.length l1.length] 78)
  have hx5 := Kd.R_alloc hx0 (.cells #[.int .i64 a0, .slice A1 l1.length c1, .slice (some ⟨g, 0, none⟩) l1.length l1.length] 78)
  have t0 : (w4.alloc (.cells #[.int .i64 a0, .slice A1 l1.length c1, .slice (some ⟨g, 0, none⟩) l1.length l1.length] 78)).cell? ⟨cb, 0, none⟩ = some (.int .i64 a0) := by rw [← hcb]; simp [go_sem]
  have t1 : (w4.alloc (.cells #[.int .i64 a0, .slice A1 l1.length c1, .slice (some ⟨g, 0, none⟩) l1.length l1.length] 78)).cell? ⟨cb, 1, none⟩ = some (.slice A1 l1.length c1) := by rw [← hcb]; simp [go_sem]
  have t2 : (w4.alloc (.cells #[.int .i64 a0, .slice A1 l1.length c1, .slice (some ⟨g, 0, none⟩) l1.length l1.length] 78)).cell? ⟨cb, 2, none⟩ = some (.slice (some ⟨g, 0, none⟩) l1.length l1.length) := by rw [← hcb]; simp [go_sem]
  have HT5 := HT.out cb g hne HG.out (List.replicate l1.length 134217728) (by simp) 0 HL1.out _ HB5 t0 t1 t2 hx5
  rw [show ((0 : Nat) : Int) = 0 from rfl] at HT5
  clear t0 t1 t2 hx5 hx0 HB4 HROW
  rw [hcb]
  generalize w4.alloc (.cells #[.int .i64 a0, .slice A1 l1.length c1, .slice (some ⟨g, 0, none⟩) l1.length l1.length] 78) = w5 at *
  have HT6 := Aside0.mk HT5
  have HB6 := Aside0.mk HB5
  have HNE := Aside0.mk hne
  clear HT5 HB5 hne hcb HGL d3 d4
  refine HT6.out.mono ?_
  rintro e w6 ⟨rfl, t0, t1, t2, tx, tg⟩
  have HB7 := Aside0.mk (HB6.out.grown tg HB6.out.size (fun k hk => by cases hk; exact HG.out))
  have T0 := Aside0.mk t0
  have T1 := Aside0.mk t1
  have T2 := Aside0.mk t2
  have TX := Aside0.mk tx
  clear t0 t1 t2 tx tg HT6 HB6
  go_wp2_with fail
  have HLT : g < w6.heap.size ∧ cb < w6.heap.size := ⟨Kd.R_lt TX.out g rfl, World.block_lt_of_cell? _ _ T0.out⟩
  have HO := Aside0.mk (owns_one (x := 0) HB7.out.size (fun k => k ≠ g ∧ k ≠ cb) ⟨by have := HLT.1; omega, by have := HLT.2; omega⟩)
  have U0 : Aside0 ((w6.alloc (.cells #[.int .i64 0] 3)).cell? ⟨cb, 0, none⟩ = some (.int .i64 a0)) := ⟨(World.cell?_alloc_lt _ _ _ (World.block_lt_of_cell? _ _ T0.out)).trans T0.out⟩
  have U1 : Aside0 ((w6.alloc (.cells #[.int .i64 0] 3)).cell? ⟨cb, 1, none⟩ = some (.slice A1 l1.length c1)) := ⟨(World.cell?_alloc_lt _ _ _ (World.block_lt_of_cell? _ _ T1.out)).trans T1.out⟩
  have U2 : Aside0 ((w6.alloc (.cells #[.int .i64 0] 3)).cell? ⟨cb, 2, none⟩ = some (.slice (some ⟨g, 0, none⟩) l1.length l1.length)) := ⟨(World.cell?_alloc_lt _ _ _ (World.block_lt_of_cell? _ _ T2.out)).trans T2.out⟩
  have UX := Aside0.mk (Kd.R_alloc TX.out (.cells #[.int .i64 0] 3))
  have HB8 := Aside0.mk (below_alloc HB7.out (.cells #[.int .i64 0] 3))
  clear HLT T0 T1 T2 TX HB7
  go_loopw [10] (fun v wr => ∃ (f : Nat) (xs out : List Int) (ao : Option Addr) (co : Nat), v = .slice ao out.length co ∧ Aside0 (xs.length = l1.length) ∧ Aside0 (f + out.length = 9) ∧ Aside0 (chooseL a0 l1 a2 f xs out = chooseOf a0 l1 a2) ∧
    Aside0 (wr.cell? ⟨cb, 0, none⟩ = some (.int .i64 a0)) ∧ Aside0 (wr.cell? ⟨cb, 1, none⟩ = some (.slice A1 l1.length c1)) ∧ Aside0 (wr.cell? ⟨cb, 2, none⟩ = some (.slice (some ⟨g, 0, none⟩) l1.length l1.length)) ∧
    Aside0 (Kd.R (Kd.int .i64) 3 wr w.heap.size (fun k => k = g) (.slice (some ⟨g, 0, none⟩) l1.length l1.length) xs) ∧ Aside0 (Kd.R (Kd.int .i64) 3 wr w.heap.size (fun k => k ≠ g ∧ k ≠ cb) (.slice ao out.length co) out) ∧ Aside0 (Below w.heap.size w wr)) (fun v _ => 9 - lenV v)
  case atStart => exact ⟨8, _, [0], _, _, rfl, ⟨by rw [takeN_length]; simp⟩, ⟨rfl⟩, ⟨rfl⟩, U0, U1, U2, UX, HO, HB8⟩
  case round =>
    clear U0 U1 U2 UX HO HB8
    obtain ⟨f, xs, out, ao, co, rfl, hlen, hf, hrec, T0, T1, T2, TX, HO, HB⟩ := hrel
    by_cases hlt : (out.length : Int) < a2
    · have d1 : decide ((out.length : Int) < a2) = true := decide_eq_true hlt
      obtain ⟨f, rfl⟩ : ∃ f1, f = f1 + 1 := ⟨f - 1, by have := hf.out; have := H28.out; omega⟩
      have hrec2 := hrec.out
      rw [chooseL, if_pos hlt] at hrec2
      have hxp : 0 < xs.length := by have := hlen.out; have := HL1.out; omega
      obtain ⟨kx, hkx⟩ := Plain.ev_ex (slices_Index.ev (l := xs) (by have := hlen.out; have := HL2.out; omega) (maxOf_mem hxp))
      have hR := Kd.R_reads' TX.out
      have HF := Aside0.mk (pivot_farthest.calls cb (some ⟨g, 0, none⟩) l1.length xs (Lib.maxOf xs) (farAt xs : Int) kx wr (by rw [hlen.out]; exact T2.out) hR.2.2 (by rw [hlen.out]; exact Nat.le_refl _) (if_pos ⟨hxp, by have := hlen.out; have := HL2.out; omega⟩) hkx)
      have hfar : farAt xs < l1.length := by have h := farAt_lt hxp; rw [hlen.out] at h; exact h
      clear hkx hR hrec hlt
      by_cases hz : Lib.maxOf xs = 0
      · rw [if_pos hz] at hrec2
        have HREC := Aside0.mk hrec2
        rw [hz] at HF
        clear hrec2 hz hxp hfar
        generalize (farAt xs : Int) = fa at *
        go_wp2_with fail
        refine HF.out.mono ?_
        rintro e w8 ⟨rfl, hd⟩
        obtain ⟨n8, rfl⟩ := hd.out
        clear hd
        go_wp2
        go_ret2
        exact ⟨_, rfl, by rw [← HREC.out]; exact Kd.R_mono (Kd.R_drewN HO.out n8) (fun _ _ => trivial), pw_below_drewN HB.out n8⟩
      · rw [if_neg hz] at hrec2
        have HREC := Aside0.mk hrec2
        have d2 : (Lib.maxOf xs == 0) = false := by simpa using hz
        clear hrec2 hz hxp
        have HTK := Aside0.mk (fun n8 => HT.out cb g HNE.out HG.out xs hlen.out (farAt xs) hfar (wr.drewN n8) (pw_below_drewN HB.out n8) (pw_cell_below (pw_below_drewN (Below.refl _ _) n8) T0.out) (pw_cell_below (pw_below_drewN (Below.refl _ _) n8) T1.out) (pw_cell_below (pw_below_drewN (Below.refl _ _) n8) T2.out) (Kd.R_drewN TX.out n8))
        clear hfar
        generalize hfa : (farAt xs : Int) = fa at *
        generalize Lib.maxOf xs = mx0 at *
        have HFA := Aside0.mk hfa
        clear hfa
        go_wp2_with fail
        refine HF.out.mono ?_
        rintro e w8 ⟨rfl, hd⟩
        obtain ⟨n8, rfl⟩ := hd.out
        clear hd
        go_wp2_with fail
        refine (HTK.out n8).mono ?_
        rintro e w9 ⟨rfl, t0, t1, t2, tx, tg⟩
        have HO9 := Aside0.mk (Kd.R_grown (Kd.R_drewN HO.out n8) tg (fun k hk he => hk.1 (by cases he; rfl)))
        have HB9 := Aside0.mk ((pw_below_drewN HB.out n8).grown tg (by have := HB.out.size; simpa using this) (fun k hk => by cases hk; exact HG.out))
        have V0 := Aside0.mk t0
        have V1 := Aside0.mk t1
        have V2 := Aside0.mk t2
        have VX := Aside0.mk tx
        have hlt9 : g < w9.heap.size ∧ cb < w9.heap.size := ⟨Kd.R_lt tx g rfl, World.block_lt_of_cell? _ _ t0⟩
        have HLT9 := Aside0.mk hlt9
        clear t0 t1 t2 tx tg HF HTK T0 T1 T2 TX HO HB hlt9
        go_wp2_with ((with_reducible refine gate_builtin (b := .append) (xs := #[.tmp 56, .tmp 58]) rfl ?_); at_builtin; refine Kd.R_append (Kd.int .i64) (w0 := w) w.heap.size rfl (.tmp 56) (.tmp 58) 23 3 (.int .i64 0) 8 rfl Try.underlying23 info3 rfl (by decide) (by omega) (.slice ao out.length co) out fa [.int .i64 fa] (fun k => k ≠ g ∧ k ≠ cb) (fun _ => False) rfl rfl ?aP (fun _ hk => hk.elim) ?aF ?aO ?aB ?aS ?aL ?_; (case aP => exact rfl); (case aF => exact (fun k hk => ⟨by have := HLT9.out.1; omega, by have := HLT9.out.2; omega⟩)); (case aO => exact HO9.out); (case aB => exact HB9.out); (case aS => exact HB9.out.size); (case aL => have := hf.out; omega); intro v10 w10 ho hb hg hat)
        obtain ⟨a10, c10, rfl⟩ := Kd.R_slice ho
        have W0 := Aside0.mk (grown_cell hg V0.out (fun he => (HO9.out.1 cb he.symm).2 rfl))
        have W1 := Aside0.mk (grown_cell hg V1.out (fun he => (HO9.out.1 cb he.symm).2 rfl))
        have W2 := Aside0.mk (grown_cell hg V2.out (fun he => (HO9.out.1 cb he.symm).2 rfl))
        have WX := Aside0.mk (Kd.R_grown VX.out hg (fun k hk he => (HO9.out.1 k he.symm).1 hk))
        have WO := Aside0.mk ho
        have WB := Aside0.mk hb
        clear hat hg V0 V1 V2 VX HO9 HB9 HLT9 ho hb
        go_wp2
        go_roundw
        case rel => exact ⟨f, _, out ++ [fa], a10, c10, rfl, ⟨by rw [takeN_length]; exact hlen.out⟩, ⟨by have := hf.out; simp; omega⟩, ⟨HREC.out⟩, W0, W1, W2, WX, WO, WB⟩
        case measure => have := hf.out; simp [lenV]; omega
    · have d1 : decide ((out.length : Int) < a2) = false := decide_eq_false hlt
      have hrec2 := hrec.out
      have HREC : Aside0 (out = chooseOf a0 l1 a2) := ⟨by
        cases f with
        | zero => exact hrec2
        | succ f => rw [chooseL, if_neg hlt] at hrec2; exact hrec2⟩
      clear hrec hrec2 hlt
      go_wp2
      go_ret2
      exact ⟨_, rfl, by rw [← HREC.out]; exact Kd.R_mono HO.out (fun _ _ => trivial), HB.out⟩
theorem pivot_Choose.calls (a0 : Int) (A1 : Option Addr) (c1 : Nat) (l1 : List (List Int)) (a2 : Int) (r1 : List Int) (r2 : Int) (w : World) (hr1 : Kd.C (Kd.slice 3 (Kd.int .i64)) w A1 l1.length l1) (hc1 : l1.length ≤ c1) (h : pivot_Choose.f a0 l1 a2 = some (r1, r2)) :
    Calls Try.prog 11 #[.int .i64 a0, .slice A1 l1.length c1, .int .i64 a2] w fun e w' => ∃ v0_ : Value, e = .returned (.tuple #[v0_, .int .i64 r2]) ∧ Kd.R (Kd.int .i64) 3 w' w.heap.size (fun _ => True) v0_ r1 ∧ Below w.heap.size w w' := by
  unfold pivot_Choose.f at h
  by_cases hs : pivot_smallRows l1
  · rw [if_pos hs] at h
    by_cases hok : chooseOk a0 l1 a2
    · rw [if_pos hok] at h
      obtain ⟨rfl, rfl⟩ := Prod.mk.inj (Option.some.inj h)
      exact pivot_Choose_yes.calls a0 A1 c1 l1 a2 w hr1 hc1 hs hok
    · rw [if_neg hok] at h
      obtain ⟨rfl, rfl⟩ := Prod.mk.inj (Option.some.inj h)
      refine (pivot_Choose_no.calls a0 A1 c1 l1 a2 w hr1 hc1 hs hok).mono ?_
      rintro e w' ⟨rfl, hb⟩
      exact ⟨_, rfl, Kd.R_nil _ _ _ _ _, hb⟩
  · rw [if_neg hs] at h; cases h
def pivot_arePivots.f (a0 : Int) (l1 : List (List Int)) : Option (Bool) := (pivot_isMetric.f a0).bind fun t138 => (if t138 = true then ((pivot_fit.f l1).bind fun t139 => (if t139 = true then (some (decide ((l1.length : Int) ≤ 8))) else (some false))) else (some false))
set_option maxHeartbeats 8000000 in
set_option maxRecDepth 100000 in
theorem pivot_arePivots.calls (a0 : Int) (A1 : Option Addr) (c1 : Nat) (l1 : List (List Int)) (r : Bool) (w : World) (hr1 : Kd.C (Kd.slice 3 (Kd.int .i64)) w A1 l1.length l1) (hc1 : l1.length ≤ c1) (h : pivot_arePivots.f a0 l1 = some r) :
    Calls Try.prog 46 #[.int .i64 a0, .slice A1 l1.length c1] w fun e w' => e = .returned (.bool r) ∧ Below w.heap.size w w' := by
  have HR1 := Aside0.mk hr1
  have HC1 := Aside0.mk hc1
  clear hr1 hc1
  have HB := Aside0.mk (Below.refl w.heap.size w)
  have H : ((pivot_isMetric.f a0).bind fun t138 => (if t138 = true then ((pivot_fit.f l1).bind fun t139 => (if t139 = true then (some (decide ((l1.length : Int) ≤ 8))) else (some false))) else (some false))) = some r := h
  clear h
  replace H := Option.bind_eq_some_iff.mp H
  obtain ⟨t138, A30, H⟩ := H
  replace H : (if t138 = true then ((pivot_fit.f l1).bind fun t139 => (if t139 = true then (some (decide ((l1.length : Int) ≤ 8))) else (some false))) else (some false)) = some r := H
  have A3 := Aside0.mk A30
  clear A30
  by_cases c4 : t138 = true
  · subst c4
    have H1 : ((pivot_fit.f l1).bind fun t139 => (if t139 = true then (some (decide ((l1.length : Int) ≤ 8))) else (some false))) = some r := by rw [if_pos rfl] at H; exact H
    clear H
    have H := H1
    clear H1
    replace H := Option.bind_eq_some_iff.mp H
    obtain ⟨t139, A50, H⟩ := H
    replace H : (if t139 = true then (some (decide ((l1.length : Int) ≤ 8))) else (some false)) = some r := H
    have A5 := Aside0.mk A50
    clear A50
    by_cases c6 : t139 = true
    · subst c6
      have H1 : (some (decide ((l1.length : Int) ≤ 8))) = some r := by rw [if_pos rfl] at H; exact H
      clear H
      have H := H1
      clear H1
      obtain rfl := Option.some.inj H
      go_enter Try.func46, Try.ntmps46
      go_wp2_with (first | ((with_reducible refine gate_callee (f := 41) rfl ?_); refine goesL_ (some 6) rfl rfl Try.func41 (by kernel_rfl) rfl #[.int .i64 a0] rfl (by (try simp only [List.map_toArray, List.map_cons, List.map_nil]); first | done | rfl | (simp only [List.length_drop, List.length_take]; rfl)) ?_; (with_reducible refine (pivot_isMetric.calls a0 true _ A3.out).mono ?_); rintro e w' ⟨rfl, ⟨nd, rfl⟩⟩; refine ⟨_, rfl, ?_⟩) | (go_at_call 42; (with_reducible refine (pivot_fit.calls _ _ l1 true _ ?side1 ?side2 A5.out).mono ?_); (case side1 => repeat (first | exact HR1.out | (with_reducible refine Kd.C_alloc ?_ _) | (with_reducible refine Kd.C_drewN ?_ _) | (with_reducible refine Kd.C_drew ?_))); (case side2 => exact HC1.out); rintro e w7 ⟨rfl, hb⟩; have n0_ := Aside0.mk (below_step (by repeat (first | (with_reducible first | exact HB.out | apply below_alloc | apply pw_below_drewN | apply below_drew1) | exact HB.out)) hb); clear HB; have HB := n0_; clear n0_; (try clear hb); (try clear hb2); (try clear hk); (try clear hi)))
      go_ret
      exact ⟨by first | rfl | (simp [errW_none, errW_some] <;> rfl) | (simp [*, errW_none, errW_some] <;> rfl), by repeat (first | (with_reducible first | exact HB.out | apply below_alloc | apply pw_below_drewN | apply below_drew1) | exact HB.out)⟩
    · replace c6 := Bool.eq_false_iff.mpr c6
      subst c6
      have H1 : (some false) = some r := by rw [if_neg (show ¬ (false = true) by decide)] at H; exact H
      clear H
      have H := H1
      clear H1
      obtain rfl := Option.some.inj H
      go_enter Try.func46, Try.ntmps46
      go_wp2_with (first | ((with_reducible refine gate_callee (f := 41) rfl ?_); refine goesL_ (some 6) rfl rfl Try.func41 (by kernel_rfl) rfl #[.int .i64 a0] rfl (by (try simp only [List.map_toArray, List.map_cons, List.map_nil]); first | done | rfl | (simp only [List.length_drop, List.length_take]; rfl)) ?_; (with_reducible refine (pivot_isMetric.calls a0 true _ A3.out).mono ?_); rintro e w' ⟨rfl, ⟨nd, rfl⟩⟩; refine ⟨_, rfl, ?_⟩) | (go_at_call 42; (with_reducible refine (pivot_fit.calls _ _ l1 false _ ?side1 ?side2 A5.out).mono ?_); (case side1 => repeat (first | exact HR1.out | (with_reducible refine Kd.C_alloc ?_ _) | (with_reducible refine Kd.C_drewN ?_ _) | (with_reducible refine Kd.C_drew ?_))); (case side2 => exact HC1.out); rintro e w8 ⟨rfl, hb⟩; have n0_ := Aside0.mk (below_step (by repeat (first | (with_reducible first | exact HB.out | apply below_alloc | apply pw_below_drewN | apply below_drew1) | exact HB.out)) hb); clear HB; have HB := n0_; clear n0_; (try clear hb); (try clear hb2); (try clear hk); (try clear hi)))
      go_ret
      exact ⟨by first | rfl | (simp [errW_none, errW_some] <;> rfl) | (simp [*, errW_none, errW_some] <;> rfl), by repeat (first | (with_reducible first | exact HB.out | apply below_alloc | apply pw_below_drewN | apply below_drew1) | exact HB.out)⟩
  · replace c4 := Bool.eq_false_iff.mpr c4
    subst c4
    have H1 : (some false) = some r := by rw [if_neg (show ¬ (false = true) by decide)] at H; exact H
    clear H
    have H := H1
    clear H1
    obtain rfl := Option.some.inj H
    go_enter Try.func46, Try.ntmps46
    go_wp2_with (first | ((with_reducible refine gate_callee (f := 41) rfl ?_); refine goesL_ (some 6) rfl rfl Try.func41 (by kernel_rfl) rfl #[.int .i64 a0] rfl (by (try simp only [List.map_toArray, List.map_cons, List.map_nil]); first | done | rfl | (simp only [List.length_drop, List.length_take]; rfl)) ?_; (with_reducible refine (pivot_isMetric.calls a0 false _ A3.out).mono ?_); rintro e w' ⟨rfl, ⟨nd, rfl⟩⟩; refine ⟨_, rfl, ?_⟩))
    go_ret
    exact ⟨by first | rfl | (simp [errW_none, errW_some] <;> rfl) | (simp [*, errW_none, errW_some] <;> rfl), by repeat (first | (with_reducible first | exact HB.out | apply below_alloc | apply pw_below_drewN | apply below_drew1) | exact HB.out)⟩
end Go.Proofs.Ytoidpkpgeeeggaa.Q
end
section
namespace Go.Proofs.Ytoidpkpgeeeggaa.Q
open Go.RowKit Go.Proofs.YtoidpkpgeeeggaaW.PrintWords Go.Proofs.YtoidpkpgeeeggaaW.PrintLast Go.Proofs.YtoidpkpgeeeggaaW.PrintMore
attribute [local go_sem] max2_int min2_int max_two min_two max_three min_three max_four min_four   -- for this text's walks alone
set_option linter.unusedVariables false
set_option linter.unusedSimpArgs false
def pivot_keys.l0 : Nat → Int → List Int → List Int → List (List Int) → Int → Int → Option (List Int)
  | 0, _, _, _, _, _, _ => none
  | k + 1, x0, x2, x7, x10, x11, x12 => if x12 < x11 then (if 0 ≤ x12 then (if x12 < (x10.length : Int) then ((vector_Key.f k x0 (rd_L1 x10 x12) x2).bind fun t141 => (if x7.length < 17592186044416 then (pivot_keys.l0 k x0 x2 (x7 ++ [t141]) x10 x11 (wrap64 (x12 + 1))) else (none))) else (none)) else (none)) else (some x7)
def pivot_keys.f (k : Nat) (a0 : Int) (l1 : List (List Int)) (l2 : List Int) : Option (List Int) := pivot_keys.l0 k a0 l2 ([] : List Int) l1 (l1.length : Int) 0
theorem pivot_keys.mono_l : ∀ k, (∀ y0 y1 y2 y3 y4 y5, LeO (pivot_keys.l0 k y0 y1 y2 y3 y4 y5) (pivot_keys.l0 (k + 1) y0 y1 y2 y3 y4 y5))
  | 0 => fun _ _ _ _ _ _ r h => by simp [pivot_keys.l0] at h
  | k + 1 => by
    have ih0 := pivot_keys.mono_l k
    · intro y0 y1 y2 y3 y4 y5
      unfold pivot_keys.l0
      repeat' first
      | (with_reducible exact ih0 _ _ _ _ _ _)
      | (with_reducible exact vector_Key.mono _ _ _ _)
      | (with_reducible exact LeO.refl _)
      | (with_reducible exact LeO.none _)
      | (with_reducible refine LeO.ite ?_ ?_)
      | (with_reducible refine LeO.bind ?_ (fun _ => ?_))
      | exact ih0 _ _ _ _ _ _
      | exact vector_Key.mono _ _ _ _
      | exact LeO.none _
      | refine LeO.ite ?_ ?_
      | refine LeO.bind ?_ (fun _ => ?_)
theorem pivot_keys.mono : ∀ a0 a1 a2 k, LeO (pivot_keys.f k a0 a1 a2) (pivot_keys.f (k + 1) a0 a1 a2) := by
  intro a0 a1 a2 k
  have ih0 := pivot_keys.mono_l k
  unfold pivot_keys.f
  repeat' first
      | (with_reducible exact ih0 _ _ _ _ _ _)
      | (with_reducible exact vector_Key.mono _ _ _ _)
      | (with_reducible exact LeO.refl _)
      | (with_reducible exact LeO.none _)
      | (with_reducible refine LeO.ite ?_ ?_)
      | (with_reducible refine LeO.bind ?_ (fun _ => ?_))
      | exact ih0 _ _ _ _ _ _
      | exact vector_Key.mono _ _ _ _
      | exact LeO.none _
      | refine LeO.ite ?_ ?_
      | refine LeO.bind ?_ (fun _ => ?_)
set_option maxHeartbeats 8000000 in
set_option maxRecDepth 100000 in
theorem pivot_keys.calls (k : Nat) (a0 : Int) (A1 : Option Addr) (c1 : Nat) (l1 : List (List Int)) (A2 : Option Addr) (c2 : Nat) (l2 : List Int) (r : List Int) (w : World) (hr1 : Kd.C (Kd.slice 3 (Kd.int .i64)) w A1 l1.length l1) (hc1 : l1.length ≤ c1) (hr2 : Kd.C (Kd.int .i64) w A2 l2.length l2) (hc2 : l2.length ≤ c2) (h : pivot_keys.f k a0 l1 l2 = some r) :
    Calls Try.prog 47 #[.int .i64 a0, .slice A1 l1.length c1, .slice A2 l2.length c2] w fun e w' => ∃ v0_ : Value, e = .returned (v0_) ∧ Kd.R (Kd.int .i64) 3 w' w.heap.size (fun _ => True) v0_ r ∧ Below w.heap.size w w' := by
  have HR1 := Aside0.mk hr1
  have HC1 := Aside0.mk hc1
  clear hr1 hc1
  have HR2 := Aside0.mk hr2
  have HC2 := Aside0.mk hc2
  clear hr2 hc2
  have HB := Aside0.mk (Below.refl w.heap.size w)
  have H : (pivot_keys.l0 k a0 l2 ([] : List Int) l1 (l1.length : Int) 0) = some r := h
  clear h
  have H' := Aside0.mk H
  clear H
  go_enter Try.func47, Try.ntmps47
  go_wp2
  go_loopg [7, 12] k (fun kq v7 v12 w' => ∃ (x7_1 : List Int) (x12_1 : Int), v12 = .int .i64 x12_1 ∧ Aside0 (pivot_keys.l0 kq a0 l2 x7_1 l1 (l1.length : Int) x12_1 = some r) ∧ Aside0 (kq ≤ k) ∧ Aside0 (Kd.R (Kd.int .i64) 3 w' w.heap.size (fun _ => True) v7 x7_1) ∧ Aside0 (Below w.heap.size w w'))
  case atStart => exact ⟨(([] : List Int)), (0), (by first | rfl | (simp; done) | (simp [*]; done)), H', ⟨Nat.le_refl _⟩, ⟨by first | exact Kd.R_nil _ _ _ _ _ | exact Kd.N_nil _ _ _ _ _ | exact Kd.V_nil _ _ _ _ _ | exact Kd.Q_nil _ _ _ _ _ | exact Kd.S_nil _ _ _ _ _⟩, ⟨by repeat (first | (with_reducible first | exact HB.out | apply below_alloc | apply pw_below_drewN | apply below_drew1) | exact HB.out)⟩⟩
  case round =>
    clear H'
    try clear c1
    try clear c2
    try clear p2
    obtain ⟨x7_1, x12_1, rfl, HA, HK1, HO_7, HB⟩ := hrel
    cases gk with
    | zero => exact absurd HA.out (by simp [pivot_keys.l0])
    | succ k1 =>
      have H := HA.out
      clear HA
      simp only [pivot_keys.l0] at H
      by_cases c4 : x12_1 < (l1.length : Int)
      · rw [if_pos c4] at H
        have c4b0 : decide (x12_1 < (l1.length : Int)) = true := decide_eq_true c4
        clear c4
        by_cases c5 : 0 ≤ x12_1
        · rw [if_pos c5] at H
          have c5b0 : decide (0 ≤ x12_1) = true := decide_eq_true c5
          clear c5
          by_cases c6 : x12_1 < (l1.length : Int)
          · rw [if_pos c6] at H
            have c6b0 : decide (x12_1 < (l1.length : Int)) = true := decide_eq_true c6
            clear c6
            replace H := Option.bind_eq_some_iff.mp H
            obtain ⟨t141, A70, H⟩ := H
            replace H : (if x7_1.length < 17592186044416 then (pivot_keys.l0 k1 a0 l2 (x7_1 ++ [t141]) l1 (l1.length : Int) (wrap64 (x12_1 + 1))) else (none)) = some r := H
            have A7 := Aside0.mk A70
            clear A70
            by_cases c8 : x7_1.length < 17592186044416
            · rw [if_pos c8] at H
              have LMc8 := Aside0.mk c8
              clear c8
              obtain ⟨y142, hy142⟩ : ∃ y_ : List Int, y_ = (x7_1 ++ [t141]) := ⟨_, rfl⟩
              replace H : (pivot_keys.l0 k1 a0 l2 y142 l1 (l1.length : Int) (wrap64 (x12_1 + 1))) = some r := by first | (rw [hy142]; with_reducible exact H) | (have H2_ := (Option.bind_some _ _).symm.trans H; rw [hy142]; with_reducible exact H2_) | (have H2_ := (Option.bind_some _ _).symm.trans H; with_reducible exact H2_) | with_reducible exact H | (rw [hy142]; exact H) | exact H
              have Ny142 := Aside0.mk hy142
              clear hy142
              have H' := Aside0.mk H
              clear H
              have p140 : 0 ≤ (x12_1 : Int) := of_decide_eq_true (by first | (with_reducible assumption) | assumption)
              have q140 : x12_1 < (l1.length : Int) := of_decide_eq_true (by first | (with_reducible assumption) | assumption)
              obtain ⟨ad140, A140_0, c140_0, e140, hx140_0, hl140_0, hi140_0⟩ := at_L1 HR1.out x12_1 p140 q140
              cases e140
              replace hx140_0 := (HB.out.cell (World.block_lt_of_cell? w _ hx140_0)).trans hx140_0
              have HR140_0 := Aside0.mk hi140_0
              have HC140_0 := Aside0.mk hl140_0
              clear hi140_0 hl140_0
              replace p140 := eq_true p140
              replace q140 := eq_true q140
              go_wp2_with (first | ((with_reducible refine gate_callee (f := 27) rfl ?_); refine goesL_ (some 20) rfl rfl Try.func27 (by kernel_rfl) rfl #[.int .i64 a0, .slice A140_0 (rd_L1 l1 x12_1).length c140_0, .slice A2 l2.length c2] rfl (by (try simp only [List.map_toArray, List.map_cons, List.map_nil]); first | done | rfl | (simp only [List.length_drop, List.length_take]; rfl)) ?_; (with_reducible refine (vector_Key.calls k1 a0 _ _ (rd_L1 l1 x12_1) _ _ l2 t141 _ ?side1 ?side2 ?side3 ?side4 A7.out).mono ?_); (case side1 => repeat (first | exact (Kd.C_below HR140_0.out HB.out) | (with_reducible refine Kd.C_alloc ?_ _) | (with_reducible refine Kd.C_drewN ?_ _) | (with_reducible refine Kd.C_drew ?_))); (case side2 => exact HC140_0.out); (case side3 => repeat (first | exact (Kd.C_below HR2.out HB.out) | (with_reducible refine Kd.C_alloc ?_ _) | (with_reducible refine Kd.C_drewN ?_ _) | (with_reducible refine Kd.C_drew ?_))); (case side4 => exact HC2.out); rintro e w9 ⟨rfl, hb⟩; refine ⟨_, rfl, ?_⟩; have n0_ := Aside0.mk (Kd.R_below (by (with_reducible repeat (first | apply Kd.R_alloc | apply Kd.R_drewN | apply Kd.R_drew)); exact HO_7.out) hb); have n1_ := Aside0.mk (below_step (by repeat (first | (with_reducible first | exact HB.out | apply below_alloc | apply pw_below_drewN | apply below_drew1) | exact HB.out)) hb); clear HO_7; clear HB; have HO_7 := n0_; have HB := n1_; clear n0_ n1_; (try clear hb); (try clear hb2); (try clear hk); (try clear hi)) | ((with_reducible refine gate_builtin (b := .append) (xs := #[.tmp 16, .tmp 21]) rfl ?_); at_builtin; refine Kd.R_append (Kd.int .i64) (w0 := w) w.heap.size rfl (.tmp 16) (.tmp 21) 23 3 (.int .i64 0) 8 rfl Try.underlying23 info3 rfl (by decide) (by omega) u7 x7_1 t141 [.int .i64 t141] (fun _ => True) (fun _ => False) rfl rfl ?aP (fun _ hk => hk.elim) ?aF ?aO ?aB ?aS ?aL ?_; (case aP => exact rfl); (case aB => exact (by repeat (first | (with_reducible first | exact HB.out | apply below_alloc | apply pw_below_drewN | apply below_drew1) | exact HB.out))); (case aF => exact (fun _ _ => trivial)); (case aO => exact (by (with_reducible repeat (first | apply Kd.R_alloc | apply Kd.R_drewN | apply Kd.R_drew)); exact HO_7.out)); (case aS => exact (below_size (by repeat (first | (with_reducible first | exact HB.out | apply below_alloc | apply pw_below_drewN | apply below_drew1) | exact HB.out)))); (case aL => have := LMc8.out; omega); intro v143 w10 ho hb hg hat; rw [← Ny142.out] at ho; have n0_ := Aside0.mk (hb); have n1_ := Aside0.mk (ho); clear HB; clear HO_7; have HB := n0_; have HO144 := n1_; clear n0_ n1_; clear ho hb hg hat))
              go_roundg k1
              case measure => have := HK1.out; omega
              case rel => exact ⟨(y142), (wrap64 (x12_1 + 1)), (by first | rfl | (simp; done) | (simp [*]; done)), H', ⟨by have := HK1.out; omega⟩, ⟨by (with_reducible repeat (first | apply Kd.R_alloc | apply Kd.R_drewN | apply Kd.R_drew)); exact HO144.out⟩, ⟨by repeat (first | (with_reducible first | exact HB.out | apply below_alloc | apply pw_below_drewN | apply below_drew1) | exact HB.out)⟩⟩
            · rw [if_neg c8] at H
              exact absurd H (by simp)
          · rw [if_neg c6] at H
            exact absurd H (by simp)
        · rw [if_neg c5] at H
          exact absurd H (by simp)
      · rw [if_neg c4] at H
        have c4b0 : decide (x12_1 < (l1.length : Int)) = false := decide_eq_false c4
        clear c4
        obtain rfl := Option.some.inj H
        go_wp2
        go_ret
        exact ⟨_, by first | rfl | (simp [errW_none, errW_some] <;> rfl) | (simp [*, errW_none, errW_some] <;> rfl), by (with_reducible repeat (first | apply Kd.R_alloc | apply Kd.R_drewN | apply Kd.R_drew)); exact HO_7.out, by repeat (first | (with_reducible first | exact HB.out | apply below_alloc | apply pw_below_drewN | apply below_drew1) | exact HB.out)⟩
def slices_Min_int_int.f (l0 : List Int) : Option Int := if 0 < l0.length ∧ l0.length ≤ 4611686018427387904 then some (Lib.minOf l0) else none
theorem slices_Min_int_int.calls (A0 : Option Addr) (c0 : Nat) (l0 : List Int) (r : Int) (w : World) (hr0 : Kd.C (Kd.int .i64) w A0 l0.length l0) (hc0 : l0.length ≤ c0) (h : slices_Min_int_int.f l0 = some r) :
    Calls Try.prog 48 #[.slice A0 l0.length c0] w fun e w' => e = .returned (.int .i64 r) ∧ Drawn0 w w' := by
  unfold slices_Min_int_int.f at h
  split at h
  · rename_i hb
    obtain rfl := Option.some.inj h
    obtain ⟨b, off, rfl, hc⟩ := reads_plain hr0 hb.1
    refine (Go.Proofs.Try.slices_Min_int b off _ c0 l0 w hb.1 (Nat.le_refl _) (by omega) hc).mono ?_
    rintro e w' ⟨rfl, rfl⟩
    exact ⟨by rw [List.take_length], Drawn0.refl _⟩
  · cases h
def pivot_Nearest.j0 : Nat → Int → List (List Int) → List Int → Bool → Option (Int × Int × Int)
  | 0, _, _, _, _ => none
  | k + 1, x0, x1, x2, x22 => if x22 = true then (some (0, 0, 1)) else ((pivot_keys.f k x0 x1 x2).bind fun t148 => ((slices_Min_int_int.f t148).bind fun t151 => ((slices_Index_int_int.f k t148 t151).bind fun t152 => (some (t152, t151, 0)))))
def pivot_Nearest.f (k : Nat) (a0 : Int) (l1 : List (List Int)) (l2 : List Int) : Option (Int × Int × Int) := (pivot_arePivots.f a0 l1).bind fun t145 => (if t145 = true then (if 0 < (l1.length : Int) then ((vector_Alike.f (rd_L1 l1 0) l2).bind fun t147 => (pivot_Nearest.j0 k a0 l1 l2 (!t147))) else (none)) else (pivot_Nearest.j0 k a0 l1 l2 true))
theorem pivot_Nearest.mono_l : ∀ k, (∀ y0 y1 y2 y3, LeO (pivot_Nearest.j0 k y0 y1 y2 y3) (pivot_Nearest.j0 (k + 1) y0 y1 y2 y3))
  | 0 => fun _ _ _ _ r h => by simp [pivot_Nearest.j0] at h
  | k + 1 => by
    have ih0 := pivot_Nearest.mono_l k
    · intro y0 y1 y2 y3
      unfold pivot_Nearest.j0
      repeat' first
      | (with_reducible exact ih0 _ _ _ _)
      | (with_reducible exact pivot_keys.mono _ _ _ _)
      | (with_reducible exact slices_Index_int_int.mono _ _ _)
      | (with_reducible exact LeO.refl _)
      | (with_reducible exact LeO.none _)
      | (with_reducible refine LeO.ite ?_ ?_)
      | (with_reducible refine LeO.bind ?_ (fun _ => ?_))
      | exact ih0 _ _ _ _
      | exact pivot_keys.mono _ _ _ _
      | exact slices_Index_int_int.mono _ _ _
      | exact LeO.none _
      | refine LeO.ite ?_ ?_
      | refine LeO.bind ?_ (fun _ => ?_)
theorem pivot_Nearest.mono : ∀ a0 a1 a2 k, LeO (pivot_Nearest.f k a0 a1 a2) (pivot_Nearest.f (k + 1) a0 a1 a2) := by
  intro a0 a1 a2 k
  have ih0 := pivot_Nearest.mono_l k
  unfold pivot_Nearest.f
  repeat' first
      | (with_reducible exact ih0 _ _ _ _)
      | (with_reducible exact pivot_keys.mono _ _ _ _)
      | (with_reducible exact slices_Index_int_int.mono _ _ _)
      | (with_reducible exact LeO.refl _)
      | (with_reducible exact LeO.none _)
      | (with_reducible refine LeO.ite ?_ ?_)
      | (with_reducible refine LeO.bind ?_ (fun _ => ?_))
      | exact ih0 _ _ _ _
      | exact pivot_keys.mono _ _ _ _
      | exact slices_Index_int_int.mono _ _ _
      | exact LeO.none _
      | refine LeO.ite ?_ ?_
      | refine LeO.bind ?_ (fun _ => ?_)
set_option maxHeartbeats 8000000 in
set_option maxRecDepth 100000 in
theorem pivot_Nearest.calls (k : Nat) (a0 : Int) (A1 : Option Addr) (c1 : Nat) (l1 : List (List Int)) (A2 : Option Addr) (c2 : Nat) (l2 : List Int) (r1 : Int) (r2 : Int) (r3 : Int) (w : World) (hr1 : Kd.C (Kd.slice 3 (Kd.int .i64)) w A1 l1.length l1) (hc1 : l1.length ≤ c1) (hr2 : Kd.C (Kd.int .i64) w A2 l2.length l2) (hc2 : l2.length ≤ c2) (h : pivot_Nearest.f k a0 l1 l2 = some (r1, r2, r3)) :
    Calls Try.prog 12 #[.int .i64 a0, .slice A1 l1.length c1, .slice A2 l2.length c2] w fun e w' => e = .returned (.tuple #[.int .i64 r1, .int .i64 r2, .int .i64 r3]) ∧ Below w.heap.size w w' := by
  have HR1 := Aside0.mk hr1
  have HC1 := Aside0.mk hc1
  clear hr1 hc1
  have HR2 := Aside0.mk hr2
  have HC2 := Aside0.mk hc2
  clear hr2 hc2
  have HB := Aside0.mk (Below.refl w.heap.size w)
  have H : ((pivot_arePivots.f a0 l1).bind fun t145 => (if t145 = true then (if 0 < (l1.length : Int) then ((vector_Alike.f (rd_L1 l1 0) l2).bind fun t147 => (pivot_Nearest.j0 k a0 l1 l2 (!t147))) else (none)) else (pivot_Nearest.j0 k a0 l1 l2 true))) = some (r1, r2, r3) := h
  clear h
  have HC4 := Aside0.mk H
  clear H
  go_enter Try.func12, Try.ntmps12
  go_upto_region 1 with (fail)
  go_cut [22] (fun v22 wc => ∃ (kq : Nat) (x22_3 : Bool), v22 = .bool x22_3 ∧ Aside0 (pivot_Nearest.j0 kq a0 l1 l2 x22_3 = some (r1, r2, r3)) ∧ Aside0 (kq ≤ k) ∧ Aside0 (Below w.heap.size w wc))
  case first =>
    have H := HC4.out
    clear HC4
    replace H := Option.bind_eq_some_iff.mp H
    obtain ⟨t145, A50, H⟩ := H
    replace H : (if t145 = true then (if 0 < (l1.length : Int) then ((vector_Alike.f (rd_L1 l1 0) l2).bind fun t147 => (pivot_Nearest.j0 k a0 l1 l2 (!t147))) else (none)) else (pivot_Nearest.j0 k a0 l1 l2 true)) = some (r1, r2, r3) := H
    have A5 := Aside0.mk A50
    clear A50
    by_cases c6 : t145 = true
    · subst c6
      have H1 : (if 0 < (l1.length : Int) then ((vector_Alike.f (rd_L1 l1 0) l2).bind fun t147 => (pivot_Nearest.j0 k a0 l1 l2 (!t147))) else (none)) = some (r1, r2, r3) := by rw [if_pos rfl] at H; exact H
      clear H
      have H := H1
      clear H1
      by_cases c7 : 0 < (l1.length : Int)
      · rw [if_pos c7] at H
        have c7b0 : decide (0 < (l1.length : Int)) = true := decide_eq_true c7
        have c7b1 : decide (0 < l1.length) = true := decide_eq_true (by omega)
        clear c7
        (first | rw [c7b0] | (simp only [i64_w, i32_w]; rw [c7b0]) | skip)
        replace H := Option.bind_eq_some_iff.mp H
        obtain ⟨t147, A80, H⟩ := H
        replace H : (pivot_Nearest.j0 k a0 l1 l2 (!t147)) = some (r1, r2, r3) := H
        have A8 := Aside0.mk A80
        clear A80
        have H' := Aside0.mk H
        clear H
        go_wp2_with (first | ((with_reducible refine gate_callee (f := 46) rfl ?_); refine goesL_ (some 13) rfl rfl Try.func46 (by kernel_rfl) rfl #[.int .i64 a0, .slice A1 l1.length c1] rfl (by (try simp only [List.map_toArray, List.map_cons, List.map_nil]); first | done | rfl | (simp only [List.length_drop, List.length_take]; rfl)) ?_; (with_reducible refine (pivot_arePivots.calls a0 _ _ l1 true _ ?side1 ?side2 A5.out).mono ?_); (case side1 => repeat (first | exact (Kd.C_below HR1.out HB.out) | (with_reducible refine Kd.C_alloc ?_ _) | (with_reducible refine Kd.C_drewN ?_ _) | (with_reducible refine Kd.C_drew ?_))); (case side2 => exact HC1.out); rintro e w9 ⟨rfl, hb⟩; refine ⟨_, rfl, ?_⟩; have n0_ := Aside0.mk (below_step (by repeat (first | (with_reducible first | exact HB.out | apply below_alloc | apply pw_below_drewN | apply below_drew1) | exact HB.out)) hb); clear HB; have HB := n0_; clear n0_; (try clear hb); (try clear hb2); (try clear hk); (try clear hi); have p146 : 0 ≤ (0 : Int) := (by omega); have q146 : 0 < (l1.length : Int) := of_decide_eq_true (by first | (with_reducible assumption) | assumption); obtain ⟨ad146, A146_0, c146_0, e146, hx146_0, hl146_0, hi146_0⟩ := at_L1 HR1.out 0 p146 q146; cases e146; have qi146 : (0 < l1.length) = True := eq_true (by omega); (try rw [show ((0 : Int)).toNat = 0 from rfl] at hx146_0); (try rw [Addr.add_zero'] at hx146_0); replace hx146_0 := (HB.out.cell (World.block_lt_of_cell? w _ hx146_0)).trans hx146_0; have HR146_0 := Aside0.mk hi146_0; have HC146_0 := Aside0.mk hl146_0; clear hi146_0 hl146_0; replace p146 := eq_true p146; replace q146 := eq_true q146) | (go_at_call 22; (with_reducible refine (vector_Alike.calls _ _ (rd_L1 l1 0) _ _ l2 t147 _ ?side1 ?side2 ?side3 ?side4 A8.out).mono ?_); (case side1 => repeat (first | exact (Kd.C_below HR146_0.out HB.out) | (with_reducible refine Kd.C_alloc ?_ _) | (with_reducible refine Kd.C_drewN ?_ _) | (with_reducible refine Kd.C_drew ?_))); (case side2 => exact HC146_0.out); (case side3 => repeat (first | exact (Kd.C_below HR2.out HB.out) | (with_reducible refine Kd.C_alloc ?_ _) | (with_reducible refine Kd.C_drewN ?_ _) | (with_reducible refine Kd.C_drew ?_))); (case side4 => exact HC2.out); rintro e w' ⟨rfl, ⟨nd, rfl⟩⟩))
        go_meet
        case rel => exact ⟨_, (!t147), (by first | rfl | (simp; done) | (simp [*]; done)), H', ⟨by first | omega | exact Nat.le_refl _⟩, ⟨by repeat (first | (with_reducible first | exact HB.out | apply below_alloc | apply pw_below_drewN | apply below_drew1) | exact HB.out)⟩⟩
      · rw [if_neg c7] at H
        exact absurd H (by simp)
    · replace c6 := Bool.eq_false_iff.mpr c6
      subst c6
      have H1 : (pivot_Nearest.j0 k a0 l1 l2 true) = some (r1, r2, r3) := by rw [if_neg (show ¬ (false = true) by decide)] at H; exact H
      clear H
      have H := H1
      clear H1
      have H' := Aside0.mk H
      clear H
      go_wp2_with (first | ((with_reducible refine gate_callee (f := 46) rfl ?_); refine goesL_ (some 13) rfl rfl Try.func46 (by kernel_rfl) rfl #[.int .i64 a0, .slice A1 l1.length c1] rfl (by (try simp only [List.map_toArray, List.map_cons, List.map_nil]); first | done | rfl | (simp only [List.length_drop, List.length_take]; rfl)) ?_; (with_reducible refine (pivot_arePivots.calls a0 _ _ l1 false _ ?side1 ?side2 A5.out).mono ?_); (case side1 => repeat (first | exact (Kd.C_below HR1.out HB.out) | (with_reducible refine Kd.C_alloc ?_ _) | (with_reducible refine Kd.C_drewN ?_ _) | (with_reducible refine Kd.C_drew ?_))); (case side2 => exact HC1.out); rintro e w10 ⟨rfl, hb⟩; refine ⟨_, rfl, ?_⟩; have n0_ := Aside0.mk (below_step (by repeat (first | (with_reducible first | exact HB.out | apply below_alloc | apply pw_below_drewN | apply below_drew1) | exact HB.out)) hb); clear HB; have HB := n0_; clear n0_; (try clear hb); (try clear hb2); (try clear hk); (try clear hi)))
      go_meet
      case rel => exact ⟨_, (true), (by first | rfl | (simp; done) | (simp [*]; done)), H', ⟨by first | omega | exact Nat.le_refl _⟩, ⟨by repeat (first | (with_reducible first | exact HB.out | apply below_alloc | apply pw_below_drewN | apply below_drew1) | exact HB.out)⟩⟩
  case rest =>
    clear HC4
    try clear c1
    try clear p1
    try clear q1
    try clear hx1
    try clear qi1
    try clear c2
    try clear p2
    try clear c4
    try clear c6
    try clear c7
    try clear c7b0
    try clear c7b1
    try clear hx146_0
    try clear p146
    try clear q146
    obtain ⟨kq, x22_3, rfl, HA, HJ3, HB⟩ := hcut
    cases kq with
    | zero => exact absurd HA.out (by simp [pivot_Nearest.j0])
    | succ kj3 =>
      have H := HA.out
      clear HA
      simp only [pivot_Nearest.j0] at H
      by_cases c11 : x22_3 = true
      · subst c11
        have H1 : (some (0, 0, 1)) = some (r1, r2, r3) := by rw [if_pos rfl] at H; exact H
        clear H
        have H := H1
        clear H1
        simp only [Option.some.injEq, Prod.mk.injEq] at H
        obtain ⟨rfl, rfl, rfl⟩ := H
        go_wp2
        go_ret3
        exact ⟨by first | rfl | (simp [errW_none, errW_some] <;> rfl) | (simp [*, errW_none, errW_some] <;> rfl), by repeat (first | (with_reducible first | exact HB.out | apply below_alloc | apply pw_below_drewN | apply below_drew1) | exact HB.out)⟩
      · replace c11 := Bool.eq_false_iff.mpr c11
        subst c11
        have H1 : ((pivot_keys.f kj3 a0 l1 l2).bind fun t148 => ((slices_Min_int_int.f t148).bind fun t151 => ((slices_Index_int_int.f kj3 t148 t151).bind fun t152 => (some (t152, t151, 0))))) = some (r1, r2, r3) := by rw [if_neg (show ¬ (false = true) by decide)] at H; exact H
        clear H
        have H := H1
        clear H1
        replace H := Option.bind_eq_some_iff.mp H
        obtain ⟨t148, A120, H⟩ := H
        replace H : ((slices_Min_int_int.f t148).bind fun t151 => ((slices_Index_int_int.f kj3 t148 t151).bind fun t152 => (some (t152, t151, 0)))) = some (r1, r2, r3) := H
        have A12 := Aside0.mk A120
        clear A120
        replace H := Option.bind_eq_some_iff.mp H
        obtain ⟨t151, A130, H⟩ := H
        replace H : ((slices_Index_int_int.f kj3 t148 t151).bind fun t152 => (some (t152, t151, 0))) = some (r1, r2, r3) := H
        have A13 := Aside0.mk A130
        clear A130
        replace H := Option.bind_eq_some_iff.mp H
        obtain ⟨t152, A140, H⟩ := H
        replace H : (some (t152, t151, 0)) = some (r1, r2, r3) := H
        have A14 := Aside0.mk A140
        clear A140
        simp only [Option.some.injEq, Prod.mk.injEq] at H
        obtain ⟨rfl, rfl, rfl⟩ := H
        go_wp2_with (first | ((with_reducible refine gate_callee (f := 47) rfl ?_); refine goesL_ (some 26) rfl rfl Try.func47 (by kernel_rfl) rfl #[.int .i64 a0, .slice A1 l1.length c1, .slice A2 l2.length c2] rfl (by (try simp only [List.map_toArray, List.map_cons, List.map_nil]); first | done | rfl | (simp only [List.length_drop, List.length_take]; rfl)) ?_; (with_reducible refine (pivot_keys.calls kj3 a0 _ _ l1 _ _ l2 t148 _ ?side1 ?side2 ?side3 ?side4 A12.out).mono ?_); (case side1 => repeat (first | exact (Kd.C_below HR1.out HB.out) | (with_reducible refine Kd.C_alloc ?_ _) | (with_reducible refine Kd.C_drewN ?_ _) | (with_reducible refine Kd.C_drew ?_))); (case side2 => exact HC1.out); (case side3 => repeat (first | exact (Kd.C_below HR2.out HB.out) | (with_reducible refine Kd.C_alloc ?_ _) | (with_reducible refine Kd.C_drewN ?_ _) | (with_reducible refine Kd.C_drew ?_))); (case side4 => exact HC2.out); rintro e w15 ⟨v149, rfl, ho0, hb⟩; refine ⟨_, rfl, ?_⟩; have n0_ := Aside0.mk (Kd.R_lower ho0 (below_size (by repeat (first | (with_reducible first | exact HB.out | apply below_alloc | apply pw_below_drewN | apply below_drew1) | exact HB.out)))); have n1_ := Aside0.mk (below_step (by repeat (first | (with_reducible first | exact HB.out | apply below_alloc | apply pw_below_drewN | apply below_drew1) | exact HB.out)) hb); clear HB; have HO150 := n0_; have HB := n1_; clear n0_ n1_; (try clear hb); (try clear hb2); (try clear hk); (try clear hi); (try clear ho0); obtain ⟨Ao16, co16, eo16⟩ := Kd.R_slice HO150.out; subst eo16) | ((with_reducible refine gate_callee (f := 48) rfl ?_); refine goesL_ (some 28) rfl rfl Try.func48 (by kernel_rfl) rfl #[.slice Ao16 t148.length co16] rfl (by (try simp only [List.map_toArray, List.map_cons, List.map_nil]); first | done | rfl | (simp only [List.length_drop, List.length_take]; rfl)) ?_; (with_reducible refine (slices_Min_int_int.calls _ _ t148 t151 _ ?side1 ?side2 A13.out).mono ?_); (case side1 => repeat (first | exact (Kd.R_reads' HO150.out).2.2 | (with_reducible refine Kd.C_alloc ?_ _) | (with_reducible refine Kd.C_drewN ?_ _) | (with_reducible refine Kd.C_drew ?_))); (case side2 => exact (Kd.R_reads' HO150.out).2.1); rintro e w' ⟨rfl, ⟨nd, rfl⟩⟩; refine ⟨_, rfl, ?_⟩) | ((with_reducible refine gate_callee (f := 49) rfl ?_); refine goesL_ (some 31) rfl rfl Try.func49 (by kernel_rfl) rfl #[.slice Ao16 t148.length co16, .int .i64 t151] rfl (by (try simp only [List.map_toArray, List.map_cons, List.map_nil]); first | done | rfl | (simp only [List.length_drop, List.length_take]; rfl)) ?_; (with_reducible refine (slices_Index_int_int.calls kj3 _ _ t148 t151 t152 _ ?side1 ?side2 A14.out).mono ?_); (case side1 => repeat (first | exact (Kd.R_reads' HO150.out).2.2 | (with_reducible refine Kd.C_alloc ?_ _) | (with_reducible refine Kd.C_drewN ?_ _) | (with_reducible refine Kd.C_drew ?_))); (case side2 => exact (Kd.R_reads' HO150.out).2.1); rintro e w' ⟨rfl, ⟨nd, rfl⟩⟩; refine ⟨_, rfl, ?_⟩))
        go_ret3
        exact ⟨by first | rfl | (simp [errW_none, errW_some] <;> rfl) | (simp [*, errW_none, errW_some] <;> rfl), by repeat (first | (with_reducible first | exact HB.out | apply below_alloc | apply pw_below_drewN | apply below_drew1) | exact HB.out)⟩
end Go.Proofs.Ytoidpkpgeeeggaa.Q
end
section
namespace Go.Proofs.Ytoidpkpgeeeggaa.Q
open Go.RowKit Go.Proofs.YtoidpkpgeeeggaaW.PrintWords Go.Proofs.YtoidpkpgeeeggaaW.PrintLast Go.Proofs.YtoidpkpgeeeggaaW.PrintMore
attribute [local go_sem] max2_int min2_int max_two min_two max_three min_three max_four min_four   -- for this text's walks alone
set_option linter.unusedVariables false
set_option linter.unusedSimpArgs false
mutual
def pivot_Table.j0 : Nat → Int → List (List Int) → List (List Int) → Bool → Option ((List (List Int)) × Int)
  | 0, _, _, _, _ => none
  | k + 1, x0, x1, x2, x29 => if x29 = true then (some (([] : List (List Int)), 1)) else (pivot_Table.l0 k x0 x1 ([] : List (List Int)) x2 (x2.length : Int) 0)
def pivot_Table.l0 : Nat → Int → List (List Int) → List (List Int) → List (List Int) → Int → Int → Option ((List (List Int)) × Int)
  | 0, _, _, _, _, _, _ => none
  | k + 1, x0, x1, x8, x30, x31, x32 => if x32 < x31 then (if 0 ≤ x32 then (if x32 < (x30.length : Int) then ((pivot_keys.f k x0 x1 (rd_L1 x30 x32)).bind fun t159 => (if x8.length < 5864062014805 then (pivot_Table.l0 k x0 x1 (x8 ++ [t159]) x30 x31 (wrap64 (x32 + 1))) else (none))) else (none)) else (none)) else (some (x8, 0))
end
def pivot_Table.f (k : Nat) (a0 : Int) (l1 : List (List Int)) (l2 : List (List Int)) : Option ((List (List Int)) × Int) := (pivot_arePivots.f a0 l1).bind fun t153 => (if t153 = true then ((pivot_fit.f l2).bind fun t154 => (if t154 = true then (if 0 < (l1.length : Int) then (if 0 < (l2.length : Int) then ((vector_Alike.f (rd_L1 l1 0) (rd_L1 l2 0)).bind fun t157 => (pivot_Table.j0 k a0 l1 l2 (!t157))) else (none)) else (none)) else (pivot_Table.j0 k a0 l1 l2 true))) else (pivot_Table.j0 k a0 l1 l2 true))
theorem pivot_Table.mono_l : ∀ k, (∀ y0 y1 y2 y3, LeO (pivot_Table.j0 k y0 y1 y2 y3) (pivot_Table.j0 (k + 1) y0 y1 y2 y3)) ∧ (∀ y0 y1 y2 y3 y4 y5, LeO (pivot_Table.l0 k y0 y1 y2 y3 y4 y5) (pivot_Table.l0 (k + 1) y0 y1 y2 y3 y4 y5))
  | 0 => ⟨fun _ _ _ _ r h => by simp [pivot_Table.j0] at h, fun _ _ _ _ _ _ r h => by simp [pivot_Table.l0] at h⟩
  | k + 1 => by
    obtain ⟨ih0, ih1⟩ := pivot_Table.mono_l k
    refine ⟨?_, ?_⟩
    · intro y0 y1 y2 y3
      unfold pivot_Table.j0
      repeat' first
      | (with_reducible exact ih0 _ _ _ _)
      | (with_reducible exact ih1 _ _ _ _ _ _)
      | (with_reducible exact pivot_keys.mono _ _ _ _)
      | (with_reducible exact LeO.refl _)
      | (with_reducible exact LeO.none _)
      | (with_reducible refine LeO.ite ?_ ?_)
      | (with_reducible refine LeO.bind ?_ (fun _ => ?_))
      | exact ih0 _ _ _ _
      | exact ih1 _ _ _ _ _ _
      | exact pivot_keys.mono _ _ _ _
      | exact LeO.none _
      | refine LeO.ite ?_ ?_
      | refine LeO.bind ?_ (fun _ => ?_)
    · intro y0 y1 y2 y3 y4 y5
      unfold pivot_Table.l0
      repeat' first
      | (with_reducible exact ih0 _ _ _ _)
      | (with_reducible exact ih1 _ _ _ _ _ _)
      | (with_reducible exact pivot_keys.mono _ _ _ _)
      | (with_reducible exact LeO.refl _)
      | (with_reducible exact LeO.none _)
      | (with_reducible refine LeO.ite ?_ ?_)
      | (with_reducible refine LeO.bind ?_ (fun _ => ?_))
      | exact ih0 _ _ _ _
      | exact ih1 _ _ _ _ _ _
      | exact pivot_keys.mono _ _ _ _
      | exact LeO.none _
      | refine LeO.ite ?_ ?_
      | refine LeO.bind ?_ (fun _ => ?_)
theorem pivot_Table.mono : ∀ a0 a1 a2 k, LeO (pivot_Table.f k a0 a1 a2) (pivot_Table.f (k + 1) a0 a1 a2) := by
  intro a0 a1 a2 k
  obtain ⟨ih0, ih1⟩ := pivot_Table.mono_l k
  unfold pivot_Table.f
  repeat' first
      | (with_reducible exact ih0 _ _ _ _)
      | (with_reducible exact ih1 _ _ _ _ _ _)
      | (with_reducible exact pivot_keys.mono _ _ _ _)
      | (with_reducible exact LeO.refl _)
      | (with_reducible exact LeO.none _)
      | (with_reducible refine LeO.ite ?_ ?_)
      | (with_reducible refine LeO.bind ?_ (fun _ => ?_))
      | exact ih0 _ _ _ _
      | exact ih1 _ _ _ _ _ _
      | exact pivot_keys.mono _ _ _ _
      | exact LeO.none _
      | refine LeO.ite ?_ ?_
      | refine LeO.bind ?_ (fun _ => ?_)
def pivot_Table.T1 : Bool × List (List Nat × List Nat) := (true, [([], []), ([], []), ([0, 1], [0, 1]), ([2], [2]), ([3, 2], [3]), ([4], [4]), ([5, 4, 4], [4, 5]), ([6, 4], [4, 6]), ([4, 7], [4, 7]), ([8, 6], [8]), ([9], [9]), ([10, 9], [9, 10]), ([11, 9], [9, 11]), ([9], [9]), ([13, 9], [9, 13]), ([14, 9], [9, 14]), ([12, 15, 9, 9], [9, 12, 15]), ([16, 9], [9, 16]), ([9, 17], [9, 17])])
def pivot_Table.B1 : List Nat := [0, 0, 3, 7, 15, 31, 63, 127, 255, 511, 1023, 2047, 4095, 1023, 9215, 25599, 65535, 131071, 262143]
theorem pivot_Table.tab1 : rtab .any (opsOf Try.f14 1) = pivot_Table.T1 := by kernel_rfl
theorem pivot_Table.bits1 : waitsOk pivot_Table.T1.2 pivot_Table.B1 = true := by kernel_rfl
set_option maxHeartbeats 8000000 in
set_option maxRecDepth 100000 in
theorem pivot_Table.calls (k : Nat) (a0 : Int) (A1 : Option Addr) (c1 : Nat) (l1 : List (List Int)) (A2 : Option Addr) (c2 : Nat) (l2 : List (List Int)) (r1 : List (List Int)) (r2 : Int) (w : World) (hr1 : Kd.C (Kd.slice 3 (Kd.int .i64)) w A1 l1.length l1) (hc1 : l1.length ≤ c1) (hr2 : Kd.C (Kd.slice 3 (Kd.int .i64)) w A2 l2.length l2) (hc2 : l2.length ≤ c2) (h : pivot_Table.f k a0 l1 l2 = some (r1, r2)) :
    Calls Try.prog 14 #[.int .i64 a0, .slice A1 l1.length c1, .slice A2 l2.length c2] w fun e w' => ∃ v0_ : Value, e = .returned (.tuple #[v0_, .int .i64 r2]) ∧ Kd.S (Kd.slice 3 (Kd.int .i64)) 23 w' w.heap.size (fun _ => True) v0_ r1 ∧ Below w.heap.size w w' := by
  have HR1 := Aside0.mk hr1
  have HC1 := Aside0.mk hc1
  clear hr1 hc1
  have HR2 := Aside0.mk hr2
  have HC2 := Aside0.mk hc2
  clear hr2 hc2
  have HB := Aside0.mk (Below.refl w.heap.size w)
  have H : ((pivot_arePivots.f a0 l1).bind fun t153 => (if t153 = true then ((pivot_fit.f l2).bind fun t154 => (if t154 = true then (if 0 < (l1.length : Int) then (if 0 < (l2.length : Int) then ((vector_Alike.f (rd_L1 l1 0) (rd_L1 l2 0)).bind fun t157 => (pivot_Table.j0 k a0 l1 l2 (!t157))) else (none)) else (none)) else (pivot_Table.j0 k a0 l1 l2 true))) else (pivot_Table.j0 k a0 l1 l2 true))) = some (r1, r2) := h
  clear h
  have HC4 := Aside0.mk H
  clear H
  go_enter Try.func14, Try.ntmps14
  go_upto_region 1 with (fail)
  go_cut [29] (fun v29 wc => ∃ (kq : Nat) (x29_3 : Bool), v29 = .bool x29_3 ∧ Aside0 (pivot_Table.j0 kq a0 l1 l2 x29_3 = some (r1, r2)) ∧ Aside0 (kq ≤ k) ∧ Aside0 (Below w.heap.size w wc))
  case first =>
    have H := HC4.out
    clear HC4
    replace H := Option.bind_eq_some_iff.mp H
    obtain ⟨t153, A50, H⟩ := H
    replace H : (if t153 = true then ((pivot_fit.f l2).bind fun t154 => (if t154 = true then (if 0 < (l1.length : Int) then (if 0 < (l2.length : Int) then ((vector_Alike.f (rd_L1 l1 0) (rd_L1 l2 0)).bind fun t157 => (pivot_Table.j0 k a0 l1 l2 (!t157))) else (none)) else (none)) else (pivot_Table.j0 k a0 l1 l2 true))) else (pivot_Table.j0 k a0 l1 l2 true)) = some (r1, r2) := H
    have A5 := Aside0.mk A50
    clear A50
    by_cases c6 : t153 = true
    · subst c6
      have H1 : ((pivot_fit.f l2).bind fun t154 => (if t154 = true then (if 0 < (l1.length : Int) then (if 0 < (l2.length : Int) then ((vector_Alike.f (rd_L1 l1 0) (rd_L1 l2 0)).bind fun t157 => (pivot_Table.j0 k a0 l1 l2 (!t157))) else (none)) else (none)) else (pivot_Table.j0 k a0 l1 l2 true))) = some (r1, r2) := by rw [if_pos rfl] at H; exact H
      clear H
      have H := H1
      clear H1
      replace H := Option.bind_eq_some_iff.mp H
      obtain ⟨t154, A70, H⟩ := H
      replace H : (if t154 = true then (if 0 < (l1.length : Int) then (if 0 < (l2.length : Int) then ((vector_Alike.f (rd_L1 l1 0) (rd_L1 l2 0)).bind fun t157 => (pivot_Table.j0 k a0 l1 l2 (!t157))) else (none)) else (none)) else (pivot_Table.j0 k a0 l1 l2 true)) = some (r1, r2) := H
      have A7 := Aside0.mk A70
      clear A70
      by_cases c8 : t154 = true
      · subst c8
        have H1 : (if 0 < (l1.length : Int) then (if 0 < (l2.length : Int) then ((vector_Alike.f (rd_L1 l1 0) (rd_L1 l2 0)).bind fun t157 => (pivot_Table.j0 k a0 l1 l2 (!t157))) else (none)) else (none)) = some (r1, r2) := by rw [if_pos rfl] at H; exact H
        clear H
        have H := H1
        clear H1
        by_cases c9 : 0 < (l1.length : Int)
        · rw [if_pos c9] at H
          have c9b0 : decide (0 < (l1.length : Int)) = true := decide_eq_true c9
          have c9b1 : decide (0 < l1.length) = true := decide_eq_true (by omega)
          clear c9
          (first | rw [c9b0] | (simp only [i64_w, i32_w]; rw [c9b0]) | skip)
          by_cases c10 : 0 < (l2.length : Int)
          · rw [if_pos c10] at H
            have c10b0 : decide (0 < (l2.length : Int)) = true := decide_eq_true c10
            have c10b1 : decide (0 < l2.length) = true := decide_eq_true (by omega)
            clear c10
            replace H := Option.bind_eq_some_iff.mp H
            obtain ⟨t157, A110, H⟩ := H
            replace H : (pivot_Table.j0 k a0 l1 l2 (!t157)) = some (r1, r2) := H
            have A11 := Aside0.mk A110
            clear A110
            have H' := Aside0.mk H
            clear H
            try go_wp2
            have n0_ := Aside0.mk (below_drew1 HB.out)
            clear HB
            have HB := n0_
            clear n0_
            have p155 : 0 ≤ (0 : Int) := (by omega)
            have q155 : 0 < (l1.length : Int) := of_decide_eq_true (by first | (with_reducible assumption) | assumption)
            obtain ⟨ad155, A155_0, c155_0, e155, hx155_0, hl155_0, hi155_0⟩ := at_L1 HR1.out 0 p155 q155
            have hw155_0 := hx155_0
            (try rw [show ((0 : Int)).toNat = 0 from rfl] at hw155_0)
            (try rw [show 0 * 1 = 0 from rfl] at hw155_0)
            (try rw [Addr.add_zero'] at hw155_0)
            cases e155
            have qi155 : (0 < l1.length) = True := eq_true (by omega)
            (try rw [show ((0 : Int)).toNat = 0 from rfl] at hx155_0)
            (try rw [Addr.add_zero'] at hx155_0)
            replace hx155_0 := (HB.out.cell (World.block_lt_of_cell? w _ hx155_0)).trans hx155_0
            have HR155_0 := Aside0.mk hi155_0
            have HC155_0 := Aside0.mk hl155_0
            clear hi155_0 hl155_0
            replace p155 := eq_true p155
            replace q155 := eq_true q155
            have p156 : 0 ≤ (0 : Int) := (by omega)
            have q156 : 0 < (l2.length : Int) := of_decide_eq_true (by first | (with_reducible assumption) | assumption)
            obtain ⟨ad156, A156_0, c156_0, e156, hx156_0, hl156_0, hi156_0⟩ := at_L1 HR2.out 0 p156 q156
            have hw156_0 := hx156_0
            (try rw [show ((0 : Int)).toNat = 0 from rfl] at hw156_0)
            (try rw [show 0 * 1 = 0 from rfl] at hw156_0)
            (try rw [Addr.add_zero'] at hw156_0)
            cases e156
            have qi156 : (0 < l2.length) = True := eq_true (by omega)
            (try rw [show ((0 : Int)).toNat = 0 from rfl] at hx156_0)
            (try rw [Addr.add_zero'] at hx156_0)
            replace hx156_0 := (HB.out.cell (World.block_lt_of_cell? w _ hx156_0)).trans hx156_0
            have HR156_0 := Aside0.mk hi156_0
            have HC156_0 := Aside0.mk hl156_0
            clear hi156_0 hl156_0
            replace p156 := eq_true p156
            replace q156 := eq_true q156
            refine start_ (n := 19) (S := fun w' => w'.cell? ad155 = some (.slice A155_0 (rd_L1 l1 0).length c155_0) ∧ w'.cell? ad156 = some (.slice A156_0 (rd_L1 l2 0).length c156_0)) (ds := []) #[false, false, false, false, false, false, false, false, false, false, false, false, false, false, false, false, false, false, false] (by kernel_rfl) rfl rfl ⟨((HB.out.cell (World.block_lt_of_cell? w _ hw155_0)).trans hw155_0), ((HB.out.cell (World.block_lt_of_cell? w _ hw156_0)).trans hw156_0)⟩ (fun hHeld => ?_); refine with_tabW pivot_Table.tab1 pivot_Table.bits1 (fun HT_ HW_ => ?_)
            generalize w.drew = w12 at HB HR155_0 HR156_0 hx155_0 hx156_0 hHeld ⊢
            refine pure_ (i := 0) (N := some 11) (v := ?_) (a' := ?_) #[true, false, false, false, false, false, false, false, false, false, false, false, false, false, false, false, false, false, false] rfl rfl (any_of HT_.out (by kernel_rfl)) (fun _ _ _ h => h) (Or.inl ⟨by rfl, ?_⟩) ?_ ?_
            rotate_left
            · intro w'
              go_simp
              with_reducible rfl
            rotate_left
            · simp only [Act.put, List.setIfInBounds_toArray, List.set_cons_zero, List.set_cons_succ, i64_w, i32_w]
              rfl
            refine pure_ (i := 1) (N := some 12) (v := ?_) (a' := ?_) #[true, true, false, false, false, false, false, false, false, false, false, false, false, false, false, false, false, false, false] rfl rfl (any_of HT_.out (by kernel_rfl)) (fun _ _ _ h => h) (Or.inl ⟨by rfl, ?_⟩) ?_ ?_
            rotate_left
            · intro w'
              go_simp
              with_reducible rfl
            rotate_left
            · simp only [Act.put, List.setIfInBounds_toArray, List.set_cons_zero, List.set_cons_succ, i64_w, i32_w]
              rfl
            refine one_ (i := 2) (N := some 13) #[true, true, true, false, false, false, false, false, false, false, false, false, false, false, false, false, false, false, false] rfl rfl (one_of HT_.out (by kernel_rfl)) (by decide) (fun K hK => ?_)
            refine goes_ Try.func46 (by kernel_rfl) rfl #[.int .i64 a0, .slice (some ad155) l1.length c1] (by rfl) rfl rfl (by (try simp only [List.map_toArray, List.map_cons, List.map_nil]); first | done | rfl | (simp only [List.length_drop, List.length_take]; rfl)) ?_
            with_reducible refine (pivot_arePivots.calls a0 _ _ l1 true _ ?side1 ?side2 A5.out).mono ?_
            (case side1 => repeat (first | exact (Kd.C_below HR1.out HB.out) | (with_reducible refine Kd.C_alloc ?_ _) | (with_reducible refine Kd.C_drewN ?_ _) | (with_reducible refine Kd.C_drew ?_)))
            (case side2 => exact HC1.out)
            rintro e w13 ⟨rfl, hb⟩
            refine ⟨_, rfl, ?_⟩
            have n0_ := Aside0.mk (below_step (by repeat (first | (with_reducible first | exact HB.out | apply below_alloc | apply pw_below_drewN | apply below_drew1) | exact HB.out)) hb)
            clear HB
            have HB := n0_
            clear n0_
            (try clear hb)
            (try clear hb2)
            (try clear hk)
            (try clear hi)
            refine hK.out _ _ ⟨((HB.out.cell (World.block_lt_of_cell? w _ hw155_0)).trans hw155_0), ((HB.out.cell (World.block_lt_of_cell? w _ hw156_0)).trans hw156_0)⟩ (fun hHeld => ?_)
            clear hK K
            refine norm_ (a' := ?_) ?_ ?_
            rotate_left
            · show Act.put _ (some 13) _ = _
              simp only [Act.put, List.setIfInBounds_toArray, List.set_cons_zero, List.set_cons_succ, i64_w, i32_w]
              rfl
            refine pure_ (i := 3) (N := some 14) (v := ?_) (a' := ?_) #[true, true, true, true, false, false, false, false, false, false, false, false, false, false, false, false, false, false, false] rfl rfl (any_of HT_.out (by kernel_rfl)) (fun _ _ _ h => h) (Or.inl ⟨by rfl, ?_⟩) ?_ ?_
            rotate_left
            · intro w'
              go_simp
              with_reducible rfl
            rotate_left
            · simp only [Act.put, List.setIfInBounds_toArray, List.set_cons_zero, List.set_cons_succ, i64_w, i32_w]
              rfl
            refine pure_ (i := 4) (N := some 15) (v := ?_) (a' := ?_) #[true, true, true, true, true, false, false, false, false, false, false, false, false, false, false, false, false, false, false] rfl rfl (any_of HT_.out (by kernel_rfl)) (fun _ _ _ h => h) (Or.inl ⟨by rfl, ?_⟩) ?_ ?_
            rotate_left
            · intro w'
              go_simp
              with_reducible rfl
            rotate_left
            · simp only [Act.put, List.setIfInBounds_toArray, List.set_cons_zero, List.set_cons_succ, i64_w, i32_w]
              rfl
            refine pure_ (i := 5) (N := some 16) (v := ?_) (a' := ?_) #[true, true, true, true, true, true, false, false, false, false, false, false, false, false, false, false, false, false, false] rfl rfl (any_of HT_.out (by kernel_rfl)) (fun _ _ _ h => h) (Or.inl ⟨by rfl, ?_⟩) ?_ ?_
            rotate_left
            · intro w'
              go_simp
              with_reducible rfl
            rotate_left
            · simp only [Act.put, List.setIfInBounds_toArray, List.set_cons_zero, List.set_cons_succ, i64_w, i32_w]
              rfl
            refine one_ (i := 6) (N := some 17) #[true, true, true, true, true, true, true, false, false, false, false, false, false, false, false, false, false, false, false] rfl rfl (one_of HT_.out (by kernel_rfl)) (by decide) (fun K hK => ?_)
            refine goes_ Try.func42 (by kernel_rfl) rfl #[.slice (some ad156) l2.length c2] (by rfl) rfl rfl (by (try simp only [List.map_toArray, List.map_cons, List.map_nil]); first | done | rfl | (simp only [List.length_drop, List.length_take]; rfl)) ?_
            with_reducible refine (pivot_fit.calls _ _ l2 true _ ?side1 ?side2 A7.out).mono ?_
            (case side1 => repeat (first | exact (Kd.C_below HR2.out HB.out) | (with_reducible refine Kd.C_alloc ?_ _) | (with_reducible refine Kd.C_drewN ?_ _) | (with_reducible refine Kd.C_drew ?_)))
            (case side2 => exact HC2.out)
            rintro e w14 ⟨rfl, hb⟩
            refine ⟨_, rfl, ?_⟩
            have n0_ := Aside0.mk (below_step (by repeat (first | (with_reducible first | exact HB.out | apply below_alloc | apply pw_below_drewN | apply below_drew1) | exact HB.out)) hb)
            clear HB
            have HB := n0_
            clear n0_
            (try clear hb)
            (try clear hb2)
            (try clear hk)
            (try clear hi)
            refine hK.out _ _ ⟨((HB.out.cell (World.block_lt_of_cell? w _ hw155_0)).trans hw155_0), ((HB.out.cell (World.block_lt_of_cell? w _ hw156_0)).trans hw156_0)⟩ (fun hHeld => ?_)
            clear hK K
            refine norm_ (a' := ?_) ?_ ?_
            rotate_left
            · show Act.put _ (some 17) _ = _
              simp only [Act.put, List.setIfInBounds_toArray, List.set_cons_zero, List.set_cons_succ, i64_w, i32_w]
              rfl
            refine pure_ (i := 7) (N := some 18) (v := ?_) (a' := ?_) #[true, true, true, true, true, true, true, true, false, false, false, false, false, false, false, false, false, false, false] rfl rfl (any_of HT_.out (by kernel_rfl)) (fun _ _ _ h => h) (Or.inl ⟨by rfl, ?_⟩) ?_ ?_
            rotate_left
            · intro w'
              go_simp
              with_reducible rfl
            rotate_left
            · simp only [Act.put, List.setIfInBounds_toArray, List.set_cons_zero, List.set_cons_succ, i64_w, i32_w]
              rfl
            refine pure_ (i := 8) (N := some 19) (v := ?_) (a' := ?_) #[true, true, true, true, true, true, true, true, true, false, false, false, false, false, false, false, false, false, false] rfl rfl (any_of HT_.out (by kernel_rfl)) (fun _ _ _ h => h) (Or.inl ⟨by rfl, ?_⟩) ?_ ?_
            rotate_left
            · intro w'
              go_simp
              with_reducible rfl
            rotate_left
            · simp only [Act.put, List.setIfInBounds_toArray, List.set_cons_zero, List.set_cons_succ, i64_w, i32_w]
              rfl
            refine pure_ (i := 9) (N := some 20) (v := ?_) (a' := ?_) #[true, true, true, true, true, true, true, true, true, true, false, false, false, false, false, false, false, false, false] rfl rfl (any_of HT_.out (by kernel_rfl)) (fun _ _ _ h => h) (Or.inl ⟨by rfl, ?_⟩) ?_ ?_
            rotate_left
            · intro w'
              go_simp
              with_reducible rfl
            rotate_left
            · simp only [Act.put, List.setIfInBounds_toArray, List.set_cons_zero, List.set_cons_succ, i64_w, i32_w]
              rfl
            refine pure_ (i := 10) (N := some 21) (v := ?_) (a' := ?_) #[true, true, true, true, true, true, true, true, true, true, true, false, false, false, false, false, false, false, false] rfl rfl (any_of HT_.out (by kernel_rfl)) (fun _ _ _ h => h) (Or.inl ⟨by rfl, ?_⟩) ?_ ?_
            rotate_left
            · intro w'
              go_simp
              with_reducible rfl
            rotate_left
            · simp only [Act.put, List.setIfInBounds_toArray, List.set_cons_zero, List.set_cons_succ, i64_w, i32_w]
              rfl
            refine pure_ (i := 11) (N := some 22) (v := ?_) (a' := ?_) #[true, true, true, true, true, true, true, true, true, true, true, true, false, false, false, false, false, false, false] rfl rfl (any_of HT_.out (by kernel_rfl)) (fun _ _ _ h => h) (Or.inl ⟨by rfl, ?_⟩) ?_ ?_
            rotate_left
            · intro w'
              go_simp
              with_reducible rfl
            rotate_left
            · simp only [Act.put, List.setIfInBounds_toArray, List.set_cons_zero, List.set_cons_succ, i64_w, i32_w]
              rfl
            refine pure_ (i := 13) (N := some 24) (v := ?_) (a' := ?_) #[true, true, true, true, true, true, true, true, true, true, true, true, false, true, false, false, false, false, false] rfl rfl (any_of HT_.out (by kernel_rfl)) (fun _ _ _ h => h) (Or.inl ⟨by rfl, ?_⟩) ?_ ?_
            rotate_left
            · intro w'
              go_simp
              with_reducible rfl
            rotate_left
            · simp only [Act.put, List.setIfInBounds_toArray, List.set_cons_zero, List.set_cons_succ, i64_w, i32_w]
              rfl
            refine pure_ (i := 14) (N := some 25) (v := ?_) (a' := ?_) #[true, true, true, true, true, true, true, true, true, true, true, true, false, true, true, false, false, false, false] rfl rfl (any_of HT_.out (by kernel_rfl)) (fun _ _ _ h => h) (Or.inl ⟨by rfl, ?_⟩) ?_ ?_
            rotate_left
            · intro w'
              go_simp
              with_reducible rfl
            rotate_left
            · simp only [Act.put, List.setIfInBounds_toArray, List.set_cons_zero, List.set_cons_succ, i64_w, i32_w]
              rfl
            refine take_ (i := 12) (N := some 23) (v := ?_) (a' := ?_) #[true, true, true, true, true, true, true, true, true, true, true, true, true, true, true, false, false, false, false] rfl rfl (take_ofW HT_.out HW_.out (by kernel_rfl)) (fun _ _ _ h => h) (Or.inl ⟨by rfl, ?_⟩) hHeld ?_ ?_
            rotate_left
            · rintro w' ⟨s0, s1⟩
              go_simp
              with_reducible rfl
            rotate_left
            · simp only [Act.put, List.setIfInBounds_toArray, List.set_cons_zero, List.set_cons_succ, i64_w, i32_w]
              rfl
            refine take_ (i := 15) (N := some 26) (v := ?_) (a' := ?_) #[true, true, true, true, true, true, true, true, true, true, true, true, true, true, true, true, false, false, false] rfl rfl (take_ofW HT_.out HW_.out (by kernel_rfl)) (fun _ _ _ h => h) (Or.inl ⟨by rfl, ?_⟩) hHeld ?_ ?_
            rotate_left
            · rintro w' ⟨s0, s1⟩
              go_simp
              with_reducible rfl
            rotate_left
            · simp only [Act.put, List.setIfInBounds_toArray, List.set_cons_zero, List.set_cons_succ, i64_w, i32_w]
              rfl
            refine one_ (i := 16) (N := some 27) #[true, true, true, true, true, true, true, true, true, true, true, true, true, true, true, true, true, false, false] rfl rfl (one_of HT_.out (by kernel_rfl)) (by decide) (fun K hK => ?_)
            refine goes_ Try.func22 (by kernel_rfl) rfl #[.slice A155_0 (rd_L1 l1 0).length c155_0, .slice A156_0 (rd_L1 l2 0).length c156_0] (by rfl) rfl rfl (by (try simp only [List.map_toArray, List.map_cons, List.map_nil]); first | done | rfl | (simp only [List.length_drop, List.length_take]; rfl)) ?_
            with_reducible refine (vector_Alike.calls _ _ (rd_L1 l1 0) _ _ (rd_L1 l2 0) t157 _ ?side1 ?side2 ?side3 ?side4 A11.out).mono ?_
            (case side1 => repeat (first | exact (Kd.C_below HR155_0.out HB.out) | (with_reducible refine Kd.C_alloc ?_ _) | (with_reducible refine Kd.C_drewN ?_ _) | (with_reducible refine Kd.C_drew ?_)))
            (case side2 => exact HC155_0.out)
            (case side3 => repeat (first | exact (Kd.C_below HR156_0.out HB.out) | (with_reducible refine Kd.C_alloc ?_ _) | (with_reducible refine Kd.C_drewN ?_ _) | (with_reducible refine Kd.C_drew ?_)))
            (case side4 => exact HC156_0.out)
            rintro e w' ⟨rfl, ⟨nd, rfl⟩⟩
            refine ⟨_, rfl, ?_⟩
            refine hK.out _ _ ⟨((HB.out.cell (World.block_lt_of_cell? w _ hw155_0)).trans hw155_0), ((HB.out.cell (World.block_lt_of_cell? w _ hw156_0)).trans hw156_0)⟩ (fun hHeld => ?_)
            clear hK K
            refine norm_ (a' := ?_) ?_ ?_
            rotate_left
            · show Act.put _ (some 27) _ = _
              simp only [Act.put, List.setIfInBounds_toArray, List.set_cons_zero, List.set_cons_succ, i64_w, i32_w]
              rfl
            refine pure_ (i := 17) (N := some 28) (v := ?_) (a' := ?_) #[true, true, true, true, true, true, true, true, true, true, true, true, true, true, true, true, true, true, false] rfl rfl (any_of HT_.out (by kernel_rfl)) (fun _ _ _ h => h) (Or.inl ⟨by rfl, ?_⟩) ?_ ?_
            rotate_left
            · intro w'
              go_simp
              with_reducible rfl
            rotate_left
            · simp only [Act.put, List.setIfInBounds_toArray, List.set_cons_zero, List.set_cons_succ, i64_w, i32_w]
              rfl
            refine pure_ (i := 18) (N := some 29) (v := ?_) (a' := ?_) #[true, true, true, true, true, true, true, true, true, true, true, true, true, true, true, true, true, true, true] rfl rfl (any_of HT_.out (by kernel_rfl)) (fun _ _ _ h => h) (Or.inl ⟨by rfl, ?_⟩) ?_ ?_
            rotate_left
            · intro w'
              go_simp
              with_reducible rfl
            rotate_left
            · simp only [Act.put, List.setIfInBounds_toArray, List.set_cons_zero, List.set_cons_succ, i64_w, i32_w]
              rfl
            refine done_ (done_of HT_.out (by kernel_rfl)) ?_
            try go_wp2
            go_meet
            case rel => exact ⟨_, (!t157), (by first | rfl | (simp; done) | (simp [*]; done)), H', ⟨by first | omega | exact Nat.le_refl _⟩, ⟨by repeat (first | (with_reducible first | exact HB.out | apply below_alloc | apply pw_below_drewN | apply below_drew1) | exact HB.out)⟩⟩
          · rw [if_neg c10] at H
            exact absurd H (by simp)
        · rw [if_neg c9] at H
          exact absurd H (by simp)
      · replace c8 := Bool.eq_false_iff.mpr c8
        subst c8
        have H1 : (pivot_Table.j0 k a0 l1 l2 true) = some (r1, r2) := by rw [if_neg (show ¬ (false = true) by decide)] at H; exact H
        clear H
        have H := H1
        clear H1
        have H' := Aside0.mk H
        clear H
        try go_wp2
        have n0_ := Aside0.mk (below_drew1 HB.out)
        clear HB
        have HB := n0_
        clear n0_
        refine start_ (n := 19) (S := fun w' => True) (ds := []) #[false, false, false, false, false, false, false, false, false, false, false, false, false, false, false, false, false, false, false] (by kernel_rfl) rfl rfl trivial (fun hHeld => ?_); refine with_tabW pivot_Table.tab1 pivot_Table.bits1 (fun HT_ HW_ => ?_)
        generalize w.drew = w15 at HB hHeld ⊢
        refine pure_ (i := 0) (N := some 11) (v := ?_) (a' := ?_) #[true, false, false, false, false, false, false, false, false, false, false, false, false, false, false, false, false, false, false] rfl rfl (any_of HT_.out (by kernel_rfl)) (fun _ _ _ h => h) (Or.inl ⟨by rfl, ?_⟩) ?_ ?_
        rotate_left
        · intro w'
          go_simp
          with_reducible rfl
        rotate_left
        · simp only [Act.put, List.setIfInBounds_toArray, List.set_cons_zero, List.set_cons_succ, i64_w, i32_w]
          rfl
        refine pure_ (i := 1) (N := some 12) (v := ?_) (a' := ?_) #[true, true, false, false, false, false, false, false, false, false, false, false, false, false, false, false, false, false, false] rfl rfl (any_of HT_.out (by kernel_rfl)) (fun _ _ _ h => h) (Or.inl ⟨by rfl, ?_⟩) ?_ ?_
        rotate_left
        · intro w'
          go_simp
          with_reducible rfl
        rotate_left
        · simp only [Act.put, List.setIfInBounds_toArray, List.set_cons_zero, List.set_cons_succ, i64_w, i32_w]
          rfl
        refine one_ (i := 2) (N := some 13) #[true, true, true, false, false, false, false, false, false, false, false, false, false, false, false, false, false, false, false] rfl rfl (one_of HT_.out (by kernel_rfl)) (by decide) (fun K hK => ?_)
        refine goes_ Try.func46 (by kernel_rfl) rfl #[.int .i64 a0, .slice A1 l1.length c1] (by rfl) rfl rfl (by (try simp only [List.map_toArray, List.map_cons, List.map_nil]); first | done | rfl | (simp only [List.length_drop, List.length_take]; rfl)) ?_
        with_reducible refine (pivot_arePivots.calls a0 _ _ l1 true _ ?side1 ?side2 A5.out).mono ?_
        (case side1 => repeat (first | exact (Kd.C_below HR1.out HB.out) | (with_reducible refine Kd.C_alloc ?_ _) | (with_reducible refine Kd.C_drewN ?_ _) | (with_reducible refine Kd.C_drew ?_)))
        (case side2 => exact HC1.out)
        rintro e w16 ⟨rfl, hb⟩
        refine ⟨_, rfl, ?_⟩
        have n0_ := Aside0.mk (below_step (by repeat (first | (with_reducible first | exact HB.out | apply below_alloc | apply pw_below_drewN | apply below_drew1) | exact HB.out)) hb)
        clear HB
        have HB := n0_
        clear n0_
        (try clear hb)
        (try clear hb2)
        (try clear hk)
        (try clear hi)
        refine hK.out _ _ trivial (fun hHeld => ?_)
        clear hK K
        refine norm_ (a' := ?_) ?_ ?_
        rotate_left
        · show Act.put _ (some 13) _ = _
          simp only [Act.put, List.setIfInBounds_toArray, List.set_cons_zero, List.set_cons_succ, i64_w, i32_w]
          rfl
        refine pure_ (i := 3) (N := some 14) (v := ?_) (a' := ?_) #[true, true, true, true, false, false, false, false, false, false, false, false, false, false, false, false, false, false, false] rfl rfl (any_of HT_.out (by kernel_rfl)) (fun _ _ _ h => h) (Or.inl ⟨by rfl, ?_⟩) ?_ ?_
        rotate_left
        · intro w'
          go_simp
          with_reducible rfl
        rotate_left
        · simp only [Act.put, List.setIfInBounds_toArray, List.set_cons_zero, List.set_cons_succ, i64_w, i32_w]
          rfl
        refine pure_ (i := 4) (N := some 15) (v := ?_) (a' := ?_) #[true, true, true, true, true, false, false, false, false, false, false, false, false, false, false, false, false, false, false] rfl rfl (any_of HT_.out (by kernel_rfl)) (fun _ _ _ h => h) (Or.inl ⟨by rfl, ?_⟩) ?_ ?_
        rotate_left
        · intro w'
          go_simp
          with_reducible rfl
        rotate_left
        · simp only [Act.put, List.setIfInBounds_toArray, List.set_cons_zero, List.set_cons_succ, i64_w, i32_w]
          rfl
        refine pure_ (i := 5) (N := some 16) (v := ?_) (a' := ?_) #[true, true, true, true, true, true, false, false, false, false, false, false, false, false, false, false, false, false, false] rfl rfl (any_of HT_.out (by kernel_rfl)) (fun _ _ _ h => h) (Or.inl ⟨by rfl, ?_⟩) ?_ ?_
        rotate_left
        · intro w'
          go_simp
          with_reducible rfl
        rotate_left
        · simp only [Act.put, List.setIfInBounds_toArray, List.set_cons_zero, List.set_cons_succ, i64_w, i32_w]
          rfl
        refine one_ (i := 6) (N := some 17) #[true, true, true, true, true, true, true, false, false, false, false, false, false, false, false, false, false, false, false] rfl rfl (one_of HT_.out (by kernel_rfl)) (by decide) (fun K hK => ?_)
        refine goes_ Try.func42 (by kernel_rfl) rfl #[.slice A2 l2.length c2] (by rfl) rfl rfl (by (try simp only [List.map_toArray, List.map_cons, List.map_nil]); first | done | rfl | (simp only [List.length_drop, List.length_take]; rfl)) ?_
        with_reducible refine (pivot_fit.calls _ _ l2 false _ ?side1 ?side2 A7.out).mono ?_
        (case side1 => repeat (first | exact (Kd.C_below HR2.out HB.out) | (with_reducible refine Kd.C_alloc ?_ _) | (with_reducible refine Kd.C_drewN ?_ _) | (with_reducible refine Kd.C_drew ?_)))
        (case side2 => exact HC2.out)
        rintro e w17 ⟨rfl, hb⟩
        refine ⟨_, rfl, ?_⟩
        have n0_ := Aside0.mk (below_step (by repeat (first | (with_reducible first | exact HB.out | apply below_alloc | apply pw_below_drewN | apply below_drew1) | exact HB.out)) hb)
        clear HB
        have HB := n0_
        clear n0_
        (try clear hb)
        (try clear hb2)
        (try clear hk)
        (try clear hi)
        refine hK.out _ _ trivial (fun hHeld => ?_)
        clear hK K
        refine norm_ (a' := ?_) ?_ ?_
        rotate_left
        · show Act.put _ (some 17) _ = _
          simp only [Act.put, List.setIfInBounds_toArray, List.set_cons_zero, List.set_cons_succ, i64_w, i32_w]
          rfl
        refine pure_ (i := 7) (N := some 18) (v := ?_) (a' := ?_) #[true, true, true, true, true, true, true, true, false, false, false, false, false, false, false, false, false, false, false] rfl rfl (any_of HT_.out (by kernel_rfl)) (fun _ _ _ h => h) (Or.inl ⟨by rfl, ?_⟩) ?_ ?_
        rotate_left
        · intro w'
          go_simp
          with_reducible rfl
        rotate_left
        · simp only [Act.put, List.setIfInBounds_toArray, List.set_cons_zero, List.set_cons_succ, i64_w, i32_w]
          rfl
        refine pure_ (i := 8) (N := some 19) (v := ?_) (a' := ?_) #[true, true, true, true, true, true, true, true, true, false, false, false, false, false, false, false, false, false, false] rfl rfl (any_of HT_.out (by kernel_rfl)) (fun _ _ _ h => h) (Or.inl ⟨by rfl, ?_⟩) ?_ ?_
        rotate_left
        · intro w'
          go_simp
          with_reducible rfl
        rotate_left
        · simp only [Act.put, List.setIfInBounds_toArray, List.set_cons_zero, List.set_cons_succ, i64_w, i32_w]
          rfl
        refine pure_ (i := 9) (N := some 20) (v := ?_) (a' := ?_) #[true, true, true, true, true, true, true, true, true, true, false, false, false, false, false, false, false, false, false] rfl rfl (any_of HT_.out (by kernel_rfl)) (fun _ _ _ h => h) (Or.inl ⟨by rfl, ?_⟩) ?_ ?_
        rotate_left
        · intro w'
          go_simp
          with_reducible rfl
        rotate_left
        · simp only [Act.put, List.setIfInBounds_toArray, List.set_cons_zero, List.set_cons_succ, i64_w, i32_w]
          rfl
        refine pure_ (i := 10) (N := some 21) (v := undef) (a' := ?_) #[true, true, true, true, true, true, true, true, true, true, true, false, false, false, false, false, false, false, false] rfl rfl (any_of HT_.out (by kernel_rfl)) (fun _ _ _ h => h) (Or.inr ⟨by rfl, rfl⟩) ?_ ?_
        rotate_left
        · simp only [Act.put, List.setIfInBounds_toArray, List.set_cons_zero, List.set_cons_succ, i64_w, i32_w]
          rfl
        refine pure_ (i := 11) (N := some 22) (v := undef) (a' := ?_) #[true, true, true, true, true, true, true, true, true, true, true, true, false, false, false, false, false, false, false] rfl rfl (any_of HT_.out (by kernel_rfl)) (fun _ _ _ h => h) (Or.inr ⟨by rfl, rfl⟩) ?_ ?_
        rotate_left
        · simp only [Act.put, List.setIfInBounds_toArray, List.set_cons_zero, List.set_cons_succ, i64_w, i32_w]
          rfl
        refine pure_ (i := 12) (N := some 23) (v := undef) (a' := ?_) #[true, true, true, true, true, true, true, true, true, true, true, true, true, false, false, false, false, false, false] rfl rfl (any_of HT_.out (by kernel_rfl)) (fun _ _ _ h => h) (Or.inr ⟨by rfl, rfl⟩) ?_ ?_
        rotate_left
        · simp only [Act.put, List.setIfInBounds_toArray, List.set_cons_zero, List.set_cons_succ, i64_w, i32_w]
          rfl
        refine pure_ (i := 13) (N := some 24) (v := undef) (a' := ?_) #[true, true, true, true, true, true, true, true, true, true, true, true, true, true, false, false, false, false, false] rfl rfl (any_of HT_.out (by kernel_rfl)) (fun _ _ _ h => h) (Or.inr ⟨by rfl, rfl⟩) ?_ ?_
        rotate_left
        · simp only [Act.put, List.setIfInBounds_toArray, List.set_cons_zero, List.set_cons_succ, i64_w, i32_w]
          rfl
        refine pure_ (i := 14) (N := some 25) (v := undef) (a' := ?_) #[true, true, true, true, true, true, true, true, true, true, true, true, true, true, true, false, false, false, false] rfl rfl (any_of HT_.out (by kernel_rfl)) (fun _ _ _ h => h) (Or.inr ⟨by rfl, rfl⟩) ?_ ?_
        rotate_left
        · simp only [Act.put, List.setIfInBounds_toArray, List.set_cons_zero, List.set_cons_succ, i64_w, i32_w]
          rfl
        refine pure_ (i := 15) (N := some 26) (v := undef) (a' := ?_) #[true, true, true, true, true, true, true, true, true, true, true, true, true, true, true, true, false, false, false] rfl rfl (any_of HT_.out (by kernel_rfl)) (fun _ _ _ h => h) (Or.inr ⟨by rfl, rfl⟩) ?_ ?_
        rotate_left
        · simp only [Act.put, List.setIfInBounds_toArray, List.set_cons_zero, List.set_cons_succ, i64_w, i32_w]
          rfl
        refine pure_ (i := 16) (N := some 27) (v := undef) (a' := ?_) #[true, true, true, true, true, true, true, true, true, true, true, true, true, true, true, true, true, false, false] rfl rfl (any_of HT_.out (by kernel_rfl)) (fun _ _ _ h => h) (Or.inr ⟨by rfl, rfl⟩) ?_ ?_
        rotate_left
        · simp only [Act.put, List.setIfInBounds_toArray, List.set_cons_zero, List.set_cons_succ, i64_w, i32_w]
          rfl
        refine pure_ (i := 17) (N := some 28) (v := undef) (a' := ?_) #[true, true, true, true, true, true, true, true, true, true, true, true, true, true, true, true, true, true, false] rfl rfl (any_of HT_.out (by kernel_rfl)) (fun _ _ _ h => h) (Or.inr ⟨by rfl, rfl⟩) ?_ ?_
        rotate_left
        · simp only [Act.put, List.setIfInBounds_toArray, List.set_cons_zero, List.set_cons_succ, i64_w, i32_w]
          rfl
        refine pure_ (i := 18) (N := some 29) (v := ?_) (a' := ?_) #[true, true, true, true, true, true, true, true, true, true, true, true, true, true, true, true, true, true, true] rfl rfl (any_of HT_.out (by kernel_rfl)) (fun _ _ _ h => h) (Or.inl ⟨by rfl, ?_⟩) ?_ ?_
        rotate_left
        · intro w'
          go_simp
          with_reducible rfl
        rotate_left
        · simp only [Act.put, List.setIfInBounds_toArray, List.set_cons_zero, List.set_cons_succ, i64_w, i32_w]
          rfl
        refine done_ (done_of HT_.out (by kernel_rfl)) ?_
        try go_wp2
        go_meet
        case rel => exact ⟨_, (true), (by first | rfl | (simp; done) | (simp [*]; done)), H', ⟨by first | omega | exact Nat.le_refl _⟩, ⟨by repeat (first | (with_reducible first | exact HB.out | apply below_alloc | apply pw_below_drewN | apply below_drew1) | exact HB.out)⟩⟩
    · replace c6 := Bool.eq_false_iff.mpr c6
      subst c6
      have H1 : (pivot_Table.j0 k a0 l1 l2 true) = some (r1, r2) := by rw [if_neg (show ¬ (false = true) by decide)] at H; exact H
      clear H
      have H := H1
      clear H1
      have H' := Aside0.mk H
      clear H
      try go_wp2
      have n0_ := Aside0.mk (below_drew1 HB.out)
      clear HB
      have HB := n0_
      clear n0_
      refine start_ (n := 19) (S := fun w' => True) (ds := []) #[false, false, false, false, false, false, false, false, false, false, false, false, false, false, false, false, false, false, false] (by kernel_rfl) rfl rfl trivial (fun hHeld => ?_); refine with_tabW pivot_Table.tab1 pivot_Table.bits1 (fun HT_ HW_ => ?_)
      generalize w.drew = w18 at HB hHeld ⊢
      refine pure_ (i := 0) (N := some 11) (v := ?_) (a' := ?_) #[true, false, false, false, false, false, false, false, false, false, false, false, false, false, false, false, false, false, false] rfl rfl (any_of HT_.out (by kernel_rfl)) (fun _ _ _ h => h) (Or.inl ⟨by rfl, ?_⟩) ?_ ?_
      rotate_left
      · intro w'
        go_simp
        with_reducible rfl
      rotate_left
      · simp only [Act.put, List.setIfInBounds_toArray, List.set_cons_zero, List.set_cons_succ, i64_w, i32_w]
        rfl
      refine pure_ (i := 1) (N := some 12) (v := ?_) (a' := ?_) #[true, true, false, false, false, false, false, false, false, false, false, false, false, false, false, false, false, false, false] rfl rfl (any_of HT_.out (by kernel_rfl)) (fun _ _ _ h => h) (Or.inl ⟨by rfl, ?_⟩) ?_ ?_
      rotate_left
      · intro w'
        go_simp
        with_reducible rfl
      rotate_left
      · simp only [Act.put, List.setIfInBounds_toArray, List.set_cons_zero, List.set_cons_succ, i64_w, i32_w]
        rfl
      refine one_ (i := 2) (N := some 13) #[true, true, true, false, false, false, false, false, false, false, false, false, false, false, false, false, false, false, false] rfl rfl (one_of HT_.out (by kernel_rfl)) (by decide) (fun K hK => ?_)
      refine goes_ Try.func46 (by kernel_rfl) rfl #[.int .i64 a0, .slice A1 l1.length c1] (by rfl) rfl rfl (by (try simp only [List.map_toArray, List.map_cons, List.map_nil]); first | done | rfl | (simp only [List.length_drop, List.length_take]; rfl)) ?_
      with_reducible refine (pivot_arePivots.calls a0 _ _ l1 false _ ?side1 ?side2 A5.out).mono ?_
      (case side1 => repeat (first | exact (Kd.C_below HR1.out HB.out) | (with_reducible refine Kd.C_alloc ?_ _) | (with_reducible refine Kd.C_drewN ?_ _) | (with_reducible refine Kd.C_drew ?_)))
      (case side2 => exact HC1.out)
      rintro e w19 ⟨rfl, hb⟩
      refine ⟨_, rfl, ?_⟩
      have n0_ := Aside0.mk (below_step (by repeat (first | (with_reducible first | exact HB.out | apply below_alloc | apply pw_below_drewN | apply below_drew1) | exact HB.out)) hb)
      clear HB
      have HB := n0_
      clear n0_
      (try clear hb)
      (try clear hb2)
      (try clear hk)
      (try clear hi)
      refine hK.out _ _ trivial (fun hHeld => ?_)
      clear hK K
      refine norm_ (a' := ?_) ?_ ?_
      rotate_left
      · show Act.put _ (some 13) _ = _
        simp only [Act.put, List.setIfInBounds_toArray, List.set_cons_zero, List.set_cons_succ, i64_w, i32_w]
        rfl
      refine pure_ (i := 3) (N := some 14) (v := ?_) (a' := ?_) #[true, true, true, true, false, false, false, false, false, false, false, false, false, false, false, false, false, false, false] rfl rfl (any_of HT_.out (by kernel_rfl)) (fun _ _ _ h => h) (Or.inl ⟨by rfl, ?_⟩) ?_ ?_
      rotate_left
      · intro w'
        go_simp
        with_reducible rfl
      rotate_left
      · simp only [Act.put, List.setIfInBounds_toArray, List.set_cons_zero, List.set_cons_succ, i64_w, i32_w]
        rfl
      refine pure_ (i := 4) (N := some 15) (v := ?_) (a' := ?_) #[true, true, true, true, true, false, false, false, false, false, false, false, false, false, false, false, false, false, false] rfl rfl (any_of HT_.out (by kernel_rfl)) (fun _ _ _ h => h) (Or.inl ⟨by rfl, ?_⟩) ?_ ?_
      rotate_left
      · intro w'
        go_simp
        with_reducible rfl
      rotate_left
      · simp only [Act.put, List.setIfInBounds_toArray, List.set_cons_zero, List.set_cons_succ, i64_w, i32_w]
        rfl
      refine pure_ (i := 5) (N := some 16) (v := undef) (a' := ?_) #[true, true, true, true, true, true, false, false, false, false, false, false, false, false, false, false, false, false, false] rfl rfl (any_of HT_.out (by kernel_rfl)) (fun _ _ _ h => h) (Or.inr ⟨by rfl, rfl⟩) ?_ ?_
      rotate_left
      · simp only [Act.put, List.setIfInBounds_toArray, List.set_cons_zero, List.set_cons_succ, i64_w, i32_w]
        rfl
      refine pure_ (i := 6) (N := some 17) (v := undef) (a' := ?_) #[true, true, true, true, true, true, true, false, false, false, false, false, false, false, false, false, false, false, false] rfl rfl (any_of HT_.out (by kernel_rfl)) (fun _ _ _ h => h) (Or.inr ⟨by rfl, rfl⟩) ?_ ?_
      rotate_left
      · simp only [Act.put, List.setIfInBounds_toArray, List.set_cons_zero, List.set_cons_succ, i64_w, i32_w]
        rfl
      refine pure_ (i := 7) (N := some 18) (v := undef) (a' := ?_) #[true, true, true, true, true, true, true, true, false, false, false, false, false, false, false, false, false, false, false] rfl rfl (any_of HT_.out (by kernel_rfl)) (fun _ _ _ h => h) (Or.inr ⟨by rfl, rfl⟩) ?_ ?_
      rotate_left
      · simp only [Act.put, List.setIfInBounds_toArray, List.set_cons_zero, List.set_cons_succ, i64_w, i32_w]
        rfl
      refine pure_ (i := 8) (N := some 19) (v := ?_) (a' := ?_) #[true, true, true, true, true, true, true, true, true, false, false, false, false, false, false, false, false, false, false] rfl rfl (any_of HT_.out (by kernel_rfl)) (fun _ _ _ h => h) (Or.inl ⟨by rfl, ?_⟩) ?_ ?_
      rotate_left
      · intro w'
        go_simp
        with_reducible rfl
      rotate_left
      · simp only [Act.put, List.setIfInBounds_toArray, List.set_cons_zero, List.set_cons_succ, i64_w, i32_w]
        rfl
      refine pure_ (i := 9) (N := some 20) (v := ?_) (a' := ?_) #[true, true, true, true, true, true, true, true, true, true, false, false, false, false, false, false, false, false, false] rfl rfl (any_of HT_.out (by kernel_rfl)) (fun _ _ _ h => h) (Or.inl ⟨by rfl, ?_⟩) ?_ ?_
      rotate_left
      · intro w'
        go_simp
        with_reducible rfl
      rotate_left
      · simp only [Act.put, List.setIfInBounds_toArray, List.set_cons_zero, List.set_cons_succ, i64_w, i32_w]
        rfl
      refine pure_ (i := 10) (N := some 21) (v := undef) (a' := ?_) #[true, true, true, true, true, true, true, true, true, true, true, false, false, false, false, false, false, false, false] rfl rfl (any_of HT_.out (by kernel_rfl)) (fun _ _ _ h => h) (Or.inr ⟨by rfl, rfl⟩) ?_ ?_
      rotate_left
      · simp only [Act.put, List.setIfInBounds_toArray, List.set_cons_zero, List.set_cons_succ, i64_w, i32_w]
        rfl
      refine pure_ (i := 11) (N := some 22) (v := undef) (a' := ?_) #[true, true, true, true, true, true, true, true, true, true, true, true, false, false, false, false, false, false, false] rfl rfl (any_of HT_.out (by kernel_rfl)) (fun _ _ _ h => h) (Or.inr ⟨by rfl, rfl⟩) ?_ ?_
      rotate_left
      · simp only [Act.put, List.setIfInBounds_toArray, List.set_cons_zero, List.set_cons_succ, i64_w, i32_w]
        rfl
      refine pure_ (i := 12) (N := some 23) (v := undef) (a' := ?_) #[true, true, true, true, true, true, true, true, true, true, true, true, true, false, false, false, false, false, false] rfl rfl (any_of HT_.out (by kernel_rfl)) (fun _ _ _ h => h) (Or.inr ⟨by rfl, rfl⟩) ?_ ?_
      rotate_left
      · simp only [Act.put, List.setIfInBounds_toArray, List.set_cons_zero, List.set_cons_succ, i64_w, i32_w]
        rfl
      refine pure_ (i := 13) (N := some 24) (v := undef) (a' := ?_) #[true, true, true, true, true, true, true, true, true, true, true, true, true, true, false, false, false, false, false] rfl rfl (any_of HT_.out (by kernel_rfl)) (fun _ _ _ h => h) (Or.inr ⟨by rfl, rfl⟩) ?_ ?_
      rotate_left
      · simp only [Act.put, List.setIfInBounds_toArray, List.set_cons_zero, List.set_cons_succ, i64_w, i32_w]
        rfl
      refine pure_ (i := 14) (N := some 25) (v := undef) (a' := ?_) #[true, true, true, true, true, true, true, true, true, true, true, true, true, true, true, false, false, false, false] rfl rfl (any_of HT_.out (by kernel_rfl)) (fun _ _ _ h => h) (Or.inr ⟨by rfl, rfl⟩) ?_ ?_
      rotate_left
      · simp only [Act.put, List.setIfInBounds_toArray, List.set_cons_zero, List.set_cons_succ, i64_w, i32_w]
        rfl
      refine pure_ (i := 15) (N := some 26) (v := undef) (a' := ?_) #[true, true, true, true, true, true, true, true, true, true, true, true, true, true, true, true, false, false, false] rfl rfl (any_of HT_.out (by kernel_rfl)) (fun _ _ _ h => h) (Or.inr ⟨by rfl, rfl⟩) ?_ ?_
      rotate_left
      · simp only [Act.put, List.setIfInBounds_toArray, List.set_cons_zero, List.set_cons_succ, i64_w, i32_w]
        rfl
      refine pure_ (i := 16) (N := some 27) (v := undef) (a' := ?_) #[true, true, true, true, true, true, true, true, true, true, true, true, true, true, true, true, true, false, false] rfl rfl (any_of HT_.out (by kernel_rfl)) (fun _ _ _ h => h) (Or.inr ⟨by rfl, rfl⟩) ?_ ?_
      rotate_left
      · simp only [Act.put, List.setIfInBounds_toArray, List.set_cons_zero, List.set_cons_succ, i64_w, i32_w]
        rfl
      refine pure_ (i := 17) (N := some 28) (v := undef) (a' := ?_) #[true, true, true, true, true, true, true, true, true, true, true, true, true, true, true, true, true, true, false] rfl rfl (any_of HT_.out (by kernel_rfl)) (fun _ _ _ h => h) (Or.inr ⟨by rfl, rfl⟩) ?_ ?_
      rotate_left
      · simp only [Act.put, List.setIfInBounds_toArray, List.set_cons_zero, List.set_cons_succ, i64_w, i32_w]
        rfl
      refine pure_ (i := 18) (N := some 29) (v := ?_) (a' := ?_) #[true, true, true, true, true, true, true, true, true, true, true, true, true, true, true, true, true, true, true] rfl rfl (any_of HT_.out (by kernel_rfl)) (fun _ _ _ h => h) (Or.inl ⟨by rfl, ?_⟩) ?_ ?_
      rotate_left
      · intro w'
        go_simp
        with_reducible rfl
      rotate_left
      · simp only [Act.put, List.setIfInBounds_toArray, List.set_cons_zero, List.set_cons_succ, i64_w, i32_w]
        rfl
      refine done_ (done_of HT_.out (by kernel_rfl)) ?_
      try go_wp2
      go_meet
      case rel => exact ⟨_, (true), (by first | rfl | (simp; done) | (simp [*]; done)), H', ⟨by first | omega | exact Nat.le_refl _⟩, ⟨by repeat (first | (with_reducible first | exact HB.out | apply below_alloc | apply pw_below_drewN | apply below_drew1) | exact HB.out)⟩⟩
  case rest =>
    clear HC4
    try clear c1
    try clear p1
    try clear q1
    try clear hx1
    try clear qi1
    try clear c2
    try clear p2
    try clear c4
    try clear c6
    try clear c8
    try clear c9
    try clear c9b0
    try clear c9b1
    try clear c10
    try clear c10b0
    try clear c10b1
    try clear c14
    try clear c15
    try clear p15
    try clear q15
    try clear hx15
    try clear qi15
    try clear hx155_0
    try clear hx156_0
    try clear p155
    try clear p156
    try clear q155
    try clear q156
    obtain ⟨kq, x29_3, rfl, HA, HJ3, HB⟩ := hcut
    cases kq with
    | zero => exact absurd HA.out (by simp [pivot_Table.j0])
    | succ kj3 =>
      have H := HA.out
      clear HA
      simp only [pivot_Table.j0] at H
      by_cases c20 : x29_3 = true
      · subst c20
        have H1 : (some (([] : List (List Int)), 1)) = some (r1, r2) := by rw [if_pos rfl] at H; exact H
        clear H
        have H := H1
        clear H1
        simp only [Option.some.injEq, Prod.mk.injEq] at H
        obtain ⟨rfl, rfl⟩ := H
        go_wp2
        go_ret2
        exact ⟨_, by first | rfl | (simp [errW_none, errW_some] <;> rfl) | (simp [*, errW_none, errW_some] <;> rfl), by first | exact Kd.S_nil _ _ _ _ _ | exact Kd.N_nil _ _ _ _ _ | exact Kd.V_nil _ _ _ _ _ | exact Kd.Q_nil _ _ _ _ _ | exact Kd.R_nil _ _ _ _ _, by repeat (first | (with_reducible first | exact HB.out | apply below_alloc | apply pw_below_drewN | apply below_drew1) | exact HB.out)⟩
      · replace c20 := Bool.eq_false_iff.mpr c20
        subst c20
        have H1 : (pivot_Table.l0 kj3 a0 l1 ([] : List (List Int)) l2 (l2.length : Int) 0) = some (r1, r2) := by rw [if_neg (show ¬ (false = true) by decide)] at H; exact H
        clear H
        have H := H1
        clear H1
        have H' := Aside0.mk H
        clear H
        go_wp2
        go_loopg [8, 32] kj3 (fun kq v8 v32 w' => ∃ (x8_2 : List (List Int)) (x32_2 : Int), v32 = .int .i64 x32_2 ∧ Aside0 (pivot_Table.l0 kq a0 l1 x8_2 l2 (l2.length : Int) x32_2 = some (r1, r2)) ∧ Aside0 (kq ≤ kj3) ∧ Aside0 (Kd.S (Kd.slice 3 (Kd.int .i64)) 23 w' w.heap.size (fun _ => True) v8 x8_2) ∧ Aside0 (Below w.heap.size w w'))
        case atStart => exact ⟨(([] : List (List Int))), (0), (by first | rfl | (simp; done) | (simp [*]; done)), H', ⟨Nat.le_refl _⟩, ⟨by first | exact Kd.S_nil _ _ _ _ _ | exact Kd.N_nil _ _ _ _ _ | exact Kd.V_nil _ _ _ _ _ | exact Kd.Q_nil _ _ _ _ _ | exact Kd.R_nil _ _ _ _ _⟩, ⟨by repeat (first | (with_reducible first | exact HB.out | apply below_alloc | apply pw_below_drewN | apply below_drew1) | exact HB.out)⟩⟩
        case round =>
          clear H'
          try clear c1
          try clear p1
          try clear q1
          try clear hx1
          try clear qi1
          try clear c2
          try clear p2
          try clear c4
          try clear c6
          try clear c8
          try clear c9
          try clear c9b0
          try clear c9b1
          try clear c10
          try clear c10b0
          try clear c10b1
          try clear c14
          try clear c15
          try clear p15
          try clear q15
          try clear hx15
          try clear qi15
          try clear c20
          try clear hx155_0
          try clear hx156_0
          try clear p1
          try clear p15
          try clear p155
          try clear p156
          try clear p2
          try clear q1
          try clear q15
          try clear q155
          try clear q156
          obtain ⟨x8_2, x32_2, rfl, HA, HK2, HO_8, HB⟩ := hrel
          cases gk with
          | zero => exact absurd HA.out (by simp [pivot_Table.l0])
          | succ k2 =>
            have H := HA.out
            clear HA
            simp only [pivot_Table.l0] at H
            by_cases c21 : x32_2 < (l2.length : Int)
            · rw [if_pos c21] at H
              have c21b0 : decide (x32_2 < (l2.length : Int)) = true := decide_eq_true c21
              clear c21
              by_cases c22 : 0 ≤ x32_2
              · rw [if_pos c22] at H
                have c22b0 : decide (0 ≤ x32_2) = true := decide_eq_true c22
                clear c22
                by_cases c23 : x32_2 < (l2.length : Int)
                · rw [if_pos c23] at H
                  have c23b0 : decide (x32_2 < (l2.length : Int)) = true := decide_eq_true c23
                  clear c23
                  replace H := Option.bind_eq_some_iff.mp H
                  obtain ⟨t159, A240, H⟩ := H
                  replace H : (if x8_2.length < 5864062014805 then (pivot_Table.l0 k2 a0 l1 (x8_2 ++ [t159]) l2 (l2.length : Int) (wrap64 (x32_2 + 1))) else (none)) = some (r1, r2) := H
                  have A24 := Aside0.mk A240
                  clear A240
                  by_cases c25 : x8_2.length < 5864062014805
                  · rw [if_pos c25] at H
                    have LMc25 := Aside0.mk c25
                    clear c25
                    obtain ⟨y162, hy162⟩ : ∃ y_ : List (List Int), y_ = (x8_2 ++ [t159]) := ⟨_, rfl⟩
                    replace H : (pivot_Table.l0 k2 a0 l1 y162 l2 (l2.length : Int) (wrap64 (x32_2 + 1))) = some (r1, r2) := by first | (rw [hy162]; with_reducible exact H) | (have H2_ := (Option.bind_some _ _).symm.trans H; rw [hy162]; with_reducible exact H2_) | (have H2_ := (Option.bind_some _ _).symm.trans H; with_reducible exact H2_) | with_reducible exact H | (rw [hy162]; exact H) | exact H
                    have Ny162 := Aside0.mk hy162
                    clear hy162
                    have H' := Aside0.mk H
                    clear H
                    have p158 : 0 ≤ (x32_2 : Int) := of_decide_eq_true (by first | (with_reducible assumption) | assumption)
                    have q158 : x32_2 < (l2.length : Int) := of_decide_eq_true (by first | (with_reducible assumption) | assumption)
                    obtain ⟨ad158, A158_0, c158_0, e158, hx158_0, hl158_0, hi158_0⟩ := at_L1 HR2.out x32_2 p158 q158
                    cases e158
                    replace hx158_0 := (HB.out.cell (World.block_lt_of_cell? w _ hx158_0)).trans hx158_0
                    have HR158_0 := Aside0.mk hi158_0
                    have HC158_0 := Aside0.mk hl158_0
                    clear hi158_0 hl158_0
                    replace p158 := eq_true p158
                    replace q158 := eq_true q158
                    go_wp2_with (first | ((with_reducible refine gate_callee (f := 47) rfl ?_); refine goesL_ (some 40) rfl rfl Try.func47 (by kernel_rfl) rfl #[.int .i64 a0, .slice A1 l1.length c1, .slice A158_0 (rd_L1 l2 x32_2).length c158_0] rfl (by (try simp only [List.map_toArray, List.map_cons, List.map_nil]); first | done | rfl | (simp only [List.length_drop, List.length_take]; rfl)) ?_; (with_reducible refine (pivot_keys.calls k2 a0 _ _ l1 _ _ (rd_L1 l2 x32_2) t159 _ ?side1 ?side2 ?side3 ?side4 A24.out).mono ?_); (case side1 => repeat (first | exact (Kd.C_below HR1.out HB.out) | (with_reducible refine Kd.C_alloc ?_ _) | (with_reducible refine Kd.C_drewN ?_ _) | (with_reducible refine Kd.C_drew ?_))); (case side2 => exact HC1.out); (case side3 => repeat (first | exact (Kd.C_below HR158_0.out HB.out) | (with_reducible refine Kd.C_alloc ?_ _) | (with_reducible refine Kd.C_drewN ?_ _) | (with_reducible refine Kd.C_drew ?_))); (case side4 => exact HC158_0.out); rintro e w26 ⟨v160, rfl, ho0, hb⟩; refine ⟨_, rfl, ?_⟩; have n0_ := Aside0.mk (Kd.S_elder' (by (with_reducible repeat (first | apply Kd.S_alloc | apply Kd.S_drewN | apply Kd.S_drew)); exact HO_8.out) (Kd.R_base ho0) hb); have n1_ := Aside0.mk (Kd.R_lower ho0 (below_size (by repeat (first | (with_reducible first | exact HB.out | apply below_alloc | apply pw_below_drewN | apply below_drew1) | exact HB.out)))); have n2_ := Aside0.mk (below_step (by repeat (first | (with_reducible first | exact HB.out | apply below_alloc | apply pw_below_drewN | apply below_drew1) | exact HB.out)) hb); clear HO_8; clear HB; have HO_8 := n0_; have HO161 := n1_; have HB := n2_; clear n0_ n1_ n2_; (try clear hb); (try clear hb2); (try clear hk); (try clear hi); (try clear ho0); obtain ⟨Ao28, co28, eo28⟩ := Kd.R_slice HO161.out; subst eo28) | ((with_reducible refine gate_builtin (b := .append) (xs := #[.tmp 36, .tmp 41]) rfl ?_); at_builtin; refine Kd.S_append (Kd.slice 3 (Kd.int .i64)) (w0 := w) w.heap.size rfl (.tmp 36) (.tmp 41) 22 23 (.slice none 0 0) 24 rfl Try.underlying22 info23 rfl (by decide) (by omega) u8 x8_2 t159 [.slice Ao28 t159.length co28] (fun _ => True) (fun k_ => some k_ = (.slice Ao28 t159.length co28 : Value).ownBlock) rfl rfl ?aP (fun k_ hk_ => ((Kd.R_mono (ok' := fun k_ => ((fun _ => True)) k_ ∧ some k_ ≠ (u8 : Value).ownBlock) (Kd.R_apart' (HO161.out) (Kd.S_typed HO_8.out) (by decide)) (fun k_ hk => ⟨trivial, hk.2⟩))).1 k_ hk_.symm) ?aF ?aO ?aB ?aS ?aL ?_; (case aP => exact Kd.M_row (Kd.R_mono (Kd.R_tight rfl (Kd.R_mono (ok' := fun k_ => ((fun _ => True)) k_ ∧ some k_ ≠ (u8 : Value).ownBlock) (Kd.R_apart' (HO161.out) (Kd.S_typed HO_8.out) (by decide)) (fun k_ hk => ⟨trivial, hk.2⟩))) (fun _ h_ => h_))); (case aB => exact (by repeat (first | (with_reducible first | exact HB.out | apply below_alloc | apply pw_below_drewN | apply below_drew1) | exact HB.out))); (case aF => exact (fun _ _ => trivial)); (case aO => exact (by (with_reducible repeat (first | apply Kd.S_alloc | apply Kd.S_drewN | apply Kd.S_drew)); exact Kd.S_mono HO_8.out (fun k_ hk => ⟨trivial, fun e_ => hk.2 e_⟩))); (case aS => exact (below_size (by repeat (first | (with_reducible first | exact HB.out | apply below_alloc | apply pw_below_drewN | apply below_drew1) | exact HB.out)))); (case aL => have := LMc25.out; omega); intro v163 w27 ho hb hg hat; rw [← Ny162.out] at ho; have n0_ := Aside0.mk (hb); have n1_ := Aside0.mk (ho); clear HB; clear HO_8; clear HO161; have HB := n0_; have HO164 := n1_; clear n0_ n1_; clear ho hb hg hat))
                    go_roundg k2
                    case measure => have := HJ3.out; have := HK2.out; omega
                    case rel => exact ⟨(y162), (wrap64 (x32_2 + 1)), (by first | rfl | (simp; done) | (simp [*]; done)), H', ⟨by have := HJ3.out; have := HK2.out; omega⟩, ⟨by (with_reducible repeat (first | apply Kd.S_alloc | apply Kd.S_drewN | apply Kd.S_drew)); exact HO164.out⟩, ⟨by repeat (first | (with_reducible first | exact HB.out | apply below_alloc | apply pw_below_drewN | apply below_drew1) | exact HB.out)⟩⟩
                  · rw [if_neg c25] at H
                    exact absurd H (by simp)
                · rw [if_neg c23] at H
                  exact absurd H (by simp)
              · rw [if_neg c22] at H
                exact absurd H (by simp)
            · rw [if_neg c21] at H
              have c21b0 : decide (x32_2 < (l2.length : Int)) = false := decide_eq_false c21
              clear c21
              simp only [Option.some.injEq, Prod.mk.injEq] at H
              obtain ⟨rfl, rfl⟩ := H
              go_wp2
              go_ret2
              exact ⟨_, by first | rfl | (simp [errW_none, errW_some] <;> rfl) | (simp [*, errW_none, errW_some] <;> rfl), by (with_reducible repeat (first | apply Kd.S_alloc | apply Kd.S_drewN | apply Kd.S_drew)); exact HO_8.out, by repeat (first | (with_reducible first | exact HB.out | apply below_alloc | apply pw_below_drewN | apply below_drew1) | exact HB.out)⟩
end Go.Proofs.Ytoidpkpgeeeggaa.Q
end
section
namespace Go.Proofs.Ytoidpkpgeeeggaa.Q
open Go.RowKit Go.Proofs.YtoidpkpgeeeggaaW.PrintWords Go.Proofs.YtoidpkpgeeeggaaW.PrintLast Go.Proofs.YtoidpkpgeeeggaaW.PrintMore
attribute [local go_sem] max2_int min2_int max_two min_two max_three min_three max_four min_four   -- for this text's walks alone
set_option linter.unusedVariables false
set_option linter.unusedSimpArgs false
def pivot_Cover.l0 : Nat → Int → List (List Int) → Int → Int → Option (Int × Int)
  | 0, _, _, _, _ => none
  | k + 1, x10, x23, x24, x25 => if x25 < x24 then (if 0 ≤ x25 then (if x25 < (x23.length : Int) then ((slices_Min_int_int.f (rd_L1 x23 x25)).bind fun t170 => (pivot_Cover.l0 k (mx x10 t170) x23 x24 (wrap64 (x25 + 1)))) else (none)) else (none)) else (some (x10, 0))
def pivot_Cover.f (k : Nat) (a0 : Int) (l1 : List (List Int)) (l2 : List (List Int)) : Option (Int × Int) := (pivot_Table.f k a0 l1 l2).bind fun bt165 => (if bt165.2 = 0 then (pivot_Cover.l0 k 0 bt165.1 (bt165.1.length : Int) 0) else (some (0, bt165.2)))
theorem pivot_Cover.mono_l : ∀ k, (∀ y0 y1 y2 y3, LeO (pivot_Cover.l0 k y0 y1 y2 y3) (pivot_Cover.l0 (k + 1) y0 y1 y2 y3))
  | 0 => fun _ _ _ _ r h => by simp [pivot_Cover.l0] at h
  | k + 1 => by
    have ih0 := pivot_Cover.mono_l k
    · intro y0 y1 y2 y3
      unfold pivot_Cover.l0
      repeat' first
      | (with_reducible exact ih0 _ _ _ _)
      | (with_reducible exact pivot_Table.mono _ _ _ _)
      | (with_reducible exact LeO.refl _)
      | (with_reducible exact LeO.none _)
      | (with_reducible refine LeO.ite ?_ ?_)
      | (with_reducible refine LeO.bind ?_ (fun _ => ?_))
      | exact ih0 _ _ _ _
      | exact pivot_Table.mono _ _ _ _
      | exact LeO.none _
      | refine LeO.ite ?_ ?_
      | refine LeO.bind ?_ (fun _ => ?_)
theorem pivot_Cover.mono : ∀ a0 a1 a2 k, LeO (pivot_Cover.f k a0 a1 a2) (pivot_Cover.f (k + 1) a0 a1 a2) := by
  intro a0 a1 a2 k
  have ih0 := pivot_Cover.mono_l k
  unfold pivot_Cover.f
  repeat' first
      | (with_reducible exact ih0 _ _ _ _)
      | (with_reducible exact pivot_Table.mono _ _ _ _)
      | (with_reducible exact LeO.refl _)
      | (with_reducible exact LeO.none _)
      | (with_reducible refine LeO.ite ?_ ?_)
      | (with_reducible refine LeO.bind ?_ (fun _ => ?_))
      | exact ih0 _ _ _ _
      | exact pivot_Table.mono _ _ _ _
      | exact LeO.none _
      | refine LeO.ite ?_ ?_
      | refine LeO.bind ?_ (fun _ => ?_)
set_option maxHeartbeats 8000000 in
set_option maxRecDepth 100000 in
theorem pivot_Cover.calls (k : Nat) (a0 : Int) (A1 : Option Addr) (c1 : Nat) (l1 : List (List Int)) (A2 : Option Addr) (c2 : Nat) (l2 : List (List Int)) (r1 : Int) (r2 : Int) (w : World) (hr1 : Kd.C (Kd.slice 3 (Kd.int .i64)) w A1 l1.length l1) (hc1 : l1.length ≤ c1) (hr2 : Kd.C (Kd.slice 3 (Kd.int .i64)) w A2 l2.length l2) (hc2 : l2.length ≤ c2) (h : pivot_Cover.f k a0 l1 l2 = some (r1, r2)) :
    Calls Try.prog 13 #[.int .i64 a0, .slice A1 l1.length c1, .slice A2 l2.length c2] w fun e w' => e = .returned (.tuple #[.int .i64 r1, .int .i64 r2]) ∧ Below w.heap.size w w' := by
  have HR1 := Aside0.mk hr1
  have HC1 := Aside0.mk hc1
  clear hr1 hc1
  have HR2 := Aside0.mk hr2
  have HC2 := Aside0.mk hc2
  clear hr2 hc2
  have HB := Aside0.mk (Below.refl w.heap.size w)
  have H : ((pivot_Table.f k a0 l1 l2).bind fun bt165 => (if bt165.2 = 0 then (pivot_Cover.l0 k 0 bt165.1 (bt165.1.length : Int) 0) else (some (0, bt165.2)))) = some (r1, r2) := h
  clear h
  replace H := Option.bind_eq_some_iff.mp H
  obtain ⟨⟨t165, t166⟩, A40, H⟩ := H
  replace H : (if t166 = 0 then (pivot_Cover.l0 k 0 t165 (t165.length : Int) 0) else (some (0, t166))) = some (r1, r2) := H
  have A4 := Aside0.mk A40
  clear A40
  by_cases c5 : t166 = 0
  · rw [if_pos c5] at H
    have c5b0 : (t166 == 0) = true := beq_iff_eq.mpr c5
    have c5b1 : (t166 != 0) = false := bne_eq_false_iff_eq.mpr c5
    clear c5
    have H' := Aside0.mk H
    clear H
    go_enter Try.func13, Try.ntmps13
    go_wp2_with (first | ((with_reducible refine gate_callee (f := 14) rfl ?_); refine goesL_ (some 17) rfl rfl Try.func14 (by kernel_rfl) rfl #[.int .i64 a0, .slice A1 l1.length c1, .slice A2 l2.length c2] rfl (by (try simp only [List.map_toArray, List.map_cons, List.map_nil]); first | done | rfl | (simp only [List.length_drop, List.length_take]; rfl)) ?_; (with_reducible refine (pivot_Table.calls k a0 _ _ l1 _ _ l2 t165 t166 _ ?side1 ?side2 ?side3 ?side4 A4.out).mono ?_); (case side1 => repeat (first | exact HR1.out | (with_reducible refine Kd.C_alloc ?_ _) | (with_reducible refine Kd.C_drewN ?_ _) | (with_reducible refine Kd.C_drew ?_))); (case side2 => exact HC1.out); (case side3 => repeat (first | exact HR2.out | (with_reducible refine Kd.C_alloc ?_ _) | (with_reducible refine Kd.C_drewN ?_ _) | (with_reducible refine Kd.C_drew ?_))); (case side4 => exact HC2.out); rintro e w6 ⟨v167, rfl, ho0, hb⟩; refine ⟨_, rfl, ?_⟩; have n0_ := Aside0.mk (Kd.S_lower ho0 (below_size (by repeat (first | (with_reducible first | exact HB.out | apply below_alloc | apply pw_below_drewN | apply below_drew1) | exact HB.out)))); have n1_ := Aside0.mk (below_step (by repeat (first | (with_reducible first | exact HB.out | apply below_alloc | apply pw_below_drewN | apply below_drew1) | exact HB.out)) hb); clear HB; have HO168 := n0_; have HB := n1_; clear n0_ n1_; (try clear hb); (try clear hb2); (try clear hk); (try clear hi); (try clear ho0); obtain ⟨Ao7, co7, eo7⟩ := Kd.S_slice HO168.out; subst eo7))
    go_loopg [10, 25] k (fun kq v10 v25 w' => ∃ (x10_1 : Int) (x25_1 : Int), v10 = .int .i64 x10_1 ∧ v25 = .int .i64 x25_1 ∧ Aside0 (pivot_Cover.l0 kq x10_1 t165 (t165.length : Int) x25_1 = some (r1, r2)) ∧ Aside0 (kq ≤ k) ∧ Aside0 (Kd.S (Kd.slice 3 (Kd.int .i64)) 23 w' w.heap.size (fun _ => True) (.slice Ao7 t165.length co7) t165) ∧ Aside0 (Below w.heap.size w w'))
    case atStart => exact ⟨(0), (0), (by first | rfl | (simp; done) | (simp [*]; done)), (by first | rfl | (simp; done) | (simp [*]; done)), H', ⟨Nat.le_refl _⟩, ⟨by (with_reducible repeat (first | apply Kd.S_alloc | apply Kd.S_drewN | apply Kd.S_drew)); exact HO168.out⟩, ⟨by repeat (first | (with_reducible first | exact HB.out | apply below_alloc | apply pw_below_drewN | apply below_drew1) | exact HB.out)⟩⟩
    case round =>
      clear H'
      try clear c1
      try clear c2
      try clear p2
      try clear c5
      try clear c5b0
      try clear c5b1
      obtain ⟨x10_1, x25_1, rfl, rfl, HA, HK1, HO_23, HB⟩ := hrel
      cases gk with
      | zero => exact absurd HA.out (by simp [pivot_Cover.l0])
      | succ k1 =>
        have H := HA.out
        clear HA
        simp only [pivot_Cover.l0] at H
        by_cases c8 : x25_1 < (t165.length : Int)
        · rw [if_pos c8] at H
          have c8b0 : decide (x25_1 < (t165.length : Int)) = true := decide_eq_true c8
          clear c8
          by_cases c9 : 0 ≤ x25_1
          · rw [if_pos c9] at H
            have c9b0 : decide (0 ≤ x25_1) = true := decide_eq_true c9
            clear c9
            by_cases c10 : x25_1 < (t165.length : Int)
            · rw [if_pos c10] at H
              have c10b0 : decide (x25_1 < (t165.length : Int)) = true := decide_eq_true c10
              clear c10
              replace H := Option.bind_eq_some_iff.mp H
              obtain ⟨t170, A110, H⟩ := H
              replace H : (pivot_Cover.l0 k1 (mx x10_1 t170) t165 (t165.length : Int) (wrap64 (x25_1 + 1))) = some (r1, r2) := H
              have A11 := Aside0.mk A110
              clear A110
              obtain ⟨ji12, hji12⟩ : ∃ j_ : Int, (mx x10_1 t170) = j_ := ⟨_, rfl⟩
              replace H : (pivot_Cover.l0 k1 ji12 t165 (t165.length : Int) (wrap64 (x25_1 + 1))) = some (r1, r2) := by first | (rw [hji12] at H; exact H) | (simp only [hji12] at H ⊢; exact H)
              (try rw [hji12] at A11)
              have hji12_ : (if x10_1 < t170 then t170 else x10_1) = ji12 := hji12
              have H' := Aside0.mk H
              clear H
              have p169 : 0 ≤ (x25_1 : Int) := of_decide_eq_true (by first | (with_reducible assumption) | assumption)
              have q169 : x25_1 < (t165.length : Int) := of_decide_eq_true (by first | (with_reducible assumption) | assumption)
              obtain ⟨ad169, A169_0, c169_0, e169, hx169_0, hl169_0, hi169_0⟩ := at_L1 (Kd.S_reads' HO_23.out).2.2 x25_1 p169 q169
              cases e169
              obtain ⟨ce169, hce169, hMe169, hcc169⟩ := Kd.S_get HO_23.out [] x25_1 p169 (by first | exact q169 | exact of_decide_eq_true (by first | (with_reducible assumption) | assumption) | (have e_ := (Kd.S_reads' HO_23.out).1; omega))
              obtain ⟨ve169_0, rfl, ge169_0⟩ := hMe169
              have hv169_0 := hcc169 0 _ rfl
              rw [Nat.add_zero, show ((Kd.slice 3 (Kd.int .i64))).sz = 1 from rfl, Nat.mul_one] at hv169_0
              replace hv169_0 := Option.some.inj (hv169_0.symm.trans hx169_0)
              rw [hv169_0] at ge169_0
              have HL169_0 := Aside0.mk (show Kd.R (Kd.int .i64) 3 _ _ _ _ (rd_L1 t165 x25_1) from ge169_0)
              clear hv169_0 ge169_0
              clear hcc169 hce169
              have HR169_0 := Aside0.mk hi169_0
              have HC169_0 := Aside0.mk hl169_0
              clear hi169_0 hl169_0
              replace p169 := eq_true p169
              replace q169 := eq_true q169
              go_wp2_with (first | ((with_reducible refine gate_callee (f := 48) rfl ?_); refine goesL_ (some 31) rfl rfl Try.func48 (by kernel_rfl) rfl #[.slice A169_0 (rd_L1 t165 x25_1).length c169_0] rfl (by (try simp only [List.map_toArray, List.map_cons, List.map_nil]); first | done | rfl | (simp only [List.length_drop, List.length_take]; rfl)) ?_; (with_reducible refine (slices_Min_int_int.calls _ _ (rd_L1 t165 x25_1) t170 _ ?side1 ?side2 A11.out).mono ?_); (case side1 => repeat (first | exact (by repeat (first | (with_reducible exact HR169_0.out) | (with_reducible refine Kd.C_alloc ?_ _) | (with_reducible refine Kd.C_drewN ?_ _) | (with_reducible refine Kd.C_drew ?_) | exact HR169_0.out)) | (with_reducible refine Kd.C_alloc ?_ _) | (with_reducible refine Kd.C_drewN ?_ _) | (with_reducible refine Kd.C_drew ?_))); (case side2 => exact HC169_0.out); rintro e w' ⟨rfl, ⟨nd, rfl⟩⟩; refine ⟨_, rfl, ?_⟩))
              go_roundg k1
              case measure => have := HK1.out; omega
              case rel => exact ⟨(ji12), (wrap64 (x25_1 + 1)), (by first | rfl | (simp; done) | (simp only [← hji12] <;> (first | rfl | simp)) | (simp [*]; done)), (by first | rfl | (simp; done) | (simp [*]; done)), H', ⟨by have := HK1.out; omega⟩, ⟨by (with_reducible repeat (first | apply Kd.S_alloc | apply Kd.S_drewN | apply Kd.S_drew)); exact HO_23.out⟩, ⟨by repeat (first | (with_reducible first | exact HB.out | apply below_alloc | apply pw_below_drewN | apply below_drew1) | exact HB.out)⟩⟩
            · rw [if_neg c10] at H
              exact absurd H (by simp)
          · rw [if_neg c9] at H
            exact absurd H (by simp)
        · rw [if_neg c8] at H
          have c8b0 : decide (x25_1 < (t165.length : Int)) = false := decide_eq_false c8
          clear c8
          simp only [Option.some.injEq, Prod.mk.injEq] at H
          obtain ⟨rfl, rfl⟩ := H
          go_wp2
          go_ret2
          exact ⟨by first | rfl | (simp [errW_none, errW_some] <;> rfl) | (simp [*, errW_none, errW_some] <;> rfl), by repeat (first | (with_reducible first | exact HB.out | apply below_alloc | apply pw_below_drewN | apply below_drew1) | exact HB.out)⟩
  · rw [if_neg c5] at H
    have c5b0 : (t166 == 0) = false := beq_eq_false_iff_ne.mpr c5
    have c5b1 : (t166 != 0) = true := bne_iff_ne.mpr c5
    simp only [Option.some.injEq, Prod.mk.injEq] at H
    obtain ⟨rfl, rfl⟩ := H
    go_enter Try.func13, Try.ntmps13
    go_wp2_with (first | ((with_reducible refine gate_callee (f := 14) rfl ?_); refine goesL_ (some 17) rfl rfl Try.func14 (by kernel_rfl) rfl #[.int .i64 a0, .slice A1 l1.length c1, .slice A2 l2.length c2] rfl (by (try simp only [List.map_toArray, List.map_cons, List.map_nil]); first | done | rfl | (simp only [List.length_drop, List.length_take]; rfl)) ?_; (with_reducible refine (pivot_Table.calls k a0 _ _ l1 _ _ l2 t165 t166 _ ?side1 ?side2 ?side3 ?side4 A4.out).mono ?_); (case side1 => repeat (first | exact HR1.out | (with_reducible refine Kd.C_alloc ?_ _) | (with_reducible refine Kd.C_drewN ?_ _) | (with_reducible refine Kd.C_drew ?_))); (case side2 => exact HC1.out); (case side3 => repeat (first | exact HR2.out | (with_reducible refine Kd.C_alloc ?_ _) | (with_reducible refine Kd.C_drewN ?_ _) | (with_reducible refine Kd.C_drew ?_))); (case side4 => exact HC2.out); rintro e w13 ⟨v167, rfl, ho0, hb⟩; refine ⟨_, rfl, ?_⟩; have n0_ := Aside0.mk (Kd.S_lower ho0 (below_size (by repeat (first | (with_reducible first | exact HB.out | apply below_alloc | apply pw_below_drewN | apply below_drew1) | exact HB.out)))); have n1_ := Aside0.mk (below_step (by repeat (first | (with_reducible first | exact HB.out | apply below_alloc | apply pw_below_drewN | apply below_drew1) | exact HB.out)) hb); clear HB; have HO168 := n0_; have HB := n1_; clear n0_ n1_; (try clear hb); (try clear hb2); (try clear hk); (try clear hi); (try clear ho0)))
    go_ret2
    exact ⟨by first | rfl | (simp [errW_none, errW_some] <;> rfl) | (simp [*, errW_none, errW_some] <;> rfl), by repeat (first | (with_reducible first | exact HB.out | apply below_alloc | apply pw_below_drewN | apply below_drew1) | exact HB.out)⟩
def antiquaryref09_Same.l0 : Nat → List Int → List Int → Int → Option (Bool)
  | 0, _, _, _ => none
  | k + 1, x0, x1, x5 => if x5 < (x0.length : Int) then (if 0 ≤ x5 then (if x5 < (x1.length : Int) then (if (rd x0 x5) = (rd x1 x5) then (antiquaryref09_Same.l0 k x0 x1 (wrap64 (x5 + 1))) else (some false)) else (none)) else (none)) else (some true)
def antiquaryref09_Same.f (k : Nat) (l0 : List Int) (l1 : List Int) : Option (Bool) := if (l0.length : Int) = (l1.length : Int) then (antiquaryref09_Same.l0 k l0 l1 0) else (some false)
theorem antiquaryref09_Same.mono_l : ∀ k, (∀ y0 y1 y2, LeO (antiquaryref09_Same.l0 k y0 y1 y2) (antiquaryref09_Same.l0 (k + 1) y0 y1 y2))
  | 0 => fun _ _ _ r h => by simp [antiquaryref09_Same.l0] at h
  | k + 1 => by
    have ih0 := antiquaryref09_Same.mono_l k
    · intro y0 y1 y2
      unfold antiquaryref09_Same.l0
      repeat' first
      | (with_reducible exact ih0 _ _ _)
      | (with_reducible exact LeO.refl _)
      | (with_reducible exact LeO.none _)
      | (with_reducible refine LeO.ite ?_ ?_)
      | (with_reducible refine LeO.bind ?_ (fun _ => ?_))
      | exact ih0 _ _ _
      | exact LeO.none _
      | refine LeO.ite ?_ ?_
      | refine LeO.bind ?_ (fun _ => ?_)
theorem antiquaryref09_Same.mono : ∀ a0 a1 k, LeO (antiquaryref09_Same.f k a0 a1) (antiquaryref09_Same.f (k + 1) a0 a1) := by
  intro a0 a1 k
  have ih0 := antiquaryref09_Same.mono_l k
  unfold antiquaryref09_Same.f
  repeat' first
      | (with_reducible exact ih0 _ _ _)
      | (with_reducible exact LeO.refl _)
      | (with_reducible exact LeO.none _)
      | (with_reducible refine LeO.ite ?_ ?_)
      | (with_reducible refine LeO.bind ?_ (fun _ => ?_))
      | exact ih0 _ _ _
      | exact LeO.none _
      | refine LeO.ite ?_ ?_
      | refine LeO.bind ?_ (fun _ => ?_)
set_option maxHeartbeats 8000000 in
set_option maxRecDepth 100000 in
theorem antiquaryref09_Same.calls (k : Nat) (A0 : Option Addr) (c0 : Nat) (l0 : List Int) (A1 : Option Addr) (c1 : Nat) (l1 : List Int) (r : Bool) (w : World) (hr0 : Kd.C (Kd.int .i64) w A0 l0.length l0) (hc0 : l0.length ≤ c0) (hr1 : Kd.C (Kd.int .i64) w A1 l1.length l1) (hc1 : l1.length ≤ c1) (h : antiquaryref09_Same.f k l0 l1 = some r) :
    Calls Try.prog 19 #[.slice A0 l0.length c0, .slice A1 l1.length c1] w fun e w' => e = .returned (.bool r) ∧ Drawn0 w w' := by
  have HR0 := Aside0.mk hr0
  have HC0 := Aside0.mk hc0
  clear hr0 hc0
  have HR1 := Aside0.mk hr1
  have HC1 := Aside0.mk hc1
  clear hr1 hc1
  have H : (if (l0.length : Int) = (l1.length : Int) then (antiquaryref09_Same.l0 k l0 l1 0) else (some false)) = some r := h
  clear h
  by_cases c3 : (l0.length : Int) = (l1.length : Int)
  · rw [if_pos c3] at H
    have c3b0 : ((l0.length : Int) == (l1.length : Int)) = true := beq_iff_eq.mpr c3
    have c3b1 : ((l0.length : Int) != (l1.length : Int)) = false := bne_eq_false_iff_eq.mpr c3
    have c3b2 : (l0.length == l1.length) = true := by first | simpa using c3 | (simp at c3 ⊢; omega)
    clear c3
    have H' := Aside0.mk H
    clear H
    go_enter Try.func19, Try.ntmps19
    go_wp2
    repeat (go_quiet (fail); try go_wp2)
    go_loopg [5] k (fun kq v5 w' => ∃ (x5_1 : Int), v5 = .int .i64 x5_1 ∧ Aside0 (antiquaryref09_Same.l0 kq l0 l1 x5_1 = some r) ∧ Aside0 (kq ≤ k) ∧ Drawn0 w w')
    case atStart => exact ⟨(0), (by first | rfl | (simp; done) | (simp [*]; done)), H', ⟨Nat.le_refl _⟩, by repeat (first | exact Drawn0.refl _ | apply Drawn0.step)⟩
    case round =>
      clear H'
      try clear c1
      try clear p2
      try clear c3
      try clear c3b0
      try clear c3b1
      try clear c3b2
      obtain ⟨x5_1, rfl, HA, HK1, ⟨m1, rfl⟩⟩ := hrel
      cases gk with
      | zero => exact absurd HA.out (by simp [antiquaryref09_Same.l0])
      | succ k1 =>
        have H := HA.out
        clear HA
        simp only [antiquaryref09_Same.l0] at H
        by_cases c4 : x5_1 < (l0.length : Int)
        · rw [if_pos c4] at H
          have c4b0 : decide (x5_1 < (l0.length : Int)) = true := decide_eq_true c4
          clear c4
          by_cases c5 : 0 ≤ x5_1
          · rw [if_pos c5] at H
            have c5b0 : decide (0 ≤ x5_1) = true := decide_eq_true c5
            clear c5
            by_cases c6 : x5_1 < (l1.length : Int)
            · rw [if_pos c6] at H
              have c6b0 : decide (x5_1 < (l1.length : Int)) = true := decide_eq_true c6
              clear c6
              by_cases c7 : (rd l0 x5_1) = (rd l1 x5_1)
              · rw [if_pos c7] at H
                have c7b0 : ((rd l0 x5_1) == (rd l1 x5_1)) = true := beq_iff_eq.mpr c7
                have c7b1 : ((rd l0 x5_1) != (rd l1 x5_1)) = false := bne_eq_false_iff_eq.mpr c7
                clear c7
                have H' := Aside0.mk H
                clear H
                have p171 : 0 ≤ (x5_1 : Int) := of_decide_eq_true (by first | (with_reducible assumption) | assumption)
                have q171 : x5_1 < (l0.length : Int) := of_decide_eq_true (by first | (with_reducible assumption) | assumption)
                obtain ⟨ad171, e171, hx171_0⟩ := Kd.at_int HR0.out x5_1 p171 q171
                cases e171
                replace p171 := eq_true p171
                replace q171 := eq_true q171
                have p172 : 0 ≤ (x5_1 : Int) := of_decide_eq_true (by first | (with_reducible assumption) | assumption)
                have q172 : x5_1 < (l1.length : Int) := of_decide_eq_true (by first | (with_reducible assumption) | assumption)
                obtain ⟨ad172, e172, hx172_0⟩ := Kd.at_int HR1.out x5_1 p172 q172
                cases e172
                replace p172 := eq_true p172
                replace q172 := eq_true q172
                go_wp2
                repeat (go_quiet (fail); try go_wp2)
                go_roundg k1
                case measure => have := HK1.out; omega
                case rel => exact ⟨(wrap64 (x5_1 + 1)), (by first | rfl | (simp; done) | (simp [*]; done)), H', ⟨by have := HK1.out; omega⟩, by repeat (first | exact Drawn0.refl _ | apply Drawn0.step)⟩
              · rw [if_neg c7] at H
                have c7b0 : ((rd l0 x5_1) == (rd l1 x5_1)) = false := beq_eq_false_iff_ne.mpr c7
                have c7b1 : ((rd l0 x5_1) != (rd l1 x5_1)) = true := bne_iff_ne.mpr c7
                obtain rfl := Option.some.inj H
                have p171 : 0 ≤ (x5_1 : Int) := of_decide_eq_true (by first | (with_reducible assumption) | assumption)
                have q171 : x5_1 < (l0.length : Int) := of_decide_eq_true (by first | (with_reducible assumption) | assumption)
                obtain ⟨ad171, e171, hx171_0⟩ := Kd.at_int HR0.out x5_1 p171 q171
                cases e171
                replace p171 := eq_true p171
                replace q171 := eq_true q171
                have p172 : 0 ≤ (x5_1 : Int) := of_decide_eq_true (by first | (with_reducible assumption) | assumption)
                have q172 : x5_1 < (l1.length : Int) := of_decide_eq_true (by first | (with_reducible assumption) | assumption)
                obtain ⟨ad172, e172, hx172_0⟩ := Kd.at_int HR1.out x5_1 p172 q172
                cases e172
                replace p172 := eq_true p172
                replace q172 := eq_true q172
                go_wp2
                repeat (go_quiet (fail); try go_wp2)
                go_ret
                exact ⟨by first | rfl | (simp; done) | (simp [*]; done), by repeat (first | exact Drawn0.refl _ | apply Drawn0.step)⟩
            · rw [if_neg c6] at H
              exact absurd H (by simp)
          · rw [if_neg c5] at H
            exact absurd H (by simp)
        · rw [if_neg c4] at H
          have c4b0 : decide (x5_1 < (l0.length : Int)) = false := decide_eq_false c4
          clear c4
          obtain rfl := Option.some.inj H
          go_wp2
          repeat (go_quiet (fail); try go_wp2)
          go_ret
          exact ⟨by first | rfl | (simp; done) | (simp [*]; done), by repeat (first | exact Drawn0.refl _ | apply Drawn0.step)⟩
  · rw [if_neg c3] at H
    have c3b0 : ((l0.length : Int) == (l1.length : Int)) = false := beq_eq_false_iff_ne.mpr c3
    have c3b1 : ((l0.length : Int) != (l1.length : Int)) = true := bne_iff_ne.mpr c3
    have c3b2 : (l0.length == l1.length) = false := by first | simpa using c3 | (simp at c3 ⊢; omega)
    obtain rfl := Option.some.inj H
    go_enter Try.func19, Try.ntmps19
    go_wp2
    repeat (go_quiet (fail); try go_wp2)
    go_ret
    exact ⟨by first | rfl | (simp; done) | (simp [*]; done), by repeat (first | exact Drawn0.refl _ | apply Drawn0.step)⟩
/-- the keys of a vector, the table -/
def keysOf (m : Int) (p : List (List Int)) (v : List Int) : List Int := p.map (fun q => Plain.key m q v)
def tableOf (m : Int) (p l : List (List Int)) : List (List Int) := l.map (keysOf m p)
def tabOk (m : Int) (p l : List (List Int)) : Prop := ((1 ≤ m ∧ m ≤ 3) ∧ pivot_isFit p ∧ p.length ≤ 8) ∧ pivot_isFit l ∧ Plain.alike (rowOf p 0) (rowOf l 0)
instance (m : Int) (p l : List (List Int)) : Decidable (tabOk m p l) := by unfold tabOk; infer_instance
theorem rdL_mid (pre : List (List Int)) (x : List Int) (v : List (List Int)) : rd_L1 (pre ++ x :: v) (pre.length : Int) = x := by unfold rd_L1; simp
theorem rdL_row (l : List (List Int)) (i : Nat) : rd_L1 l (i : Int) = rowOf l i := by unfold rd_L1 rowOf; rw [Int.toNat_natCast]
theorem pivot_keys.ev_l (m : Int) (hm : 1 ≤ m ∧ m ≤ 3) (p : List (List Int)) (hp : p.length ≤ 4096) (v : List Int) (q : List (List Int)) : ∀ pre : List (List Int), p = pre ++ q → (∀ x ∈ q, Plain.alike x v) →
    Ev (fun k => pivot_keys.l0 k m v (keysOf m pre v) p (p.length : Int) (pre.length : Int)) (keysOf m p v) := by
  induction q with
  | nil =>
    intro pre hx _
    have hl : p.length = pre.length := by rw [hx]; simp
    refine Plain.ev_succ ?_
    simp only [pivot_keys.l0]
    exact Plain.ev_neg (by omega) (Plain.ev_some (by rw [hx, List.append_nil]))
  | cons x q ih =>
    intro pre hx ha
    have hl : (p.length : Int) = pre.length + 1 + q.length := by rw [hx]; simp; omega
    refine Plain.ev_succ ?_
    simp only [pivot_keys.l0]
    refine Plain.ev_pos (by omega) (Plain.ev_pos (by omega) (Plain.ev_pos (by omega) ?_))
    rw [show rd_L1 p (pre.length : Int) = x by rw [hx]; exact rdL_mid _ _ _]
    refine Plain.ev_bind (vector_Key.ev hm (ha x List.mem_cons_self)) (Plain.ev_pos (by unfold keysOf; rw [List.length_map]; omega) ?_)
    have hn := ih (pre ++ [x]) (by rw [hx]; simp) (fun y hy => ha y (List.mem_cons_of_mem _ hy))
    rw [show ((pre ++ [x]).length : Int) = (pre.length : Int) + 1 by simp, show keysOf m (pre ++ [x]) v = keysOf m pre v ++ [Plain.key m x v] by simp [keysOf]] at hn
    rw [Plain.w64 (by omega) (by omega)]
    exact hn
theorem pivot_keys.ev {m : Int} (hm : 1 ≤ m ∧ m ≤ 3) {p : List (List Int)} (hp : p.length ≤ 4096) {v : List Int} (ha : ∀ x ∈ p, Plain.alike x v) : Ev (fun k => pivot_keys.f k m p v) (keysOf m p v) := pivot_keys.ev_l m hm p hp v p [] rfl ha
theorem pivot_Table.ev_l (m : Int) (hm : 1 ≤ m ∧ m ≤ 3) (p : List (List Int)) (hp : p.length ≤ 4096) (l : List (List Int)) (hl : l.length ≤ 4096) (q : List (List Int)) : ∀ pre : List (List Int), l = pre ++ q → (∀ v ∈ q, ∀ x ∈ p, Plain.alike x v) →
    Ev (fun k => pivot_Table.l0 k m p (tableOf m p pre) l (l.length : Int) (pre.length : Int)) (tableOf m p l, 0) := by
  induction q with
  | nil =>
    intro pre hx _
    have h2 : l.length = pre.length := by rw [hx]; simp
    refine Plain.ev_succ ?_
    simp only [pivot_Table.l0]
    exact Plain.ev_neg (by omega) (Plain.ev_some (by rw [hx, List.append_nil]))
  | cons x q ih =>
    intro pre hx ha
    have h2 : (l.length : Int) = pre.length + 1 + q.length := by rw [hx]; simp; omega
    refine Plain.ev_succ ?_
    simp only [pivot_Table.l0]
    refine Plain.ev_pos (by omega) (Plain.ev_pos (by omega) (Plain.ev_pos (by omega) ?_))
    rw [show rd_L1 l (pre.length : Int) = x by rw [hx]; exact rdL_mid _ _ _]
    refine Plain.ev_bind (pivot_keys.ev hm hp (ha x List.mem_cons_self)) (Plain.ev_pos (by unfold tableOf; rw [List.length_map]; omega) ?_)
    have hn := ih (pre ++ [x]) (by rw [hx]; simp) (fun y hy => ha y (List.mem_cons_of_mem _ hy))
    rw [show ((pre ++ [x]).length : Int) = (pre.length : Int) + 1 by simp, show tableOf m p (pre ++ [x]) = tableOf m p pre ++ [keysOf m p x] by simp [tableOf]] at hn
    rw [Plain.w64 (by omega) (by omega)]
    exact hn
theorem pivot_arePivots.is {m : Int} {p : List (List Int)} (hp : pivot_smallRows p) : pivot_arePivots.f m p = some (decide ((1 ≤ m ∧ m ≤ 3) ∧ pivot_isFit p ∧ p.length ≤ 8)) := by
  unfold pivot_arePivots.f
  refine Plain.bind_of (pivot_isMetric.is m) ?_
  by_cases h1 : 1 ≤ m ∧ m ≤ 3
  · rw [if_pos (decide_eq_true h1)]
    refine Plain.bind_of (show pivot_fit.f p = some _ from if_pos hp) ?_
    by_cases h2 : pivot_isFit p
    · rw [if_pos (decide_eq_true h2)]
      congr 1
      rw [Bool.eq_iff_iff, decide_eq_true_eq, decide_eq_true_eq]
      exact ⟨fun h => ⟨h1, h2, by omega⟩, fun h => by have := h.2.2; omega⟩
    · rw [if_neg (by simpa using h2)]
      congr 1; symm; rw [decide_eq_false_iff_not]; exact fun h => h2 h.2.1
  · rw [if_neg (by simpa using h1)]
    congr 1; symm; rw [decide_eq_false_iff_not]; exact fun h => h1 h.1
theorem tabOk_alike {m : Int} {p l : List (List Int)} (h : tabOk m p l) {x v : List Int} (hx : x ∈ p) (hv : v ∈ l) : Plain.alike x v :=
  Plain.alike_trans (Plain.alike_symm (h.1.2.1.2.2 x hx)) (Plain.alike_trans h.2.2 (h.2.1.2.2 v hv))
theorem pivot_Table.ev {m : Int} {p l : List (List Int)} (hp : pivot_smallRows p) (hl : pivot_smallRows l) : Ev (fun k => pivot_Table.f k m p l) (if tabOk m p l then (tableOf m p l, 0) else ([], 1)) := by
  unfold pivot_Table.f
  refine Plain.ev_ob (pivot_arePivots.is hp) ?_
  have no : ∀ b, b = true → Ev (fun k => pivot_Table.j0 k m p l b) (([] : List (List Int)), (1 : Int)) := fun b hb => by
    refine Plain.ev_succ ?_
    simp only [pivot_Table.j0]
    exact Plain.ev_pos hb (Plain.ev_some rfl)
  by_cases h1 : (1 ≤ m ∧ m ≤ 3) ∧ pivot_isFit p ∧ p.length ≤ 8
  · refine Plain.ev_pos (decide_eq_true h1) (Plain.ev_ob (show pivot_fit.f l = some _ from if_pos hl) ?_)
    by_cases h2 : pivot_isFit l
    · refine Plain.ev_pos (decide_eq_true h2) (Plain.ev_pos (by have := h1.2.1.1; omega) (Plain.ev_pos (by have := h2.1; omega) ?_))
      rw [show rd_L1 p 0 = rowOf p 0 from rdL_row p 0, show rd_L1 l 0 = rowOf l 0 from rdL_row l 0]
      refine Plain.ev_ob (vector_Alike.is _ _ (hp.2 _ (rowOf_mem h1.2.1.1)) (hl.2 _ (rowOf_mem h2.1))) ?_
      by_cases h3 : Plain.alike (rowOf p 0) (rowOf l 0)
      · have hok : tabOk m p l := ⟨h1, h2, h3⟩
        rw [decide_eq_true h3, if_pos hok]
        refine Plain.ev_succ ?_
        simp only [pivot_Table.j0]
        refine Plain.ev_neg (by decide) ?_
        exact pivot_Table.ev_l m h1.1 p h1.2.1.2.1 l h2.2.1 l [] rfl (fun v hv x hx => tabOk_alike hok hx hv)
      · rw [decide_eq_false h3, if_neg (fun h => h3 h.2.2)]
        exact no _ rfl
    · rw [if_neg (fun h => h2 h.2.1)]
      exact Plain.ev_neg (by simpa using h2) (no _ rfl)
  · rw [if_neg (fun h => h1 h.1)]
    exact Plain.ev_neg (by simpa using h1) (no _ rfl)
/-- a shell behind some rows -/
def shellUp (k : Nat) (s : Int × Int) (rows : List (List Int)) : Int × Int := rows.foldl (fun s row => (mn s.1 (rd row (k : Int)), mx s.2 (rd row (k : Int)))) s
def shellAt (t : List (List Int)) (k : Nat) : S57 :=
  let s := shellUp k (rd (rowOf t 0) (k : Int), rd (rowOf t 0) (k : Int)) t
  ⟨s.1, s.2⟩
def shellsOf (t : List (List Int)) (n : Nat) : List S57 := (List.range n).map (shellAt t)
theorem shellUp_step {t : List (List Int)} {k j : Nat} (s : Int × Int) (hj : j < t.length) :
    shellUp k s (t.take (j + 1)) = (mn (shellUp k s (t.take j)).1 (rd (rowOf t j) (k : Int)), mx (shellUp k s (t.take j)).2 (rd (rowOf t j) (k : Int))) := by
  unfold shellUp
  rw [List.take_succ_eq_append_getElem hj, List.foldl_append]
  have : t[j] = rowOf t j := by unfold rowOf; simp [hj]
  simp [this]
def pivot_Shells.f (a0 : Int) (l1 l2 : List (List Int)) : Option (List S57 × Int) :=
  if pivot_smallRows l1 ∧ pivot_smallRows l2 then some (if tabOk a0 l1 l2 then (shellsOf (tableOf a0 l1 l2) l1.length, 0) else ([], 1)) else none
theorem wrap_succ (n : Nat) (h : n ≤ 4096) : wrap64 ((n : Int) + 1) = ((n + 1 : Nat) : Int) := by unfold wrap64; omega
theorem two_cells {w : World} {g t : Nat} {a b : Value} (h : w.heap[g]? = some (.cells #[a, b] t (0, 0))) :
    w.cell? ⟨g, 0, none⟩ = some a ∧ w.cell? ⟨g, 1, none⟩ = some b ∧ w.frozen? ⟨g, 0, none⟩ = false ∧ w.frozen? ⟨g, 1, none⟩ = false := by
  simp [World.cell?, World.frozen?, h]
theorem two_set {w : World} {g t : Nat} {a b c d : Value} (h : w.heap[g]? = some (.cells #[a, b] t (0, 0))) : ((w.setCell ⟨g, 0, none⟩ c).setCell ⟨g, 1, none⟩ d).heap[g]? = some (.cells #[c, d] t (0, 0)) := by
  rw [setCell_eq_setRow w g 0 #[a, b] t (0, 0) c h]
  have h2 := setRow_heap w g #[a, b] (#[a, b].setIfInBounds 0 c) t (0, 0) h
  rw [setCell_eq_setRow _ g 1 _ t (0, 0) d h2]
  exact setRow_heap _ g _ _ t (0, 0) h2
def pivot_Shells.T8 : Bool × List (List Nat × List Nat) := (true, [([], []), ([0], [0]), ([1], [1]), ([], []), ([2, 3], [2, 3]), ([4], [4]), ([], []), ([6], [6]), ([7], [7]), ([], []), ([8, 9], [8, 9]), ([10], [10]), ([5, 11], [5, 11]), ([], []), ([13, 12, 0, 1, 2, 3, 4, 5, 6, 7, 8, 9, 10, 11, 12, 13], [12, 13])])
def pivot_Shells.B8 : List Nat := [0, 1, 3, 0, 15, 31, 0, 64, 192, 0, 960, 1984, 4095, 0, 16383]
theorem pivot_Shells.tab8 : rtab .any (opsOf Try.f23 8) = pivot_Shells.T8 := by kernel_rfl
theorem pivot_Shells.bits8 : waitsOk pivot_Shells.T8.2 pivot_Shells.B8 = true := by kernel_rfl
def pivot_Shells.T12 : Bool × List (List Nat × List Nat) := (true, [([], []), ([], []), ([], []), ([1, 2], [1, 2]), ([3], [3]), ([0, 4], [0, 4]), ([5, 5, 0, 1, 2, 3, 4, 5], [5])])
def pivot_Shells.B12 : List Nat := [0, 0, 0, 6, 14, 31, 63]
theorem pivot_Shells.tab12 : rtab .any (opsOf Try.f23 12) = pivot_Shells.T12 := by kernel_rfl
theorem pivot_Shells.bits12 : waitsOk pivot_Shells.T12.2 pivot_Shells.B12 = true := by kernel_rfl
set_option maxHeartbeats 4000000 in
set_option maxRecDepth 100000 in
theorem pivot_Shells_yes.calls (a0 : Int) (A1 : Option Addr) (c1 : Nat) (l1 : List (List Int)) (A2 : Option Addr) (c2 : Nat) (l2 : List (List Int)) (w : World) (hr1 : Kd.C (Kd.slice 3 (Kd.int .i64)) w A1 l1.length l1) (hc1 : l1.length ≤ c1)
    (hr2 : Kd.C (Kd.slice 3 (Kd.int .i64)) w A2 l2.length l2) (hc2 : l2.length ≤ c2) (hs : pivot_smallRows l1 ∧ pivot_smallRows l2) (hok : tabOk a0 l1 l2) :
    Calls Try.prog 23 #[.int .i64 a0, .slice A1 l1.length c1, .slice A2 l2.length c2] w fun e w' => ∃ v0_ : Value, e = .returned (.tuple #[v0_, .int .i64 0]) ∧ Kd.R k57 57 w' w.heap.size (fun _ => True) v0_ (shellsOf (tableOf a0 l1 l2) l1.length) ∧ Below w.heap.size w w' := by
  obtain ⟨kt, hkt⟩ := Plain.ev_ex (pivot_Table.ev (m := a0) hs.1 hs.2)
  rw [if_pos hok] at hkt
  have HT := Aside0.mk (pivot_Table.calls kt a0 A1 c1 l1 A2 c2 l2 _ _ w hr1 hc1 hr2 hc2 hkt)
  have HTL : Aside0 (0 < (tableOf a0 l1 l2).length) := ⟨by unfold tableOf; rw [List.length_map]; exact hok.2.1.1⟩
  have HTR : Aside0 (∀ j, j < (tableOf a0 l1 l2).length → (rowOf (tableOf a0 l1 l2) j).length = l1.length) := ⟨fun j hj => by
    have h := rowOf_mem hj
    obtain ⟨v, _, hv⟩ := List.mem_map.1 h
    rw [← hv]; simp [keysOf]⟩
  have HTB : Aside0 ((tableOf a0 l1 l2).length ≤ 4096) := ⟨by unfold tableOf; rw [List.length_map]; exact hok.2.1.2.1⟩
  have HPB8 : Aside0 (l1.length ≤ 8) := ⟨hok.1.2.2⟩
  generalize tableOf a0 l1 l2 = t at *
  have hu1 := Try.underlying88
  have hu2 := Try.underlying57
  clear hkt hr1 hr2 hc1 hc2 hs hok
  go_enter Try.func23, Try.ntmps23
  go_wp2_with fail
  refine HT.out.mono ?_
  rintro e w1 ⟨v0, rfl, hS, hb⟩
  obtain ⟨At, ct, rfl, htc, hC⟩ := Kd.S_reads hS
  have HC := Aside0.mk hC
  have HB1 := Aside0.mk hb
  have HB0 := Aside0.mk (Below.refl w1.heap.size w1)
  clear hS hC hb HT htc
  go_wp2_with fail
  have HO0 := Aside0.mk (Kd.R_nil k57 57 w1 w1.heap.size (fun _ => True))
  go_loopw [10, 27] (fun v i wr => ∃ (k : Nat) (ao : Option Addr) (co : Nat), v = .slice ao (shellsOf t k).length co ∧ i = .int .i64 k ∧ k ≤ l1.length ∧ Aside0 (Kd.R k57 57 wr w1.heap.size (fun _ => True) (.slice ao (shellsOf t k).length co) (shellsOf t k)) ∧ Aside0 (Below w1.heap.size w1 wr)) (fun _ i _ => l1.length - (intOf i).toNat)
  case atStart => exact ⟨0, none, 0, rfl, rfl, Nat.zero_le _, HO0, HB0⟩
  case round =>
    clear HO0 HB0
    obtain ⟨k, ao, co, rfl, rfl, hk, HO, HB⟩ := hrel
    by_cases hlt : k < l1.length
    · have d1 : decide ((k : Int) < (l1.length : Int)) = true := decide_eq_true (by omega)
      obtain ⟨ad, A0, c0, e0, ha0, hc0', hR0⟩ := rows_at HC.out 0 HTL.out
      subst e0
      rw [show ad.add 0 = ad from rfl] at ha0
      have hrl := HTR.out 0 HTL.out
      have p1 : (0 : Int) ≤ (k : Int) := by omega
      have q1 : (k : Int) < ((rowOf t 0).length : Int) := by omega
      have q1' : 0 < t.length := HTL.out
      obtain ⟨ad2, e2, hx0⟩ := Kd.at_int hR0 (k : Int) p1 q1
      subst e2
      rw [Int.toNat_natCast] at hx0
      replace ha0 := (HB.out.cell (World.block_lt_of_cell? _ _ ha0)).trans ha0
      replace hx0 := (HB.out.cell (World.block_lt_of_cell? _ _ hx0)).trans hx0
      obtain ⟨x0, hx0e⟩ : ∃ x0, rd (rowOf t 0) (k : Int) = x0 := ⟨_, rfl⟩
      obtain ⟨r0, hr0e⟩ : ∃ r0, rowOf t 0 = r0 := ⟨_, rfl⟩
      rw [hx0e] at hx0
      have HX0 := Aside0.mk hx0e
      rw [hr0e] at ha0 q1
      clear hx0e hr0e hR0 hc0' hrl
      go_wp2_with fail
      refine start_ (n := 15) (S := fun w' => w'.cell? ad = some (.slice (some ad2) r0.length c0) ∧ w'.cell? (ad2.add k) = some (.int .i64 x0)) (ds := [14]) #[false, false, false, false, false, false, false, false, false, false, false, false, false, false, false] (by kernel_rfl) rfl rfl ⟨ha0, hx0⟩ (fun hHeld => ?_)
      refine with_tabW pivot_Shells.tab8 pivot_Shells.bits8 (fun HT_ HW_ => ?_)
      refine pure_ (i := 0) (N := some 30) (v := ?_) (a' := ?_) #[true, false, false, false, false, false, false, false, false, false, false, false, false, false, false] rfl rfl (any_of HT_.out (by kernel_rfl)) (fun _ _ _ h => h) (Or.inl ⟨by rfl, ?_⟩) ?_ ?_
      rotate_left
      · intro w'
        go_simp
        with_reducible rfl
      rotate_left
      · simp only [Act.put, List.setIfInBounds_toArray, List.set_cons_zero, List.set_cons_succ, i64_w, i32_w]
        rfl
      refine pure_ (i := 1) (N := some 31) (v := ?_) (a' := ?_) #[true, true, false, false, false, false, false, false, false, false, false, false, false, false, false] rfl rfl (any_of HT_.out (by kernel_rfl)) (fun _ _ _ h => h) (Or.inl ⟨by rfl, ?_⟩) ?_ ?_
      rotate_left
      · intro w'
        go_simp
        with_reducible rfl
      rotate_left
      · simp only [Act.put, List.setIfInBounds_toArray, List.set_cons_zero, List.set_cons_succ, i64_w, i32_w]
        rfl
      refine pure_ (i := 3) (N := some 33) (v := ?_) (a' := ?_) #[true, true, false, true, false, false, false, false, false, false, false, false, false, false, false] rfl rfl (any_of HT_.out (by kernel_rfl)) (fun _ _ _ h => h) (Or.inl ⟨by rfl, ?_⟩) ?_ ?_
      rotate_left
      · intro w'
        go_simp
        with_reducible rfl
      rotate_left
      · simp only [Act.put, List.setIfInBounds_toArray, List.set_cons_zero, List.set_cons_succ, i64_w, i32_w]
        rfl
      refine pure_ (i := 6) (N := some 36) (v := ?_) (a' := ?_) #[true, true, false, true, false, false, true, false, false, false, false, false, false, false, false] rfl rfl (any_of HT_.out (by kernel_rfl)) (fun _ _ _ h => h) (Or.inl ⟨by rfl, ?_⟩) ?_ ?_
      rotate_left
      · intro w'
        go_simp
        with_reducible rfl
      rotate_left
      · simp only [Act.put, List.setIfInBounds_toArray, List.set_cons_zero, List.set_cons_succ, i64_w, i32_w]
        rfl
      refine pure_ (i := 7) (N := some 37) (v := ?_) (a' := ?_) #[true, true, false, true, false, false, true, true, false, false, false, false, false, false, false] rfl rfl (any_of HT_.out (by kernel_rfl)) (fun _ _ _ h => h) (Or.inl ⟨by rfl, ?_⟩) ?_ ?_
      rotate_left
      · intro w'
        go_simp
        with_reducible rfl
      rotate_left
      · simp only [Act.put, List.setIfInBounds_toArray, List.set_cons_zero, List.set_cons_succ, i64_w, i32_w]
        rfl
      refine pure_ (i := 9) (N := some 39) (v := ?_) (a' := ?_) #[true, true, false, true, false, false, true, true, false, true, false, false, false, false, false] rfl rfl (any_of HT_.out (by kernel_rfl)) (fun _ _ _ h => h) (Or.inl ⟨by rfl, ?_⟩) ?_ ?_
      rotate_left
      · intro w'
        go_simp
        with_reducible rfl
      rotate_left
      · simp only [Act.put, List.setIfInBounds_toArray, List.set_cons_zero, List.set_cons_succ, i64_w, i32_w]
        rfl
      refine take_ (i := 2) (N := some 32) (v := ?_) (a' := ?_) #[true, true, true, true, false, false, true, true, false, true, false, false, false, false, false] rfl rfl (take_ofW HT_.out HW_.out (by kernel_rfl)) (fun _ _ _ h => h) (Or.inl ⟨by rfl, ?_⟩) hHeld ?_ ?_
      rotate_left
      · rintro w' ⟨s0, s1⟩
        go_simp
        with_reducible rfl
      rotate_left
      · simp only [Act.put, List.setIfInBounds_toArray, List.set_cons_zero, List.set_cons_succ, i64_w, i32_w]
        rfl
      refine pure_ (i := 4) (N := some 34) (v := ?_) (a' := ?_) #[true, true, true, true, true, false, true, true, false, true, false, false, false, false, false] rfl rfl (any_of HT_.out (by kernel_rfl)) (fun _ _ _ h => h) (Or.inl ⟨by rfl, ?_⟩) ?_ ?_
      rotate_left
      · intro w'
        go_simp
        with_reducible rfl
      rotate_left
      · simp only [Act.put, List.setIfInBounds_toArray, List.set_cons_zero, List.set_cons_succ, i64_w, i32_w]
        rfl
      refine take_ (i := 5) (N := some 35) (v := ?_) (a' := ?_) #[true, true, true, true, true, true, true, true, false, true, false, false, false, false, false] rfl rfl (take_ofW HT_.out HW_.out (by kernel_rfl)) (fun _ _ _ h => h) (Or.inl ⟨by rfl, ?_⟩) hHeld ?_ ?_
      rotate_left
      · rintro w' ⟨s0, s1⟩
        go_simp
        with_reducible rfl
      rotate_left
      · simp only [Act.put, List.setIfInBounds_toArray, List.set_cons_zero, List.set_cons_succ, i64_w, i32_w]
        rfl
      refine take_ (i := 8) (N := some 38) (v := ?_) (a' := ?_) #[true, true, true, true, true, true, true, true, true, true, false, false, false, false, false] rfl rfl (take_ofW HT_.out HW_.out (by kernel_rfl)) (fun _ _ _ h => h) (Or.inl ⟨by rfl, ?_⟩) hHeld ?_ ?_
      rotate_left
      · rintro w' ⟨s0, s1⟩
        go_simp
        with_reducible rfl
      rotate_left
      · simp only [Act.put, List.setIfInBounds_toArray, List.set_cons_zero, List.set_cons_succ, i64_w, i32_w]
        rfl
      refine pure_ (i := 10) (N := some 40) (v := ?_) (a' := ?_) #[true, true, true, true, true, true, true, true, true, true, true, false, false, false, false] rfl rfl (any_of HT_.out (by kernel_rfl)) (fun _ _ _ h => h) (Or.inl ⟨by rfl, ?_⟩) ?_ ?_
      rotate_left
      · intro w'
        go_simp
        with_reducible rfl
      rotate_left
      · simp only [Act.put, List.setIfInBounds_toArray, List.set_cons_zero, List.set_cons_succ, i64_w, i32_w]
        rfl
      refine take_ (i := 11) (N := some 41) (v := ?_) (a' := ?_) #[true, true, true, true, true, true, true, true, true, true, true, true, false, false, false] rfl rfl (take_ofW HT_.out HW_.out (by kernel_rfl)) (fun _ _ _ h => h) (Or.inl ⟨by rfl, ?_⟩) hHeld ?_ ?_
      rotate_left
      · rintro w' ⟨s0, s1⟩
        go_simp
        with_reducible rfl
      rotate_left
      · simp only [Act.put, List.setIfInBounds_toArray, List.set_cons_zero, List.set_cons_succ, i64_w, i32_w]
        rfl
      refine pure_ (i := 12) (N := some 42) (v := ?_) (a' := ?_) #[true, true, true, true, true, true, true, true, true, true, true, true, true, false, false] rfl rfl (any_of HT_.out (by kernel_rfl)) (fun _ _ _ h => h) (Or.inl ⟨by rfl, ?_⟩) ?_ ?_
      rotate_left
      · intro w'
        go_simp
        with_reducible rfl
      rotate_left
      · simp only [Act.put, List.setIfInBounds_toArray, List.set_cons_zero, List.set_cons_succ, i64_w, i32_w]
        rfl
      refine one_ (i := 13) (N := some 12) #[true, true, true, true, true, true, true, true, true, true, true, true, true, true, false] rfl rfl (one_of HT_.out (by kernel_rfl)) (by decide) (fun K hK => ?_)
      refine value_ (w1 := ?_) (v := ?_) (by rfl) rfl ?_ ?_
      rotate_left 2
      · go_simp
        constructor
        · rfl
        · rfl
      refine hK.out _ _ ⟨((World.cell?_alloc_lt _ _ _ (World.block_lt_of_cell? _ _ hHeld.1)).trans hHeld.1), ((World.cell?_alloc_lt _ _ _ (World.block_lt_of_cell? _ _ hHeld.2)).trans hHeld.2)⟩ (fun hHeld => ?_)
      clear hK K
      refine norm_ (a' := ?_) ?_ ?_
      rotate_left
      · show Act.put _ (some 12) _ = _
        simp only [Act.put, List.setIfInBounds_toArray, List.set_cons_zero, List.set_cons_succ, i64_w, i32_w]
        rfl
      refine last_ (i := 14) (N := none) #[true, true, true, true, true, true, true, true, true, true, true, true, true, true, true] rfl rfl (one_of HT_.out (by kernel_rfl)) (by decide) (fun K hK => ?_)
      refine skip_ (w1 := ?_) (by rfl) rfl ?_ ?_
      rotate_left
      · go_simp
        rfl
      have hpb : (wr.alloc (.cells #[.int .i64 x0, .int .i64 x0] 88)).drew.heap[wr.heap.size]? = some (.cells #[.int .i64 x0, .int .i64 x0] 88 (0, 0)) := by show (wr.alloc _).heap[wr.heap.size]? = _; unfold World.alloc; exact Array.getElem?_push_size
      have hho := Kd.R_drew (Kd.R_alloc (Kd.R_elderB HO.out wr.heap.size (Nat.le_refl _)) (.cells #[.int .i64 x0, .int .i64 x0] 88))
      have hsz : w1.heap.size ≤ wr.heap.size := HB.out.size
      have hhb := below_drew1 (below_alloc HB.out (.cells #[.int .i64 x0, .int .i64 x0] 88))
      generalize (wr.alloc (.cells #[.int .i64 x0, .int .i64 x0] 88)).drew = w12 at *
      generalize wr.heap.size = pb at *
      refine hK.out _ _ ?_
      clear hK K
      refine done_ (done_of HT_.out (by kernel_rfl)) ?_
      have HHO := Aside0.mk hho
      have HHB := Aside0.mk hhb
      have HPB := Aside0.mk hpb
      have HPG := Aside0.mk hsz
      clear hho hhb hpb hsz ha0 hx0 HO HB hHeld q1
      go_wp2_with fail
      go_loopw [45] (fun i wr => ∃ j : Nat, i = .int .i64 j ∧ j ≤ t.length ∧ Aside0 (wr.heap[pb]? = some (.cells #[.int .i64 (shellUp k (x0, x0) (t.take j)).1, .int .i64 (shellUp k (x0, x0) (t.take j)).2] 88 (0, 0))) ∧
        Aside0 (Kd.R k57 57 wr w1.heap.size (fun q => True ∧ q ≠ pb) (.slice ao (shellsOf t k).length co) (shellsOf t k)) ∧ Aside0 (Below w1.heap.size w1 wr)) (fun i _ => t.length - (intOf i).toNat)
      case atStart => exact ⟨0, rfl, Nat.zero_le _, HPB, HHO, HHB⟩
      case round =>
        clear HPB HHO HHB
        obtain ⟨j, rfl, hj, HPB, HO, HB⟩ := hrel
        by_cases hlt2 : j < t.length
        · have d2 : decide ((j : Int) < (t.length : Int)) = true := decide_eq_true (by omega)
          obtain ⟨ad1, A3, c3, e3, ha3, hc3', hR3⟩ := rows_at HC.out j hlt2
          cases e3
          have hrl := HTR.out j hlt2
          have q3 : (k : Int) < ((rowOf t j).length : Int) := by omega
          obtain ⟨ad3, e4, hx3⟩ := Kd.at_int hR3 (k : Int) p1 q3
          subst e4
          rw [Int.toNat_natCast] at hx3
          replace ha3 := (HB.out.cell (World.block_lt_of_cell? _ _ ha3)).trans ha3
          replace hx3 := (HB.out.cell (World.block_lt_of_cell? _ _ hx3)).trans hx3
          have hst := shellUp_step (k := k) (x0, x0) hlt2
          obtain ⟨x, hxe⟩ : ∃ x, rd (rowOf t j) (k : Int) = x := ⟨_, rfl⟩
          obtain ⟨r3, hr3e⟩ : ∃ r3, rowOf t j = r3 := ⟨_, rfl⟩
          rw [hxe] at hx3 hst
          rw [hr3e] at ha3 q3
          obtain ⟨s, hs⟩ : ∃ s, shellUp k (x0, x0) (t.take j) = s := ⟨_, rfl⟩
          rw [hs] at hst HPB
          obtain ⟨lo, hi⟩ := s
          obtain ⟨lo', hlo⟩ : ∃ lo', mn lo x = lo' := ⟨_, rfl⟩
          obtain ⟨hi', hhi⟩ : ∃ hi', mx hi x = hi' := ⟨_, rfl⟩
          have HST : Aside0 (shellUp k (x0, x0) (t.take (j + 1)) = (lo', hi')) := ⟨by rw [hst, hlo, hhi]⟩
          have HW := Aside0.mk (fun (W : World) => pivot_pair_int_with.calls lo hi x lo' hi' W (by rw [← hlo, ← hhi]; rfl))
          obtain ⟨hc0, hc1, _, _⟩ := two_cells HPB.out
          have HPL : Aside0 (pb < wr.drew.heap.size) := ⟨(Array.getElem?_eq_some_iff.1 HPB.out).1⟩
          have p3 : (0 : Int) ≤ (j : Int) := by omega
          have q4 : (j : Int) < (t.length : Int) := by omega
          clear hxe hr3e hR3 hc3' hrl hst hs hlo hhi
          go_wp2_with fail
          refine start_ (n := 7) (S := fun w' => w'.cell? ⟨pb, 0, none⟩ = some (.int .i64 lo) ∧ w'.cell? ⟨pb, 1, none⟩ = some (.int .i64 hi) ∧ w'.cell? (ad3.add k) = some (.int .i64 x)) (ds := [6]) #[false, false, false, false, false, false, false] (by kernel_rfl) rfl rfl ⟨hc0, hc1, hx3⟩ (fun hHeld => ?_)
          refine with_tabW pivot_Shells.tab12 pivot_Shells.bits12 (fun HT_ HW_ => ?_)
          refine pure_ (i := 1) (N := some 50) (v := ?_) (a' := ?_) #[false, true, false, false, false, false, false] rfl rfl (any_of HT_.out (by kernel_rfl)) (fun _ _ _ h => h) (Or.inl ⟨by rfl, ?_⟩) ?_ ?_
          rotate_left
          · intro w'
            go_simp
            with_reducible rfl
          rotate_left
          · simp only [Act.put, List.setIfInBounds_toArray, List.set_cons_zero, List.set_cons_succ, i64_w, i32_w]
            rfl
          refine pure_ (i := 2) (N := some 51) (v := ?_) (a' := ?_) #[false, true, true, false, false, false, false] rfl rfl (any_of HT_.out (by kernel_rfl)) (fun _ _ _ h => h) (Or.inl ⟨by rfl, ?_⟩) ?_ ?_
          rotate_left
          · intro w'
            go_simp
            with_reducible rfl
          rotate_left
          · simp only [Act.put, List.setIfInBounds_toArray, List.set_cons_zero, List.set_cons_succ, i64_w, i32_w]
            rfl
          refine pure_ (i := 3) (N := some 52) (v := ?_) (a' := ?_) #[false, true, true, true, false, false, false] rfl rfl (any_of HT_.out (by kernel_rfl)) (fun _ _ _ h => h) (Or.inl ⟨by rfl, ?_⟩) ?_ ?_
          rotate_left
          · intro w'
            go_simp
            with_reducible rfl
          rotate_left
          · simp only [Act.put, List.setIfInBounds_toArray, List.set_cons_zero, List.set_cons_succ, i64_w, i32_w]
            rfl
          refine take_ (i := 0) (N := some 49) (v := ?_) (a' := ?_) #[true, true, true, true, false, false, false] rfl rfl (take_ofW HT_.out HW_.out (by kernel_rfl)) (fun _ _ _ h => h) (Or.inl ⟨by rfl, ?_⟩) hHeld ?_ ?_
          rotate_left
          · rintro w' ⟨s0, s1, s2⟩
            go_simp
            with_reducible rfl
          rotate_left
          · simp only [Act.put, List.setIfInBounds_toArray, List.set_cons_zero, List.set_cons_succ, i64_w, i32_w]
            rfl
          refine take_ (i := 4) (N := some 53) (v := ?_) (a' := ?_) #[true, true, true, true, true, false, false] rfl rfl (take_ofW HT_.out HW_.out (by kernel_rfl)) (fun _ _ _ h => h) (Or.inl ⟨by rfl, ?_⟩) hHeld ?_ ?_
          rotate_left
          · rintro w' ⟨s0, s1, s2⟩
            go_simp
            with_reducible rfl
          rotate_left
          · simp only [Act.put, List.setIfInBounds_toArray, List.set_cons_zero, List.set_cons_succ, i64_w, i32_w]
            rfl
          refine one_ (i := 5) (N := some 54) #[true, true, true, true, true, true, false] rfl rfl (one_of HT_.out (by kernel_rfl)) (by decide) (fun K hK => ?_)
          refine goes_ Try.func55 (by kernel_rfl) rfl #[.agg #[.int .i64 lo, .int .i64 hi], .int .i64 x] (by rfl) rfl rfl (by simp only [List.map_toArray, List.map_cons, List.map_nil]; rfl) ?_
          with_reducible refine (HW.out _).mono ?_
          rintro e w3 ⟨rfl, hb⟩
          refine ⟨_, rfl, ?_⟩
          have hpb3 : w3.heap[pb]? = some (.cells #[.int .i64 lo, .int .i64 hi] 88 (0, 0)) := (hb.block pb HPL.out).trans HPB.out
          obtain ⟨q0, q1, q2, q3⟩ := two_cells hpb3
          refine hK.out _ _ ⟨q0, q1, (pw_cell_below hb hHeld.2.2)⟩ (fun hHeld => ?_)
          clear hK K
          refine norm_ (a' := ?_) ?_ ?_
          rotate_left
          · show Act.put _ (some 54) _ = _
            simp only [Act.put, List.setIfInBounds_toArray, List.set_cons_zero, List.set_cons_succ, i64_w, i32_w]
            rfl
          refine last_ (i := 6) (N := none) #[true, true, true, true, true, true, true] rfl rfl (one_of HT_.out (by kernel_rfl)) (by decide) (fun K hK => ?_)
          refine skip_ (w1 := ?_) (by rfl) rfl ?_ ?_
          rotate_left
          · go_simp
            rfl
          have hpb4 := two_set (c := .int .i64 lo') (d := .int .i64 hi') hpb3
          have hho := Kd.R_far (p := ⟨pb, 1, none⟩) (Kd.R_far (p := ⟨pb, 0, none⟩) (Kd.R_below (Kd.R_drew HO.out) hb) (fun _ hk => hk.2) (.int .i64 lo')) (fun _ hk => hk.2) (.int .i64 hi')
          have hhb := below_set (j := 1) (v := .int .i64 hi') (below_set (j := 0) (v := .int .i64 lo') (below_step (below_drew1 HB.out) hb) HPG.out) HPG.out
          clear hpb3 q0 q1 q2 q3 hb
          generalize (w3.setCell ⟨pb, 0, none⟩ (.int .i64 lo')).setCell ⟨pb, 1, none⟩ (.int .i64 hi') = w5 at *
          refine hK.out _ _ ?_
          clear hK K
          refine done_ (done_of HT_.out (by kernel_rfl)) ?_
          have HHO := Aside0.mk hho
          have HHB := Aside0.mk hhb
          have HPB4 := Aside0.mk hpb4
          clear hho hhb hpb4 ha3 hx3 HO HB hHeld hc0 hc1 HPB HPL HW
          go_wp2
          go_roundw
          case rel => exact ⟨j + 1, congrArg (Value.int .i64) (wrap_succ j (by have := HTB.out; omega)), by omega, ⟨by rw [HST.out]; exact HPB4.out⟩, HHO, HHB⟩
          case measure =>
            rw [wrap_succ j (by have := HTB.out; omega)]
            show t.length - ((j + 1 : Nat) : Int).toNat < t.length - ((j : Nat) : Int).toNat
            rw [Int.toNat_natCast, Int.toNat_natCast]
            omega
        · obtain rfl : j = t.length := by omega
          have d2 : decide ((t.length : Int) < (t.length : Int)) = false := decide_eq_false (by omega)
          rw [List.take_length] at HPB
          obtain ⟨s, hs⟩ : ∃ s, shellUp k (x0, x0) t = s := ⟨_, rfl⟩
          rw [hs] at HPB
          obtain ⟨lo, hi⟩ := s
          have HSH : Aside0 (shellsOf t (k + 1) = shellsOf t k ++ [(⟨lo, hi⟩ : S57)]) := ⟨by
            unfold shellsOf
            rw [List.range_succ, List.map_append]
            congr 1
            simp only [List.map_cons, List.map_nil]
            congr 1
            unfold shellAt
            rw [HX0.out, hs]⟩
          have HLEN : Aside0 ((shellsOf t k).length = k) := ⟨by unfold shellsOf; simp⟩
          obtain ⟨hc0, hc1, _, _⟩ := two_cells HPB.out
          have HPL : Aside0 (pb < wr.heap.size) := ⟨(Array.getElem?_eq_some_iff.1 HPB.out).1⟩
          clear hs
          go_wp2_with ((with_reducible refine gate_builtin (b := .append) (xs := #[.tmp 56, .tmp 62]) rfl ?_); at_builtin; refine Kd.R_append k57 (w0 := w1) w1.heap.size rfl (.tmp 56) (.tmp 62) 49 57 (.agg #[(.int .i64 0), (.int .i64 0)]) 16 rfl Try.underlying49 info57 rfl (by decide) (by omega) (.slice ao (shellsOf t k).length co) (shellsOf t k) (⟨lo, hi⟩ : S57) [.int .i64 lo, .int .i64 hi] (fun q => True ∧ q ≠ pb) (fun _ => False) rfl (by first | (go_simp; done) | (go_simp; rfl)) ?aP (fun _ hk => hk.elim) ?aF ?aO ?aB ?aS ?aL ?_; (case aP => exact k57_mkM _ _ _ (⟨lo, hi⟩ : S57)); (case aF => exact (fun q hq => ⟨trivial, by have := HPL.out; omega⟩)); (case aO => exact HO.out); (case aB => exact HB.out); (case aS => exact HB.out.size); (case aL => have := HLEN.out; have := HPB8.out; omega); intro v10 w10 ho hb hg hat)
          obtain ⟨a10, c10, rfl⟩ := Kd.R_slice ho
          have WO := Aside0.mk (Kd.R_mono ho (ok' := fun _ => True) (fun _ _ => trivial))
          have WB := Aside0.mk hb
          rw [← HSH.out] at WO ⊢
          clear ho hb hg hat HO HB hc0 hc1 HPB HPL
          go_wp2
          go_roundw
          case rel => exact ⟨k + 1, a10, c10, rfl, congrArg (Value.int .i64) (wrap_succ k (by have := HPB8.out; omega)), by omega, WO, WB⟩
          case measure =>
            rw [wrap_succ k (by have := HPB8.out; omega)]
            show l1.length - ((k + 1 : Nat) : Int).toNat < l1.length - ((k : Nat) : Int).toNat
            rw [Int.toNat_natCast, Int.toNat_natCast]
            omega
    · obtain rfl : k = l1.length := by omega
      have d1 : decide ((l1.length : Int) < (l1.length : Int)) = false := decide_eq_false (by omega)
      go_wp2
      go_ret2
      exact ⟨_, rfl, Kd.R_mono (Kd.R_lower HO.out HB1.out.size) (fun _ _ => trivial), below_step HB1.out HB.out⟩
set_option maxHeartbeats 1000000 in
theorem pivot_Shells_no.calls (a0 : Int) (A1 : Option Addr) (c1 : Nat) (l1 : List (List Int)) (A2 : Option Addr) (c2 : Nat) (l2 : List (List Int)) (w : World) (hr1 : Kd.C (Kd.slice 3 (Kd.int .i64)) w A1 l1.length l1) (hc1 : l1.length ≤ c1)
    (hr2 : Kd.C (Kd.slice 3 (Kd.int .i64)) w A2 l2.length l2) (hc2 : l2.length ≤ c2) (hs : pivot_smallRows l1 ∧ pivot_smallRows l2) (hok : ¬ tabOk a0 l1 l2) :
    Calls Try.prog 23 #[.int .i64 a0, .slice A1 l1.length c1, .slice A2 l2.length c2] w fun e w' => e = .returned (.tuple #[.slice none 0 0, .int .i64 1]) ∧ Below w.heap.size w w' := by
  obtain ⟨kt, hkt⟩ := Plain.ev_ex (pivot_Table.ev (m := a0) hs.1 hs.2)
  rw [if_neg hok] at hkt
  have HT := Aside0.mk (pivot_Table.calls kt a0 A1 c1 l1 A2 c2 l2 _ _ w hr1 hc1 hr2 hc2 hkt)
  clear hkt hr1 hr2 hc1 hc2 hs hok
  go_enter Try.func23, Try.ntmps23
  go_wp2_with fail
  refine HT.out.mono ?_
  rintro e w1 ⟨v0, rfl, hS, hb⟩
  go_wp2
  go_ret2
  exact ⟨rfl, hb⟩
theorem pivot_Shells.calls (a0 : Int) (A1 : Option Addr) (c1 : Nat) (l1 : List (List Int)) (A2 : Option Addr) (c2 : Nat) (l2 : List (List Int)) (r1 : List S57) (r2 : Int) (w : World) (hr1 : Kd.C (Kd.slice 3 (Kd.int .i64)) w A1 l1.length l1) (hc1 : l1.length ≤ c1)
    (hr2 : Kd.C (Kd.slice 3 (Kd.int .i64)) w A2 l2.length l2) (hc2 : l2.length ≤ c2) (h : pivot_Shells.f a0 l1 l2 = some (r1, r2)) :
    Calls Try.prog 23 #[.int .i64 a0, .slice A1 l1.length c1, .slice A2 l2.length c2] w fun e w' => ∃ v0_ : Value, e = .returned (.tuple #[v0_, .int .i64 r2]) ∧ Kd.R k57 57 w' w.heap.size (fun _ => True) v0_ r1 ∧ Below w.heap.size w w' := by
  unfold pivot_Shells.f at h
  by_cases hs : pivot_smallRows l1 ∧ pivot_smallRows l2
  · rw [if_pos hs] at h
    by_cases hok : tabOk a0 l1 l2
    · rw [if_pos hok] at h
      obtain ⟨rfl, rfl⟩ := Prod.mk.inj (Option.some.inj h)
      exact pivot_Shells_yes.calls a0 A1 c1 l1 A2 c2 l2 w hr1 hc1 hr2 hc2 hs hok
    · rw [if_neg hok] at h
      obtain ⟨rfl, rfl⟩ := Prod.mk.inj (Option.some.inj h)
      refine (pivot_Shells_no.calls a0 A1 c1 l1 A2 c2 l2 w hr1 hc1 hr2 hc2 hs hok).mono ?_
      rintro e w' ⟨rfl, hb⟩
      exact ⟨_, rfl, Kd.R_nil _ _ _ _ _, hb⟩
  · rw [if_neg hs] at h; cases h
def pivot_Low.f (a0 : Int) (l1 : List S57) (l2 : List Int) : Option (Int × Int) :=
  if l1.length ≤ 4611686018427387904 ∧ l2.length ≤ 4611686018427387904 then
    some (if ((1 ≤ a0 ∧ a0 ≤ 3) ∧ validSh l1 ∧ l2.length = l1.length) ∧ keysGood l2 then (bestAt (fun b s k => mx b (Plain.gap a0 s.f0 s.f1 k)) 0 l1 l2 l1.length, 0) else (0, 1)) else none
theorem pivot_Low.calls (a0 : Int) (A1 : Option Addr) (c1 : Nat) (l1 : List S57) (A2 : Option Addr) (c2 : Nat) (l2 : List Int) (r1 : Int) (r2 : Int) (w : World) (hr1 : Kd.C k57 w A1 l1.length l1) (hc1 : l1.length ≤ c1) (hr2 : Kd.C (Kd.int .i64) w A2 l2.length l2) (hc2 : l2.length ≤ c2) (h : pivot_Low.f a0 l1 l2 = some (r1, r2)) :
    Calls Try.prog 25 #[.int .i64 a0, .slice A1 l1.length c1, .slice A2 l2.length c2] w fun e w' => e = .returned (.tuple #[.int .i64 r1, .int .i64 r2]) ∧ Below w.heap.size w w' := by
  unfold pivot_Low.f at h
  by_cases hl : l1.length ≤ 4611686018427387904 ∧ l2.length ≤ 4611686018427387904
  · rw [if_pos hl] at h
    have h := Option.some.inj h
    have hp : (w.alloc (.cells #[.int .i64 a0] 3)).cell? ⟨w.heap.size, 0, none⟩ = some (.int .i64 a0) := by simp [go_sem]
    have hmf : ∀ (fn : Fn) (first cap : Array Value) (w : World), (Instr.makeFunc fn first cap).run Try.prog w = .ok (.func fn first cap) w := fun _ _ _ _ => rfl
    have HB : Aside0 (Below w.heap.size w (w.alloc (.cells #[.int .i64 a0] 3))) := ⟨below_alloc (Below.refl _ _) _⟩
    by_cases hok : (1 ≤ a0 ∧ a0 ≤ 3) ∧ validSh l1 ∧ l2.length = l1.length
    · have HC := Aside0.mk (pivot_bound_Low_yes.calls a0 A1 c1 l1 A2 c2 l2 0 ⟨w.heap.size, 0, none⟩ _ hp (Kd.C_alloc hr1 _) hc1 (Kd.C_alloc hr2 _) hl.1 hl.2 hok.1 hok.2.1 hok.2.2 r1 r2 (by
        rw [← h]
        by_cases hg : keysGood l2
        · rw [if_pos ⟨hok, hg⟩, if_pos hg]
        · rw [if_neg (fun k => hg k.2), if_neg hg]))
      clear h hok hl hr1 hr2 hc1 hc2 hp
      go_enter Try.func25, Try.ntmps25
      go_wp2_with fail
      refine HC.out.mono ?_
      rintro e w1 ⟨rfl, hb⟩
      go_wp2
      go_ret2
      exact ⟨rfl, below_step HB.out hb⟩
    · obtain ⟨rfl, rfl⟩ : r1 = 0 ∧ r2 = 1 := by
        rw [if_neg (fun k => hok k.1)] at h
        exact ⟨(congrArg Prod.fst h).symm, (congrArg Prod.snd h).symm⟩
      have HC := Aside0.mk (pivot_bound_Low_no.calls a0 A1 c1 l1 A2 c2 l2 0 ⟨w.heap.size, 0, none⟩ (w.alloc (.cells #[.int .i64 a0] 3)) (Kd.C_alloc hr1 _) hc1 hl.1 hl.2 hok)
      clear h hok hl hr1 hr2 hc1 hc2
      go_enter Try.func25, Try.ntmps25
      go_wp2_with fail
      refine HC.out.mono ?_
      rintro e w1 ⟨rfl, hb⟩
      go_wp2
      go_ret2
      exact ⟨rfl, below_step HB.out hb⟩
  · rw [if_neg hl] at h; cases h
def pivot_High.f (a0 : Int) (l1 : List S57) (l2 : List Int) : Option (Int × Int) :=
  if l1.length ≤ 4611686018427387904 ∧ l2.length ≤ 4611686018427387904 then
    some (if ((1 ≤ a0 ∧ a0 ≤ 3) ∧ validSh l1 ∧ l2.length = l1.length) ∧ keysGood l2 then (bestAt (fun b s k => mn b (Plain.high a0 k s.f1)) 134217728 l1 l2 l1.length, 0) else (0, 1)) else none
theorem pivot_High.calls (a0 : Int) (A1 : Option Addr) (c1 : Nat) (l1 : List S57) (A2 : Option Addr) (c2 : Nat) (l2 : List Int) (r1 : Int) (r2 : Int) (w : World) (hr1 : Kd.C k57 w A1 l1.length l1) (hc1 : l1.length ≤ c1) (hr2 : Kd.C (Kd.int .i64) w A2 l2.length l2) (hc2 : l2.length ≤ c2) (h : pivot_High.f a0 l1 l2 = some (r1, r2)) :
    Calls Try.prog 26 #[.int .i64 a0, .slice A1 l1.length c1, .slice A2 l2.length c2] w fun e w' => e = .returned (.tuple #[.int .i64 r1, .int .i64 r2]) ∧ Below w.heap.size w w' := by
  unfold pivot_High.f at h
  by_cases hl : l1.length ≤ 4611686018427387904 ∧ l2.length ≤ 4611686018427387904
  · rw [if_pos hl] at h
    have h := Option.some.inj h
    have hp : (w.alloc (.cells #[.int .i64 a0] 3)).cell? ⟨w.heap.size, 0, none⟩ = some (.int .i64 a0) := by simp [go_sem]
    have hmf : ∀ (fn : Fn) (first cap : Array Value) (w : World), (Instr.makeFunc fn first cap).run Try.prog w = .ok (.func fn first cap) w := fun _ _ _ _ => rfl
    have HB : Aside0 (Below w.heap.size w (w.alloc (.cells #[.int .i64 a0] 3))) := ⟨below_alloc (Below.refl _ _) _⟩
    by_cases hok : (1 ≤ a0 ∧ a0 ≤ 3) ∧ validSh l1 ∧ l2.length = l1.length
    · have HC := Aside0.mk (pivot_bound_High_yes.calls a0 A1 c1 l1 A2 c2 l2 134217728 ⟨w.heap.size, 0, none⟩ _ hp (Kd.C_alloc hr1 _) hc1 (Kd.C_alloc hr2 _) hl.1 hl.2 hok.1 hok.2.1 hok.2.2 r1 r2 (by
        rw [← h]
        by_cases hg : keysGood l2
        · rw [if_pos ⟨hok, hg⟩, if_pos hg]
        · rw [if_neg (fun k => hg k.2), if_neg hg]))
      clear h hok hl hr1 hr2 hc1 hc2 hp
      go_enter Try.func26, Try.ntmps26
      go_wp2_with fail
      refine HC.out.mono ?_
      rintro e w1 ⟨rfl, hb⟩
      go_wp2
      go_ret2
      exact ⟨rfl, below_step HB.out hb⟩
    · obtain ⟨rfl, rfl⟩ : r1 = 0 ∧ r2 = 1 := by
        rw [if_neg (fun k => hok k.1)] at h
        exact ⟨(congrArg Prod.fst h).symm, (congrArg Prod.snd h).symm⟩
      have HC := Aside0.mk (pivot_bound_High_no.calls a0 A1 c1 l1 A2 c2 l2 134217728 ⟨w.heap.size, 0, none⟩ (w.alloc (.cells #[.int .i64 a0] 3)) (Kd.C_alloc hr1 _) hc1 hl.1 hl.2 hok)
      clear h hok hl hr1 hr2 hc1 hc2
      go_enter Try.func26, Try.ntmps26
      go_wp2_with fail
      refine HC.out.mono ?_
      rintro e w1 ⟨rfl, hb⟩
      go_wp2
      go_ret2
      exact ⟨rfl, below_step HB.out hb⟩
  · rw [if_neg hl] at h; cases h
end Go.Proofs.Ytoidpkpgeeeggaa.Q
end
section
namespace Go.Proofs.Ytoidpkpgeeeggaa.Q
open Go.RowKit Go.Proofs.YtoidpkpgeeeggaaW.PrintWords Go.Proofs.YtoidpkpgeeeggaaW.PrintLast Go.Proofs.YtoidpkpgeeeggaaW.PrintMore
attribute [local go_sem] max2_int min2_int max_two min_two max_three min_three max_four min_four   -- for this text's walks alone
set_option linter.unusedVariables false
set_option linter.unusedSimpArgs false
theorem eqA57 (d : Nat) (w : World) (x0 y0 : Int) (x1 y1 : Int) :
    (Op.equalIn (d + 2) 57 (.agg #[.int .i64 x0, .int .i64 x1]) (.agg #[.int .i64 y0, .int .i64 y1])).run Try.prog w = .ok (x0 == y0 && (x1 == y1)) w := by
  refine eqA_of Try.underlying57 (by kernel_rfl) ?_
  refine eqf_cons (by rfl) (by go_simp; rfl) (by go_simp; rfl) (by go_simp) ?_
  exact eqf_last (by rfl) (by go_simp; rfl) (by go_simp; rfl) (by go_simp)
end Go.Proofs.Ytoidpkpgeeeggaa.Q
end
section
namespace Go.Proofs.Ytoidpkpgeeeggaa.Q
open Go.RowKit Go.Proofs.YtoidpkpgeeeggaaW.PrintWords Go.Proofs.YtoidpkpgeeeggaaW.PrintLast Go.Proofs.YtoidpkpgeeeggaaW.PrintMore
attribute [local go_sem] max2_int min2_int max_two min_two max_three min_three max_four min_four   -- for this text's walks alone
set_option linter.unusedVariables false
set_option linter.unusedSimpArgs false
attribute [local go_sem high] eqA57
def pivot_of.f (a0_0 : Int) (a0_1 : Int) : Option (Int × Int) := some (a0_0, a0_1)
set_option maxHeartbeats 8000000 in
set_option maxRecDepth 100000 in
theorem pivot_of.calls (a0_0 : Int) (a0_1 : Int) (r1 : Int) (r2 : Int) (w : World) (h : pivot_of.f a0_0 a0_1 = some (r1, r2)) :
    Calls Try.prog 65 #[.agg #[.int .i64 a0_0, .int .i64 a0_1]] w fun e w' => e = .returned (.agg #[.int .i64 r1, .int .i64 r2]) ∧ Below w.heap.size w w' := by
  have hu57 := Try.underlying57
  have hu88 := Try.underlying88
  have HB := Aside0.mk (Below.refl w.heap.size w)
  have H : (some (a0_0, a0_1)) = some (r1, r2) := h
  clear h
  simp only [Option.some.injEq, Prod.mk.injEq] at H
  obtain ⟨rfl, rfl⟩ := H
  go_enter Try.func65, Try.ntmps65
  go_wp2_with (first | ((with_reducible refine gate_dst (N := 1) rfl ?_); refine box_event ?hg (N := 1) ?hd (cs := #[.int .i64 a0_0, .int .i64 a0_1]) (t := 57) ?hr ?_; (case hd => rfl); (case hg => rfl); (case hr => first | (go_simp; done) | (go_simp; rfl)); intro gb173 hg w2 hbox hb; have n0_ := Aside0.mk (below_step (by repeat (first | (with_reducible first | exact HB.out | apply below_alloc | apply pw_below_drewN | apply below_drew1) | exact HB.out)) hb); have n1_ := Aside0.mk (hbox); have n2_ := Aside0.mk ((by rw [hg]; exact (below_size (by repeat (first | (with_reducible first | exact HB.out | apply below_alloc | apply pw_below_drewN | apply below_drew1) | exact HB.out))) : w.heap.size ≤ gb173)); have n3_ := Aside0.mk ((by rw [hg]; exact (below_size (by repeat (first | (with_reducible first | exact HB.out | apply below_alloc | apply pw_below_drewN | apply below_drew1) | exact HB.out))) : w.heap.size ≤ gb173)); clear HB; have HB := n0_; have BK173 := n1_; have GW173 := n2_; have GE173 := n3_; clear n0_ n1_ n2_ n3_; clear hb hbox hg) | ((with_reducible refine gate_dst (N := 2) rfl ?_); refine box_event ?hg (N := 2) ?hd (cs := #[.int .i64 0, .int .i64 0]) (t := 88) ?hr ?_; (case hd => rfl); (case hg => rfl); (case hr => first | (go_simp; done) | (go_simp; rfl)); intro gb174 hg w3 hbox hb; have n0_ := Aside0.mk (blk_below (g := gb173) (o := .cells #[.int .i64 a0_0, .int .i64 a0_1] 57 (0, 0)) (by (with_reducible repeat (first | refine blk_drewN ?_ _ | refine blk_drew ?_ | refine blk_alloc ?_ _)); exact BK173.out) hb); have n1_ := Aside0.mk (below_step (by repeat (first | (with_reducible first | exact HB.out | apply below_alloc | apply pw_below_drewN | apply below_drew1 | refine below_set ?_ GE173.out) | exact HB.out)) hb); have n2_ := Aside0.mk (hbox); have n3_ := Aside0.mk ((by rw [hg]; exact (below_size (by repeat (first | (with_reducible first | exact HB.out | apply below_alloc | apply pw_below_drewN | apply below_drew1 | refine below_set ?_ GE173.out) | exact HB.out))) : w.heap.size ≤ gb174)); have n4_ := Aside0.mk ((by rw [hg]; exact (below_size (by repeat (first | (with_reducible first | exact HB.out | apply below_alloc | apply pw_below_drewN | apply below_drew1 | refine below_set ?_ GE173.out) | exact HB.out))) : w.heap.size ≤ gb174)); have n5_ := Aside0.mk ((by rw [hg]; exact Nat.ne_of_lt (blk_lt (g := gb173) (o := .cells #[.int .i64 a0_0, .int .i64 a0_1] 57 (0, 0)) (by (with_reducible repeat (first | refine blk_drewN ?_ _ | refine blk_drew ?_ | refine blk_alloc ?_ _)); exact BK173.out)) : gb173 ≠ gb174)); have n6_ := Aside0.mk ((by rw [hg]; exact Nat.ne_of_gt (blk_lt (g := gb173) (o := .cells #[.int .i64 a0_0, .int .i64 a0_1] 57 (0, 0)) (by (with_reducible repeat (first | refine blk_drewN ?_ _ | refine blk_drew ?_ | refine blk_alloc ?_ _)); exact BK173.out)) : gb174 ≠ gb173)); clear BK173; clear HB; have BK173 := n0_; have HB := n1_; have BK174 := n2_; have GW174 := n3_; have GE174 := n4_; have NB173_174 := n5_; have NB174_173 := n6_; clear n0_ n1_ n2_ n3_ n4_ n5_ n6_; clear hb hbox hg; have hnb4 := NB173_174.out; have hnc4 := NB174_173.out; have hcz5_0 : w3.cell? ⟨gb173, 0, none⟩ = some (.int .i64 a0_0) := (blk_cell BK173.out 0).trans rfl; have hcz5_1 : w3.cell? ⟨gb173, 1, none⟩ = some (.int .i64 a0_1) := (blk_cell BK173.out 1).trans rfl; have hfz5_0 := blk_frozen BK173.out 0; have hfz5_1 := blk_frozen BK173.out 1; have hcz6_0 : w3.cell? ⟨gb174, 0, none⟩ = some (.int .i64 0) := (blk_cell BK174.out 0).trans rfl; have hcz6_1 : w3.cell? ⟨gb174, 1, none⟩ = some (.int .i64 0) := (blk_cell BK174.out 1).trans rfl; have hfz6_0 := blk_frozen BK174.out 0; have hfz6_1 := blk_frozen BK174.out 1))
  refine bodyPost_ret (results_cell_row rfl _ _ gb174 88 #[.int .i64 a0_0, .int .i64 a0_1] (0, 0) _ rfl (by (with_reducible repeat (first | refine blk_drewN ?_ _ | refine blk_drew ?_ | refine blk_alloc ?_ _)); refine blk_put (cs := #[.int .i64 a0_0, .int .i64 0]) ?_ 1 _ rfl; (with_reducible repeat (first | refine blk_drewN ?_ _ | refine blk_drew ?_ | refine blk_alloc ?_ _)); refine blk_put (cs := #[.int .i64 0, .int .i64 0]) ?_ 0 _ rfl; (with_reducible repeat (first | refine blk_drewN ?_ _ | refine blk_drew ?_ | refine blk_alloc ?_ _)); exact BK174.out) Try.underlying88 rfl (by kernel_rfl)) rfl ?_
  exact ⟨by first | rfl | (simp [errW_none, errW_some] <;> rfl) | (simp [*, errW_none, errW_some] <;> rfl), by repeat (first | (with_reducible first | exact HB.out | apply below_alloc | apply pw_below_drewN | apply below_drew1 | refine below_set ?_ GE173.out | refine below_set ?_ GE174.out) | exact HB.out)⟩
mutual
def pivot_In.j0 : Nat → List (S57) → List Int → Bool → Option (Bool)
  | 0, _, _, _ => none
  | k + 1, x0, x1, x16 => if x16 = true then (some false) else (pivot_In.l0 k x1 x0 (x0.length : Int) 0)
def pivot_In.l0 : Nat → List Int → List (S57) → Int → Int → Option (Bool)
  | 0, _, _, _, _ => none
  | k + 1, x1, x17, x18, x19 => if x19 < x18 then (if 0 ≤ x19 then (if x19 < (x17.length : Int) then ((pivot_of.f ((rd_T57 x17 x19).f0) ((rd_T57 x17 x19).f1)).bind fun bt178 => (if x19 < (x1.length : Int) then ((pivot_pair_int_has.f bt178.1 bt178.2 (rd x1 x19)).bind fun t181 => (if t181 = true then (pivot_In.l0 k x1 x17 x18 (wrap64 (x19 + 1))) else (some false))) else (none))) else (none)) else (none)) else (some true)
end
def pivot_In.f (k : Nat) (l0 : List (S57)) (l1 : List Int) : Option (Bool) := (pivot_Valid.f k l0).bind fun t175 => (if t175 = true then (pivot_In.j0 k l0 l1 ((l1.length : Int) != (l0.length : Int))) else (pivot_In.j0 k l0 l1 true))
theorem pivot_In.mono_l : ∀ k, (∀ y0 y1 y2, LeO (pivot_In.j0 k y0 y1 y2) (pivot_In.j0 (k + 1) y0 y1 y2)) ∧ (∀ y0 y1 y2 y3, LeO (pivot_In.l0 k y0 y1 y2 y3) (pivot_In.l0 (k + 1) y0 y1 y2 y3))
  | 0 => ⟨fun _ _ _ r h => by simp [pivot_In.j0] at h, fun _ _ _ _ r h => by simp [pivot_In.l0] at h⟩
  | k + 1 => by
    obtain ⟨ih0, ih1⟩ := pivot_In.mono_l k
    refine ⟨?_, ?_⟩
    · intro y0 y1 y2
      unfold pivot_In.j0
      repeat' first
      | (with_reducible exact ih0 _ _ _)
      | (with_reducible exact ih1 _ _ _ _)
      | (with_reducible exact pivot_Valid.mono _ _)
      | (with_reducible exact LeO.refl _)
      | (with_reducible exact LeO.none _)
      | (with_reducible refine LeO.ite ?_ ?_)
      | (with_reducible refine LeO.bind ?_ (fun _ => ?_))
      | exact ih0 _ _ _
      | exact ih1 _ _ _ _
      | exact pivot_Valid.mono _ _
      | exact LeO.none _
      | refine LeO.ite ?_ ?_
      | refine LeO.bind ?_ (fun _ => ?_)
    · intro y0 y1 y2 y3
      unfold pivot_In.l0
      repeat' first
      | (with_reducible exact ih0 _ _ _)
      | (with_reducible exact ih1 _ _ _ _)
      | (with_reducible exact pivot_Valid.mono _ _)
      | (with_reducible exact LeO.refl _)
      | (with_reducible exact LeO.none _)
      | (with_reducible refine LeO.ite ?_ ?_)
      | (with_reducible refine LeO.bind ?_ (fun _ => ?_))
      | exact ih0 _ _ _
      | exact ih1 _ _ _ _
      | exact pivot_Valid.mono _ _
      | exact LeO.none _
      | refine LeO.ite ?_ ?_
      | refine LeO.bind ?_ (fun _ => ?_)
theorem pivot_In.mono : ∀ a0 a1 k, LeO (pivot_In.f k a0 a1) (pivot_In.f (k + 1) a0 a1) := by
  intro a0 a1 k
  obtain ⟨ih0, ih1⟩ := pivot_In.mono_l k
  unfold pivot_In.f
  repeat' first
      | (with_reducible exact ih0 _ _ _)
      | (with_reducible exact ih1 _ _ _ _)
      | (with_reducible exact pivot_Valid.mono _ _)
      | (with_reducible exact LeO.refl _)
      | (with_reducible exact LeO.none _)
      | (with_reducible refine LeO.ite ?_ ?_)
      | (with_reducible refine LeO.bind ?_ (fun _ => ?_))
      | exact ih0 _ _ _
      | exact ih1 _ _ _ _
      | exact pivot_Valid.mono _ _
      | exact LeO.none _
      | refine LeO.ite ?_ ?_
      | refine LeO.bind ?_ (fun _ => ?_)
def pivot_In.T6 : Bool × List (List Nat × List Nat) := (true, [([], []), ([0], [0]), ([], []), ([], []), ([2, 3], [2, 3]), ([4], [4]), ([1, 5, 1], [1, 5]), ([6], [6])])
def pivot_In.B6 : List Nat := [0, 1, 0, 0, 12, 28, 63, 127]
theorem pivot_In.tab6 : rtab .any (opsOf Try.f28 6) = pivot_In.T6 := by kernel_rfl
theorem pivot_In.bits6 : waitsOk pivot_In.T6.2 pivot_In.B6 = true := by kernel_rfl
set_option maxHeartbeats 8000000 in
set_option maxRecDepth 100000 in
theorem pivot_In.calls (k : Nat) (A0 : Option Addr) (c0 : Nat) (l0 : List (S57)) (A1 : Option Addr) (c1 : Nat) (l1 : List Int) (r : Bool) (w : World) (hr0 : Kd.C k57 w A0 l0.length l0) (hc0 : l0.length ≤ c0) (hr1 : Kd.C (Kd.int .i64) w A1 l1.length l1) (hc1 : l1.length ≤ c1) (h : pivot_In.f k l0 l1 = some r) :
    Calls Try.prog 28 #[.slice A0 l0.length c0, .slice A1 l1.length c1] w fun e w' => e = .returned (.bool r) ∧ Below w.heap.size w w' := by
  have hu57 := Try.underlying57
  have HR0 := Aside0.mk hr0
  have HC0 := Aside0.mk hc0
  clear hr0 hc0
  have HR1 := Aside0.mk hr1
  have HC1 := Aside0.mk hc1
  clear hr1 hc1
  have HB := Aside0.mk (Below.refl w.heap.size w)
  have H : ((pivot_Valid.f k l0).bind fun t175 => (if t175 = true then (pivot_In.j0 k l0 l1 ((l1.length : Int) != (l0.length : Int))) else (pivot_In.j0 k l0 l1 true))) = some r := h
  clear h
  have HC3 := Aside0.mk H
  clear H
  go_enter Try.func28, Try.ntmps28
  go_upto_region 1 with (fail)
  go_cut [16] (fun v16 wc => ∃ (kq : Nat) (x16_2 : Bool), v16 = .bool x16_2 ∧ Aside0 (pivot_In.j0 kq l0 l1 x16_2 = some r) ∧ Aside0 (kq ≤ k) ∧ Aside0 (Below w.heap.size w wc))
  case first =>
    have H := HC3.out
    clear HC3
    replace H := Option.bind_eq_some_iff.mp H
    obtain ⟨t175, A40, H⟩ := H
    replace H : (if t175 = true then (pivot_In.j0 k l0 l1 ((l1.length : Int) != (l0.length : Int))) else (pivot_In.j0 k l0 l1 true)) = some r := H
    have A4 := Aside0.mk A40
    clear A40
    by_cases c5 : t175 = true
    · subst c5
      have H1 : (pivot_In.j0 k l0 l1 ((l1.length : Int) != (l0.length : Int))) = some r := by rw [if_pos rfl] at H; exact H
      clear H
      have H := H1
      clear H1
      have H' := Aside0.mk H
      clear H
      go_wp2_with (first | ((with_reducible refine gate_callee (f := 24) rfl ?_); refine goesL_ (some 8) rfl rfl Try.func24 (by kernel_rfl) rfl #[.slice A0 l0.length c0] rfl (by (try simp only [List.map_toArray, List.map_cons, List.map_nil]); first | done | rfl | (simp only [List.length_drop, List.length_take]; rfl)) ?_; (with_reducible refine (pivot_Valid.calls k _ _ l0 true _ ?side1 ?side2 A4.out).mono ?_); (case side1 => repeat (first | exact (Kd.C_below HR0.out HB.out) | (with_reducible refine Kd.C_alloc ?_ _) | (with_reducible refine Kd.C_drewN ?_ _) | (with_reducible refine Kd.C_drew ?_))); (case side2 => exact HC0.out); rintro e w6 ⟨rfl, hb⟩; refine ⟨_, rfl, ?_⟩; have n0_ := Aside0.mk (below_step (by repeat (first | (with_reducible first | exact HB.out | apply below_alloc | apply pw_below_drewN | apply below_drew1) | exact HB.out)) hb); clear HB; have HB := n0_; clear n0_; (try clear hb); (try clear hb2); (try clear hk); (try clear hi)))
      go_meet
      case rel => exact ⟨_, (((l1.length : Int) != (l0.length : Int))), (by first | rfl | (simp; done) | (simp [*]; done)), H', ⟨by first | omega | exact Nat.le_refl _⟩, ⟨by repeat (first | (with_reducible first | exact HB.out | apply below_alloc | apply pw_below_drewN | apply below_drew1) | exact HB.out)⟩⟩
    · replace c5 := Bool.eq_false_iff.mpr c5
      subst c5
      have H1 : (pivot_In.j0 k l0 l1 true) = some r := by rw [if_neg (show ¬ (false = true) by decide)] at H; exact H
      clear H
      have H := H1
      clear H1
      have H' := Aside0.mk H
      clear H
      go_wp2_with (first | ((with_reducible refine gate_callee (f := 24) rfl ?_); refine goesL_ (some 8) rfl rfl Try.func24 (by kernel_rfl) rfl #[.slice A0 l0.length c0] rfl (by (try simp only [List.map_toArray, List.map_cons, List.map_nil]); first | done | rfl | (simp only [List.length_drop, List.length_take]; rfl)) ?_; (with_reducible refine (pivot_Valid.calls k _ _ l0 false _ ?side1 ?side2 A4.out).mono ?_); (case side1 => repeat (first | exact (Kd.C_below HR0.out HB.out) | (with_reducible refine Kd.C_alloc ?_ _) | (with_reducible refine Kd.C_drewN ?_ _) | (with_reducible refine Kd.C_drew ?_))); (case side2 => exact HC0.out); rintro e w7 ⟨rfl, hb⟩; refine ⟨_, rfl, ?_⟩; have n0_ := Aside0.mk (below_step (by repeat (first | (with_reducible first | exact HB.out | apply below_alloc | apply pw_below_drewN | apply below_drew1) | exact HB.out)) hb); clear HB; have HB := n0_; clear n0_; (try clear hb); (try clear hb2); (try clear hk); (try clear hi)))
      go_meet
      case rel => exact ⟨_, (true), (by first | rfl | (simp; done) | (simp [*]; done)), H', ⟨by first | omega | exact Nat.le_refl _⟩, ⟨by repeat (first | (with_reducible first | exact HB.out | apply below_alloc | apply pw_below_drewN | apply below_drew1) | exact HB.out)⟩⟩
  case rest =>
    clear HC3
    try clear c1
    try clear c2
    try clear p2
    try clear c5
    obtain ⟨kq, x16_2, rfl, HA, HJ2, HB⟩ := hcut
    cases kq with
    | zero => exact absurd HA.out (by simp [pivot_In.j0])
    | succ kj2 =>
      have H := HA.out
      clear HA
      simp only [pivot_In.j0] at H
      by_cases c8 : x16_2 = true
      · subst c8
        have H1 : (some false) = some r := by rw [if_pos rfl] at H; exact H
        clear H
        have H := H1
        clear H1
        obtain rfl := Option.some.inj H
        go_wp2
        go_ret
        exact ⟨by first | rfl | (simp [errW_none, errW_some] <;> rfl) | (simp [*, errW_none, errW_some] <;> rfl), by repeat (first | (with_reducible first | exact HB.out | apply below_alloc | apply pw_below_drewN | apply below_drew1) | exact HB.out)⟩
      · replace c8 := Bool.eq_false_iff.mpr c8
        subst c8
        have H1 : (pivot_In.l0 kj2 l1 l0 (l0.length : Int) 0) = some r := by rw [if_neg (show ¬ (false = true) by decide)] at H; exact H
        clear H
        have H := H1
        clear H1
        have H' := Aside0.mk H
        clear H
        go_wp2
        go_loopg [19] kj2 (fun kq v19 w' => ∃ (x19_2 : Int), v19 = .int .i64 x19_2 ∧ Aside0 (pivot_In.l0 kq l1 l0 (l0.length : Int) x19_2 = some r) ∧ Aside0 (kq ≤ kj2) ∧ Aside0 (Below w.heap.size w w'))
        case atStart => exact ⟨(0), (by first | rfl | (simp; done) | (simp [*]; done)), H', ⟨Nat.le_refl _⟩, ⟨by repeat (first | (with_reducible first | exact HB.out | apply below_alloc | apply pw_below_drewN | apply below_drew1) | exact HB.out)⟩⟩
        case round =>
          clear H'
          try clear c1
          try clear c2
          try clear p2
          try clear c5
          try clear c8
          try clear p2
          obtain ⟨x19_2, rfl, HA, HK2, HB⟩ := hrel
          cases gk with
          | zero => exact absurd HA.out (by simp [pivot_In.l0])
          | succ k2 =>
            have H := HA.out
            clear HA
            simp only [pivot_In.l0] at H
            by_cases c9 : x19_2 < (l0.length : Int)
            · rw [if_pos c9] at H
              have c9b0 : decide (x19_2 < (l0.length : Int)) = true := decide_eq_true c9
              clear c9
              by_cases c10 : 0 ≤ x19_2
              · rw [if_pos c10] at H
                have c10b0 : decide (0 ≤ x19_2) = true := decide_eq_true c10
                clear c10
                by_cases c11 : x19_2 < (l0.length : Int)
                · rw [if_pos c11] at H
                  have c11b0 : decide (x19_2 < (l0.length : Int)) = true := decide_eq_true c11
                  clear c11
                  replace H := Option.bind_eq_some_iff.mp H
                  obtain ⟨⟨t178, t179⟩, A120, H⟩ := H
                  replace H : (if x19_2 < (l1.length : Int) then ((pivot_pair_int_has.f t178 t179 (rd l1 x19_2)).bind fun t181 => (if t181 = true then (pivot_In.l0 k2 l1 l0 (l0.length : Int) (wrap64 (x19_2 + 1))) else (some false))) else (none)) = some r := H
                  have A12 := Aside0.mk A120
                  clear A120
                  by_cases c13 : x19_2 < (l1.length : Int)
                  · rw [if_pos c13] at H
                    have c13b0 : decide (x19_2 < (l1.length : Int)) = true := decide_eq_true c13
                    clear c13
                    replace H := Option.bind_eq_some_iff.mp H
                    obtain ⟨t181, A140, H⟩ := H
                    replace H : (if t181 = true then (pivot_In.l0 k2 l1 l0 (l0.length : Int) (wrap64 (x19_2 + 1))) else (some false)) = some r := H
                    have A14 := Aside0.mk A140
                    clear A140
                    by_cases c15 : t181 = true
                    · subst c15
                      have H1 : (pivot_In.l0 k2 l1 l0 (l0.length : Int) (wrap64 (x19_2 + 1))) = some r := by rw [if_pos rfl] at H; exact H
                      clear H
                      have H := H1
                      clear H1
                      have H' := Aside0.mk H
                      clear H
                      have p176 : 0 ≤ (x19_2 : Int) := of_decide_eq_true (by first | (with_reducible assumption) | assumption)
                      have q176 : x19_2 < (l0.length : Int) := of_decide_eq_true (by first | (with_reducible assumption) | assumption)
                      obtain ⟨ad176, e176, hx176_0, hx176_1⟩ := at_T57 HR0.out x19_2 p176 q176
                      cases e176
                      replace hx176_0 := (HB.out.cell (World.block_lt_of_cell? w _ hx176_0)).trans hx176_0
                      replace hx176_1 := (HB.out.cell (World.block_lt_of_cell? w _ hx176_1)).trans hx176_1
                      replace p176 := eq_true p176
                      replace q176 := eq_true q176
                      try go_wp2_with (first | ((with_reducible refine gate_dst (N := 6) rfl ?_); (try (refine gate_guard (by rfl) ?_; dsimp only)); refine box_event ?hg (N := 6) ?hd (cs := #[.int .i64 0, .int .i64 0]) (t := 57) ?hr ?_; (case hd => rfl); (case hg => rfl); (case hr => first | (go_simp; done) | (go_simp; rfl)); intro gb177 hg w16 hbox hb; have n0_ := Aside0.mk (below_step (by repeat (first | (with_reducible first | exact HB.out | apply below_alloc | apply pw_below_drewN | apply below_drew1) | exact HB.out)) hb); have n1_ := Aside0.mk (hbox); have n2_ := Aside0.mk ((by rw [hg]; exact (below_size (by repeat (first | (with_reducible first | exact HB.out | apply below_alloc | apply pw_below_drewN | apply below_drew1) | exact HB.out))) : w.heap.size ≤ gb177)); have n3_ := Aside0.mk ((by rw [hg]; exact (below_size (by repeat (first | (with_reducible first | exact HB.out | apply below_alloc | apply pw_below_drewN | apply below_drew1) | exact HB.out))) : w.heap.size ≤ gb177)); clear HB; have HB := n0_; have BK177 := n1_; have GW177 := n2_; have GE177 := n3_; clear n0_ n1_ n2_ n3_; clear hb hbox hg; have hcz17_0 : w16.cell? ⟨gb177, 0, none⟩ = some (.int .i64 0) := (blk_cell BK177.out 0).trans rfl; have hcz17_1 : w16.cell? ⟨gb177, 1, none⟩ = some (.int .i64 0) := (blk_cell BK177.out 1).trans rfl; have hfz17_0 := blk_frozen BK177.out 0; have hfz17_1 := blk_frozen BK177.out 1))
                      have n0_ : Aside0 (((w16.setCell ⟨gb177, 0, none⟩ (.int .i64 ((rd_T57 l0 x19_2).f0))).setCell ⟨gb177, 1, none⟩ (.int .i64 ((rd_T57 l0 x19_2).f1))).heap[gb177]? = some (.cells #[.int .i64 ((rd_T57 l0 x19_2).f0), .int .i64 ((rd_T57 l0 x19_2).f1)] 57 (0, 0))) := ⟨by (with_reducible repeat (first | refine blk_drewN ?_ _ | refine blk_drew ?_ | refine blk_alloc ?_ _)); refine blk_put (cs := #[.int .i64 ((rd_T57 l0 x19_2).f0), .int .i64 0]) ?_ 1 _ rfl; (with_reducible repeat (first | refine blk_drewN ?_ _ | refine blk_drew ?_ | refine blk_alloc ?_ _)); refine blk_put (cs := #[.int .i64 0, .int .i64 0]) ?_ 0 _ rfl; (with_reducible repeat (first | refine blk_drewN ?_ _ | refine blk_drew ?_ | refine blk_alloc ?_ _)); exact BK177.out⟩
                      have n1_ : Aside0 (Below w.heap.size w ((w16.setCell ⟨gb177, 0, none⟩ (.int .i64 ((rd_T57 l0 x19_2).f0))).setCell ⟨gb177, 1, none⟩ (.int .i64 ((rd_T57 l0 x19_2).f1)))) := ⟨by repeat (first | (with_reducible first | exact HB.out | apply below_alloc | apply pw_below_drewN | apply below_drew1 | refine below_set ?_ GE177.out) | exact HB.out)⟩
                      (try clear BK177)
                      (try clear HB)
                      generalize ((w16.setCell ⟨gb177, 0, none⟩ (.int .i64 ((rd_T57 l0 x19_2).f0))).setCell ⟨gb177, 1, none⟩ (.int .i64 ((rd_T57 l0 x19_2).f1))) = w18 at n0_ n1_ ⊢
                      have BK177 := n0_
                      have HB := n1_
                      clear n0_ n1_
                      have n0_ := Aside0.mk (blk_drew BK177.out)
                      have n1_ := Aside0.mk (below_drew1 HB.out)
                      clear BK177
                      clear HB
                      have BK177 := n0_
                      have HB := n1_
                      clear n0_ n1_
                      have p180 : 0 ≤ (x19_2 : Int) := of_decide_eq_true (by first | (with_reducible assumption) | assumption)
                      have q180 : x19_2 < (l1.length : Int) := of_decide_eq_true (by first | (with_reducible assumption) | assumption)
                      obtain ⟨ad180, e180, hx180_0⟩ := Kd.at_int HR1.out x19_2 p180 q180
                      have hw180_0 := hx180_0
                      cases e180
                      replace hx180_0 := (HB.out.cell (World.block_lt_of_cell? w _ hx180_0)).trans hx180_0
                      replace p180 := eq_true p180
                      replace q180 := eq_true q180
                      refine start_ (n := 8) (S := fun w' => w'.cell? ⟨gb177, 0, none⟩ = some (.int .i64 ((rd_T57 l0 x19_2).f0)) ∧ w'.cell? ⟨gb177, 1, none⟩ = some (.int .i64 ((rd_T57 l0 x19_2).f1)) ∧ w'.cell? (ad180.add (x19_2).toNat) = some (.int .i64 (rd l1 x19_2))) (ds := []) #[false, false, false, false, false, false, false, false] (by kernel_rfl) rfl rfl ⟨(blk_cell BK177.out 0).trans rfl, (blk_cell BK177.out 1).trans rfl, ((HB.out.cell (World.block_lt_of_cell? w _ hw180_0)).trans hw180_0)⟩ (fun hHeld => ?_); refine with_tabW pivot_In.tab6 pivot_In.bits6 (fun HT_ HW_ => ?_)
                      generalize w18.drew = w19 at BK177 HB hx180_0 hHeld ⊢
                      refine pure_ (i := 2) (N := some 26) (v := ?_) (a' := ?_) #[false, false, true, false, false, false, false, false] rfl rfl (any_of HT_.out (by kernel_rfl)) (fun _ _ _ h => h) (Or.inl ⟨by rfl, ?_⟩) ?_ ?_
                      rotate_left
                      · intro w'
                        go_simp
                        with_reducible rfl
                      rotate_left
                      · simp only [Act.put, List.setIfInBounds_toArray, List.set_cons_zero, List.set_cons_succ, i64_w, i32_w]
                        rfl
                      refine pure_ (i := 3) (N := some 27) (v := ?_) (a' := ?_) #[false, false, true, true, false, false, false, false] rfl rfl (any_of HT_.out (by kernel_rfl)) (fun _ _ _ h => h) (Or.inl ⟨by rfl, ?_⟩) ?_ ?_
                      rotate_left
                      · intro w'
                        go_simp
                        with_reducible rfl
                      rotate_left
                      · simp only [Act.put, List.setIfInBounds_toArray, List.set_cons_zero, List.set_cons_succ, i64_w, i32_w]
                        rfl
                      refine pure_ (i := 4) (N := some 28) (v := ?_) (a' := ?_) #[false, false, true, true, true, false, false, false] rfl rfl (any_of HT_.out (by kernel_rfl)) (fun _ _ _ h => h) (Or.inl ⟨by rfl, ?_⟩) ?_ ?_
                      rotate_left
                      · intro w'
                        go_simp
                        with_reducible rfl
                      rotate_left
                      · simp only [Act.put, List.setIfInBounds_toArray, List.set_cons_zero, List.set_cons_succ, i64_w, i32_w]
                        rfl
                      refine take_ (i := 0) (N := some 24) (v := ?_) (a' := ?_) #[true, false, true, true, true, false, false, false] rfl rfl (take_ofW HT_.out HW_.out (by kernel_rfl)) (fun _ _ _ h => h) (Or.inl ⟨by rfl, ?_⟩) hHeld ?_ ?_
                      rotate_left
                      · rintro w' ⟨s0, s1, s2⟩
                        go_simp
                        with_reducible rfl
                      rotate_left
                      · simp only [Act.put, List.setIfInBounds_toArray, List.set_cons_zero, List.set_cons_succ, i64_w, i32_w]
                        rfl
                      refine take_ (i := 5) (N := some 29) (v := ?_) (a' := ?_) #[true, false, true, true, true, true, false, false] rfl rfl (take_ofW HT_.out HW_.out (by kernel_rfl)) (fun _ _ _ h => h) (Or.inl ⟨by rfl, ?_⟩) hHeld ?_ ?_
                      rotate_left
                      · rintro w' ⟨s0, s1, s2⟩
                        go_simp
                        with_reducible rfl
                      rotate_left
                      · simp only [Act.put, List.setIfInBounds_toArray, List.set_cons_zero, List.set_cons_succ, i64_w, i32_w]
                        rfl
                      refine one_ (i := 1) (N := some 25) #[true, true, true, true, true, true, false, false] rfl rfl (one_of HT_.out (by kernel_rfl)) (by decide) (fun K hK => ?_)
                      refine goes_ Try.func65 (by kernel_rfl) rfl #[.agg #[.int .i64 ((rd_T57 l0 x19_2).f0), .int .i64 ((rd_T57 l0 x19_2).f1)]] (by rfl) rfl rfl (by (try simp only [List.map_toArray, List.map_cons, List.map_nil]); first | done | rfl | (simp only [List.length_drop, List.length_take]; rfl)) ?_
                      with_reducible refine (pivot_of.calls ((rd_T57 l0 x19_2).f0) ((rd_T57 l0 x19_2).f1) t178 t179 _ A12.out).mono ?_
                      rintro e w20 ⟨rfl, hb⟩
                      refine ⟨_, rfl, ?_⟩
                      have n0_ := Aside0.mk (blk_below (g := gb177) (o := .cells #[.int .i64 ((rd_T57 l0 x19_2).f0), .int .i64 ((rd_T57 l0 x19_2).f1)] 57 (0, 0)) (by (with_reducible repeat (first | refine blk_drewN ?_ _ | refine blk_drew ?_ | refine blk_alloc ?_ _)); exact BK177.out) hb)
                      have n1_ := Aside0.mk (below_step (by repeat (first | (with_reducible first | exact HB.out | apply below_alloc | apply pw_below_drewN | apply below_drew1 | refine below_set ?_ GE177.out) | exact HB.out)) hb)
                      clear BK177
                      clear HB
                      have BK177 := n0_
                      have HB := n1_
                      clear n0_ n1_
                      (try clear hb)
                      (try clear hb2)
                      (try clear hk)
                      (try clear hi)
                      refine hK.out _ _ ⟨(blk_cell BK177.out 0).trans rfl, (blk_cell BK177.out 1).trans rfl, ((HB.out.cell (World.block_lt_of_cell? w _ hw180_0)).trans hw180_0)⟩ (fun hHeld => ?_)
                      clear hK K
                      refine norm_ (a' := ?_) ?_ ?_
                      rotate_left
                      · show Act.put _ (some 25) _ = _
                        simp only [Act.put, List.setIfInBounds_toArray, List.set_cons_zero, List.set_cons_succ, i64_w, i32_w]
                        rfl
                      refine one_ (i := 6) (N := some 30) #[true, true, true, true, true, true, true, false] rfl rfl (one_of HT_.out (by kernel_rfl)) (by decide) (fun K hK => ?_)
                      refine goes_ Try.func57 (by kernel_rfl) rfl #[.agg #[.int .i64 t178, .int .i64 t179], .int .i64 (rd l1 x19_2)] (by rfl) rfl rfl (by (try simp only [List.map_toArray, List.map_cons, List.map_nil]); first | done | rfl | (simp only [List.length_drop, List.length_take]; rfl)) ?_
                      with_reducible refine (pivot_pair_int_has.calls t178 t179 (rd l1 x19_2) true _ A14.out).mono ?_
                      rintro e w21 ⟨rfl, hb⟩
                      refine ⟨_, rfl, ?_⟩
                      have n0_ := Aside0.mk (blk_below (g := gb177) (o := .cells #[.int .i64 ((rd_T57 l0 x19_2).f0), .int .i64 ((rd_T57 l0 x19_2).f1)] 57 (0, 0)) (by (with_reducible repeat (first | refine blk_drewN ?_ _ | refine blk_drew ?_ | refine blk_alloc ?_ _)); exact BK177.out) hb)
                      have n1_ := Aside0.mk (below_step (by repeat (first | (with_reducible first | exact HB.out | apply below_alloc | apply pw_below_drewN | apply below_drew1 | refine below_set ?_ GE177.out) | exact HB.out)) hb)
                      clear BK177
                      clear HB
                      have BK177 := n0_
                      have HB := n1_
                      clear n0_ n1_
                      (try clear hb)
                      (try clear hb2)
                      (try clear hk)
                      (try clear hi)
                      refine hK.out _ _ ⟨(blk_cell BK177.out 0).trans rfl, (blk_cell BK177.out 1).trans rfl, ((HB.out.cell (World.block_lt_of_cell? w _ hw180_0)).trans hw180_0)⟩ (fun hHeld => ?_)
                      clear hK K
                      refine norm_ (a' := ?_) ?_ ?_
                      rotate_left
                      · show Act.put _ (some 30) _ = _
                        simp only [Act.put, List.setIfInBounds_toArray, List.set_cons_zero, List.set_cons_succ, i64_w, i32_w]
                        rfl
                      refine pure_ (i := 7) (N := some 31) (v := ?_) (a' := ?_) #[true, true, true, true, true, true, true, true] rfl rfl (any_of HT_.out (by kernel_rfl)) (fun _ _ _ h => h) (Or.inl ⟨by rfl, ?_⟩) ?_ ?_
                      rotate_left
                      · intro w'
                        go_simp
                        with_reducible rfl
                      rotate_left
                      · simp only [Act.put, List.setIfInBounds_toArray, List.set_cons_zero, List.set_cons_succ, i64_w, i32_w]
                        rfl
                      refine done_ (done_of HT_.out (by kernel_rfl)) ?_
                      try go_wp2
                      go_roundg k2
                      case measure => have := HJ2.out; have := HK2.out; omega
                      case rel => exact ⟨(wrap64 (x19_2 + 1)), (by first | rfl | (simp; done) | (simp [*]; done)), H', ⟨by have := HJ2.out; have := HK2.out; omega⟩, ⟨by repeat (first | (with_reducible first | exact HB.out | apply below_alloc | apply pw_below_drewN | apply below_drew1 | refine below_set ?_ GE177.out) | exact HB.out)⟩⟩
                    · replace c15 := Bool.eq_false_iff.mpr c15
                      subst c15
                      have H1 : (some false) = some r := by rw [if_neg (show ¬ (false = true) by decide)] at H; exact H
                      clear H
                      have H := H1
                      clear H1
                      obtain rfl := Option.some.inj H
                      have p176 : 0 ≤ (x19_2 : Int) := of_decide_eq_true (by first | (with_reducible assumption) | assumption)
                      have q176 : x19_2 < (l0.length : Int) := of_decide_eq_true (by first | (with_reducible assumption) | assumption)
                      obtain ⟨ad176, e176, hx176_0, hx176_1⟩ := at_T57 HR0.out x19_2 p176 q176
                      cases e176
                      replace hx176_0 := (HB.out.cell (World.block_lt_of_cell? w _ hx176_0)).trans hx176_0
                      replace hx176_1 := (HB.out.cell (World.block_lt_of_cell? w _ hx176_1)).trans hx176_1
                      replace p176 := eq_true p176
                      replace q176 := eq_true q176
                      try go_wp2_with (first | ((with_reducible refine gate_dst (N := 6) rfl ?_); (try (refine gate_guard (by rfl) ?_; dsimp only)); refine box_event ?hg (N := 6) ?hd (cs := #[.int .i64 0, .int .i64 0]) (t := 57) ?hr ?_; (case hd => rfl); (case hg => rfl); (case hr => first | (go_simp; done) | (go_simp; rfl)); intro gb177 hg w22 hbox hb; have n0_ := Aside0.mk (below_step (by repeat (first | (with_reducible first | exact HB.out | apply below_alloc | apply pw_below_drewN | apply below_drew1) | exact HB.out)) hb); have n1_ := Aside0.mk (hbox); have n2_ := Aside0.mk ((by rw [hg]; exact (below_size (by repeat (first | (with_reducible first | exact HB.out | apply below_alloc | apply pw_below_drewN | apply below_drew1) | exact HB.out))) : w.heap.size ≤ gb177)); have n3_ := Aside0.mk ((by rw [hg]; exact (below_size (by repeat (first | (with_reducible first | exact HB.out | apply below_alloc | apply pw_below_drewN | apply below_drew1) | exact HB.out))) : w.heap.size ≤ gb177)); clear HB; have HB := n0_; have BK177 := n1_; have GW177 := n2_; have GE177 := n3_; clear n0_ n1_ n2_ n3_; clear hb hbox hg; have hcz23_0 : w22.cell? ⟨gb177, 0, none⟩ = some (.int .i64 0) := (blk_cell BK177.out 0).trans rfl; have hcz23_1 : w22.cell? ⟨gb177, 1, none⟩ = some (.int .i64 0) := (blk_cell BK177.out 1).trans rfl; have hfz23_0 := blk_frozen BK177.out 0; have hfz23_1 := blk_frozen BK177.out 1))
                      have n0_ : Aside0 (((w22.setCell ⟨gb177, 0, none⟩ (.int .i64 ((rd_T57 l0 x19_2).f0))).setCell ⟨gb177, 1, none⟩ (.int .i64 ((rd_T57 l0 x19_2).f1))).heap[gb177]? = some (.cells #[.int .i64 ((rd_T57 l0 x19_2).f0), .int .i64 ((rd_T57 l0 x19_2).f1)] 57 (0, 0))) := ⟨by (with_reducible repeat (first | refine blk_drewN ?_ _ | refine blk_drew ?_ | refine blk_alloc ?_ _)); refine blk_put (cs := #[.int .i64 ((rd_T57 l0 x19_2).f0), .int .i64 0]) ?_ 1 _ rfl; (with_reducible repeat (first | refine blk_drewN ?_ _ | refine blk_drew ?_ | refine blk_alloc ?_ _)); refine blk_put (cs := #[.int .i64 0, .int .i64 0]) ?_ 0 _ rfl; (with_reducible repeat (first | refine blk_drewN ?_ _ | refine blk_drew ?_ | refine blk_alloc ?_ _)); exact BK177.out⟩
                      have n1_ : Aside0 (Below w.heap.size w ((w22.setCell ⟨gb177, 0, none⟩ (.int .i64 ((rd_T57 l0 x19_2).f0))).setCell ⟨gb177, 1, none⟩ (.int .i64 ((rd_T57 l0 x19_2).f1)))) := ⟨by repeat (first | (with_reducible first | exact HB.out | apply below_alloc | apply pw_below_drewN | apply below_drew1 | refine below_set ?_ GE177.out) | exact HB.out)⟩
                      (try clear BK177)
                      (try clear HB)
                      generalize ((w22.setCell ⟨gb177, 0, none⟩ (.int .i64 ((rd_T57 l0 x19_2).f0))).setCell ⟨gb177, 1, none⟩ (.int .i64 ((rd_T57 l0 x19_2).f1))) = w24 at n0_ n1_ ⊢
                      have BK177 := n0_
                      have HB := n1_
                      clear n0_ n1_
                      have n0_ := Aside0.mk (blk_drew BK177.out)
                      have n1_ := Aside0.mk (below_drew1 HB.out)
                      clear BK177
                      clear HB
                      have BK177 := n0_
                      have HB := n1_
                      clear n0_ n1_
                      have p180 : 0 ≤ (x19_2 : Int) := of_decide_eq_true (by first | (with_reducible assumption) | assumption)
                      have q180 : x19_2 < (l1.length : Int) := of_decide_eq_true (by first | (with_reducible assumption) | assumption)
                      obtain ⟨ad180, e180, hx180_0⟩ := Kd.at_int HR1.out x19_2 p180 q180
                      have hw180_0 := hx180_0
                      cases e180
                      replace hx180_0 := (HB.out.cell (World.block_lt_of_cell? w _ hx180_0)).trans hx180_0
                      replace p180 := eq_true p180
                      replace q180 := eq_true q180
                      refine start_ (n := 8) (S := fun w' => w'.cell? ⟨gb177, 0, none⟩ = some (.int .i64 ((rd_T57 l0 x19_2).f0)) ∧ w'.cell? ⟨gb177, 1, none⟩ = some (.int .i64 ((rd_T57 l0 x19_2).f1)) ∧ w'.cell? (ad180.add (x19_2).toNat) = some (.int .i64 (rd l1 x19_2))) (ds := []) #[false, false, false, false, false, false, false, false] (by kernel_rfl) rfl rfl ⟨(blk_cell BK177.out 0).trans rfl, (blk_cell BK177.out 1).trans rfl, ((HB.out.cell (World.block_lt_of_cell? w _ hw180_0)).trans hw180_0)⟩ (fun hHeld => ?_); refine with_tabW pivot_In.tab6 pivot_In.bits6 (fun HT_ HW_ => ?_)
                      generalize w24.drew = w25 at BK177 HB hx180_0 hHeld ⊢
                      refine pure_ (i := 2) (N := some 26) (v := ?_) (a' := ?_) #[false, false, true, false, false, false, false, false] rfl rfl (any_of HT_.out (by kernel_rfl)) (fun _ _ _ h => h) (Or.inl ⟨by rfl, ?_⟩) ?_ ?_
                      rotate_left
                      · intro w'
                        go_simp
                        with_reducible rfl
                      rotate_left
                      · simp only [Act.put, List.setIfInBounds_toArray, List.set_cons_zero, List.set_cons_succ, i64_w, i32_w]
                        rfl
                      refine pure_ (i := 3) (N := some 27) (v := ?_) (a' := ?_) #[false, false, true, true, false, false, false, false] rfl rfl (any_of HT_.out (by kernel_rfl)) (fun _ _ _ h => h) (Or.inl ⟨by rfl, ?_⟩) ?_ ?_
                      rotate_left
                      · intro w'
                        go_simp
                        with_reducible rfl
                      rotate_left
                      · simp only [Act.put, List.setIfInBounds_toArray, List.set_cons_zero, List.set_cons_succ, i64_w, i32_w]
                        rfl
                      refine pure_ (i := 4) (N := some 28) (v := ?_) (a' := ?_) #[false, false, true, true, true, false, false, false] rfl rfl (any_of HT_.out (by kernel_rfl)) (fun _ _ _ h => h) (Or.inl ⟨by rfl, ?_⟩) ?_ ?_
                      rotate_left
                      · intro w'
                        go_simp
                        with_reducible rfl
                      rotate_left
                      · simp only [Act.put, List.setIfInBounds_toArray, List.set_cons_zero, List.set_cons_succ, i64_w, i32_w]
                        rfl
                      refine take_ (i := 0) (N := some 24) (v := ?_) (a' := ?_) #[true, false, true, true, true, false, false, false] rfl rfl (take_ofW HT_.out HW_.out (by kernel_rfl)) (fun _ _ _ h => h) (Or.inl ⟨by rfl, ?_⟩) hHeld ?_ ?_
                      rotate_left
                      · rintro w' ⟨s0, s1, s2⟩
                        go_simp
                        with_reducible rfl
                      rotate_left
                      · simp only [Act.put, List.setIfInBounds_toArray, List.set_cons_zero, List.set_cons_succ, i64_w, i32_w]
                        rfl
                      refine take_ (i := 5) (N := some 29) (v := ?_) (a' := ?_) #[true, false, true, true, true, true, false, false] rfl rfl (take_ofW HT_.out HW_.out (by kernel_rfl)) (fun _ _ _ h => h) (Or.inl ⟨by rfl, ?_⟩) hHeld ?_ ?_
                      rotate_left
                      · rintro w' ⟨s0, s1, s2⟩
                        go_simp
                        with_reducible rfl
                      rotate_left
                      · simp only [Act.put, List.setIfInBounds_toArray, List.set_cons_zero, List.set_cons_succ, i64_w, i32_w]
                        rfl
                      refine one_ (i := 1) (N := some 25) #[true, true, true, true, true, true, false, false] rfl rfl (one_of HT_.out (by kernel_rfl)) (by decide) (fun K hK => ?_)
                      refine goes_ Try.func65 (by kernel_rfl) rfl #[.agg #[.int .i64 ((rd_T57 l0 x19_2).f0), .int .i64 ((rd_T57 l0 x19_2).f1)]] (by rfl) rfl rfl (by (try simp only [List.map_toArray, List.map_cons, List.map_nil]); first | done | rfl | (simp only [List.length_drop, List.length_take]; rfl)) ?_
                      with_reducible refine (pivot_of.calls ((rd_T57 l0 x19_2).f0) ((rd_T57 l0 x19_2).f1) t178 t179 _ A12.out).mono ?_
                      rintro e w26 ⟨rfl, hb⟩
                      refine ⟨_, rfl, ?_⟩
                      have n0_ := Aside0.mk (blk_below (g := gb177) (o := .cells #[.int .i64 ((rd_T57 l0 x19_2).f0), .int .i64 ((rd_T57 l0 x19_2).f1)] 57 (0, 0)) (by (with_reducible repeat (first | refine blk_drewN ?_ _ | refine blk_drew ?_ | refine blk_alloc ?_ _)); exact BK177.out) hb)
                      have n1_ := Aside0.mk (below_step (by repeat (first | (with_reducible first | exact HB.out | apply below_alloc | apply pw_below_drewN | apply below_drew1 | refine below_set ?_ GE177.out) | exact HB.out)) hb)
                      clear BK177
                      clear HB
                      have BK177 := n0_
                      have HB := n1_
                      clear n0_ n1_
                      (try clear hb)
                      (try clear hb2)
                      (try clear hk)
                      (try clear hi)
                      refine hK.out _ _ ⟨(blk_cell BK177.out 0).trans rfl, (blk_cell BK177.out 1).trans rfl, ((HB.out.cell (World.block_lt_of_cell? w _ hw180_0)).trans hw180_0)⟩ (fun hHeld => ?_)
                      clear hK K
                      refine norm_ (a' := ?_) ?_ ?_
                      rotate_left
                      · show Act.put _ (some 25) _ = _
                        simp only [Act.put, List.setIfInBounds_toArray, List.set_cons_zero, List.set_cons_succ, i64_w, i32_w]
                        rfl
                      refine one_ (i := 6) (N := some 30) #[true, true, true, true, true, true, true, false] rfl rfl (one_of HT_.out (by kernel_rfl)) (by decide) (fun K hK => ?_)
                      refine goes_ Try.func57 (by kernel_rfl) rfl #[.agg #[.int .i64 t178, .int .i64 t179], .int .i64 (rd l1 x19_2)] (by rfl) rfl rfl (by (try simp only [List.map_toArray, List.map_cons, List.map_nil]); first | done | rfl | (simp only [List.length_drop, List.length_take]; rfl)) ?_
                      with_reducible refine (pivot_pair_int_has.calls t178 t179 (rd l1 x19_2) false _ A14.out).mono ?_
                      rintro e w27 ⟨rfl, hb⟩
                      refine ⟨_, rfl, ?_⟩
                      have n0_ := Aside0.mk (blk_below (g := gb177) (o := .cells #[.int .i64 ((rd_T57 l0 x19_2).f0), .int .i64 ((rd_T57 l0 x19_2).f1)] 57 (0, 0)) (by (with_reducible repeat (first | refine blk_drewN ?_ _ | refine blk_drew ?_ | refine blk_alloc ?_ _)); exact BK177.out) hb)
                      have n1_ := Aside0.mk (below_step (by repeat (first | (with_reducible first | exact HB.out | apply below_alloc | apply pw_below_drewN | apply below_drew1 | refine below_set ?_ GE177.out) | exact HB.out)) hb)
                      clear BK177
                      clear HB
                      have BK177 := n0_
                      have HB := n1_
                      clear n0_ n1_
                      (try clear hb)
                      (try clear hb2)
                      (try clear hk)
                      (try clear hi)
                      refine hK.out _ _ ⟨(blk_cell BK177.out 0).trans rfl, (blk_cell BK177.out 1).trans rfl, ((HB.out.cell (World.block_lt_of_cell? w _ hw180_0)).trans hw180_0)⟩ (fun hHeld => ?_)
                      clear hK K
                      refine norm_ (a' := ?_) ?_ ?_
                      rotate_left
                      · show Act.put _ (some 30) _ = _
                        simp only [Act.put, List.setIfInBounds_toArray, List.set_cons_zero, List.set_cons_succ, i64_w, i32_w]
                        rfl
                      refine pure_ (i := 7) (N := some 31) (v := ?_) (a' := ?_) #[true, true, true, true, true, true, true, true] rfl rfl (any_of HT_.out (by kernel_rfl)) (fun _ _ _ h => h) (Or.inl ⟨by rfl, ?_⟩) ?_ ?_
                      rotate_left
                      · intro w'
                        go_simp
                        with_reducible rfl
                      rotate_left
                      · simp only [Act.put, List.setIfInBounds_toArray, List.set_cons_zero, List.set_cons_succ, i64_w, i32_w]
                        rfl
                      refine done_ (done_of HT_.out (by kernel_rfl)) ?_
                      try go_wp2
                      go_ret
                      exact ⟨by first | rfl | (simp [errW_none, errW_some] <;> rfl) | (simp [*, errW_none, errW_some] <;> rfl), by repeat (first | (with_reducible first | exact HB.out | apply below_alloc | apply pw_below_drewN | apply below_drew1 | refine below_set ?_ GE177.out) | exact HB.out)⟩
                  · rw [if_neg c13] at H
                    exact absurd H (by simp)
                · rw [if_neg c11] at H
                  exact absurd H (by simp)
              · rw [if_neg c10] at H
                exact absurd H (by simp)
            · rw [if_neg c9] at H
              have c9b0 : decide (x19_2 < (l0.length : Int)) = false := decide_eq_false c9
              clear c9
              obtain rfl := Option.some.inj H
              go_wp2
              go_ret
              exact ⟨by first | rfl | (simp [errW_none, errW_some] <;> rfl) | (simp [*, errW_none, errW_some] <;> rfl), by repeat (first | (with_reducible first | exact HB.out | apply below_alloc | apply pw_below_drewN | apply below_drew1) | exact HB.out)⟩
def antiquaryref09_SameShells.l0 : Nat → List (S57) → List (S57) → Int → Option (Bool)
  | 0, _, _, _ => none
  | k + 1, x0, x1, x5 => if x5 < (x0.length : Int) then (if 0 ≤ x5 then (if x5 < (x1.length : Int) then (if (!(((rd_T57 x0 x5).f0) == ((rd_T57 x1 x5).f0)) || (!(((rd_T57 x0 x5).f1) == ((rd_T57 x1 x5).f1)))) = true then (some false) else (antiquaryref09_SameShells.l0 k x0 x1 (wrap64 (x5 + 1)))) else (none)) else (none)) else (some true)
def antiquaryref09_SameShells.f (k : Nat) (l0 : List (S57)) (l1 : List (S57)) : Option (Bool) := if (l0.length : Int) = (l1.length : Int) then (antiquaryref09_SameShells.l0 k l0 l1 0) else (some false)
theorem antiquaryref09_SameShells.mono_l : ∀ k, (∀ y0 y1 y2, LeO (antiquaryref09_SameShells.l0 k y0 y1 y2) (antiquaryref09_SameShells.l0 (k + 1) y0 y1 y2))
  | 0 => fun _ _ _ r h => by simp [antiquaryref09_SameShells.l0] at h
  | k + 1 => by
    have ih0 := antiquaryref09_SameShells.mono_l k
    · intro y0 y1 y2
      unfold antiquaryref09_SameShells.l0
      repeat' first
      | (with_reducible exact ih0 _ _ _)
      | (with_reducible exact LeO.refl _)
      | (with_reducible exact LeO.none _)
      | (with_reducible refine LeO.ite ?_ ?_)
      | (with_reducible refine LeO.bind ?_ (fun _ => ?_))
      | exact ih0 _ _ _
      | exact LeO.none _
      | refine LeO.ite ?_ ?_
      | refine LeO.bind ?_ (fun _ => ?_)
theorem antiquaryref09_SameShells.mono : ∀ a0 a1 k, LeO (antiquaryref09_SameShells.f k a0 a1) (antiquaryref09_SameShells.f (k + 1) a0 a1) := by
  intro a0 a1 k
  have ih0 := antiquaryref09_SameShells.mono_l k
  unfold antiquaryref09_SameShells.f
  repeat' first
      | (with_reducible exact ih0 _ _ _)
      | (with_reducible exact LeO.refl _)
      | (with_reducible exact LeO.none _)
      | (with_reducible refine LeO.ite ?_ ?_)
      | (with_reducible refine LeO.bind ?_ (fun _ => ?_))
      | exact ih0 _ _ _
      | exact LeO.none _
      | refine LeO.ite ?_ ?_
      | refine LeO.bind ?_ (fun _ => ?_)
set_option maxHeartbeats 8000000 in
set_option maxRecDepth 100000 in
theorem antiquaryref09_SameShells.calls (k : Nat) (A0 : Option Addr) (c0 : Nat) (l0 : List (S57)) (A1 : Option Addr) (c1 : Nat) (l1 : List (S57)) (r : Bool) (w : World) (hr0 : Kd.C k57 w A0 l0.length l0) (hc0 : l0.length ≤ c0) (hr1 : Kd.C k57 w A1 l1.length l1) (hc1 : l1.length ≤ c1) (h : antiquaryref09_SameShells.f k l0 l1 = some r) :
    Calls Try.prog 38 #[.slice A0 l0.length c0, .slice A1 l1.length c1] w fun e w' => e = .returned (.bool r) ∧ Drawn0 w w' := by
  have hu57 := Try.underlying57
  have HR0 := Aside0.mk hr0
  have HC0 := Aside0.mk hc0
  clear hr0 hc0
  have HR1 := Aside0.mk hr1
  have HC1 := Aside0.mk hc1
  clear hr1 hc1
  have H : (if (l0.length : Int) = (l1.length : Int) then (antiquaryref09_SameShells.l0 k l0 l1 0) else (some false)) = some r := h
  clear h
  by_cases c3 : (l0.length : Int) = (l1.length : Int)
  · rw [if_pos c3] at H
    have c3b0 : ((l0.length : Int) == (l1.length : Int)) = true := beq_iff_eq.mpr c3
    have c3b1 : ((l0.length : Int) != (l1.length : Int)) = false := bne_eq_false_iff_eq.mpr c3
    have c3b2 : (l0.length == l1.length) = true := by first | simpa using c3 | (simp at c3 ⊢; omega)
    clear c3
    have H' := Aside0.mk H
    clear H
    go_enter Try.func38, Try.ntmps38
    go_wp2
    repeat (go_quiet (fail); try go_wp2)
    go_loopg [5] k (fun kq v5 w' => ∃ (x5_1 : Int), v5 = .int .i64 x5_1 ∧ Aside0 (antiquaryref09_SameShells.l0 kq l0 l1 x5_1 = some r) ∧ Aside0 (kq ≤ k) ∧ Drawn0 w w')
    case atStart => exact ⟨(0), (by first | rfl | (simp; done) | (simp [*]; done)), H', ⟨Nat.le_refl _⟩, by repeat (first | exact Drawn0.refl _ | apply Drawn0.step)⟩
    case round =>
      clear H'
      try clear c1
      try clear p2
      try clear c3
      try clear c3b0
      try clear c3b1
      try clear c3b2
      obtain ⟨x5_1, rfl, HA, HK1, ⟨m1, rfl⟩⟩ := hrel
      cases gk with
      | zero => exact absurd HA.out (by simp [antiquaryref09_SameShells.l0])
      | succ k1 =>
        have H := HA.out
        clear HA
        simp only [antiquaryref09_SameShells.l0] at H
        by_cases c4 : x5_1 < (l0.length : Int)
        · rw [if_pos c4] at H
          have c4b0 : decide (x5_1 < (l0.length : Int)) = true := decide_eq_true c4
          clear c4
          by_cases c5 : 0 ≤ x5_1
          · rw [if_pos c5] at H
            have c5b0 : decide (0 ≤ x5_1) = true := decide_eq_true c5
            clear c5
            by_cases c6 : x5_1 < (l1.length : Int)
            · rw [if_pos c6] at H
              have c6b0 : decide (x5_1 < (l1.length : Int)) = true := decide_eq_true c6
              clear c6
              by_cases c7 : (!(((rd_T57 l0 x5_1).f0) == ((rd_T57 l1 x5_1).f0)) || (!(((rd_T57 l0 x5_1).f1) == ((rd_T57 l1 x5_1).f1)))) = true
              · rw [if_pos c7] at H
                have c7b0 : (!(((rd_T57 l0 x5_1).f0) == ((rd_T57 l1 x5_1).f0)) || (!(((rd_T57 l0 x5_1).f1) == ((rd_T57 l1 x5_1).f1)))) = true := c7
                clear c7
                obtain rfl := Option.some.inj H
                have p182 : 0 ≤ (x5_1 : Int) := of_decide_eq_true (by first | (with_reducible assumption) | assumption)
                have q182 : x5_1 < (l0.length : Int) := of_decide_eq_true (by first | (with_reducible assumption) | assumption)
                obtain ⟨ad182, e182, hx182_0, hx182_1⟩ := at_T57 HR0.out x5_1 p182 q182
                cases e182
                replace p182 := eq_true p182
                replace q182 := eq_true q182
                have p183 : 0 ≤ (x5_1 : Int) := of_decide_eq_true (by first | (with_reducible assumption) | assumption)
                have q183 : x5_1 < (l1.length : Int) := of_decide_eq_true (by first | (with_reducible assumption) | assumption)
                obtain ⟨ad183, e183, hx183_0, hx183_1⟩ := at_T57 HR1.out x5_1 p183 q183
                cases e183
                replace p183 := eq_true p183
                replace q183 := eq_true q183
                go_wp2
                repeat (go_quiet (fail); try go_wp2)
                go_ret
                exact ⟨by first | rfl | (simp; done) | (simp [*]; done), by repeat (first | exact Drawn0.refl _ | apply Drawn0.step)⟩
              · rw [if_neg c7] at H
                have c7b0 : (!(((rd_T57 l0 x5_1).f0) == ((rd_T57 l1 x5_1).f0)) || (!(((rd_T57 l0 x5_1).f1) == ((rd_T57 l1 x5_1).f1)))) = false := by simpa using c7
                clear c7
                have H' := Aside0.mk H
                clear H
                have p182 : 0 ≤ (x5_1 : Int) := of_decide_eq_true (by first | (with_reducible assumption) | assumption)
                have q182 : x5_1 < (l0.length : Int) := of_decide_eq_true (by first | (with_reducible assumption) | assumption)
                obtain ⟨ad182, e182, hx182_0, hx182_1⟩ := at_T57 HR0.out x5_1 p182 q182
                cases e182
                replace p182 := eq_true p182
                replace q182 := eq_true q182
                have p183 : 0 ≤ (x5_1 : Int) := of_decide_eq_true (by first | (with_reducible assumption) | assumption)
                have q183 : x5_1 < (l1.length : Int) := of_decide_eq_true (by first | (with_reducible assumption) | assumption)
                obtain ⟨ad183, e183, hx183_0, hx183_1⟩ := at_T57 HR1.out x5_1 p183 q183
                cases e183
                replace p183 := eq_true p183
                replace q183 := eq_true q183
                go_wp2
                repeat (go_quiet (fail); try go_wp2)
                go_roundg k1
                case measure => have := HK1.out; omega
                case rel => exact ⟨(wrap64 (x5_1 + 1)), (by first | rfl | (simp; done) | (simp [*]; done)), H', ⟨by have := HK1.out; omega⟩, by repeat (first | exact Drawn0.refl _ | apply Drawn0.step)⟩
            · rw [if_neg c6] at H
              exact absurd H (by simp)
          · rw [if_neg c5] at H
            exact absurd H (by simp)
        · rw [if_neg c4] at H
          have c4b0 : decide (x5_1 < (l0.length : Int)) = false := decide_eq_false c4
          clear c4
          obtain rfl := Option.some.inj H
          go_wp2
          repeat (go_quiet (fail); try go_wp2)
          go_ret
          exact ⟨by first | rfl | (simp; done) | (simp [*]; done), by repeat (first | exact Drawn0.refl _ | apply Drawn0.step)⟩
  · rw [if_neg c3] at H
    have c3b0 : ((l0.length : Int) == (l1.length : Int)) = false := beq_eq_false_iff_ne.mpr c3
    have c3b1 : ((l0.length : Int) != (l1.length : Int)) = true := bne_iff_ne.mpr c3
    have c3b2 : (l0.length == l1.length) = false := by first | simpa using c3 | (simp at c3 ⊢; omega)
    obtain rfl := Option.some.inj H
    go_enter Try.func38, Try.ntmps38
    go_wp2
    repeat (go_quiet (fail); try go_wp2)
    go_ret
    exact ⟨by first | rfl | (simp; done) | (simp [*]; done), by repeat (first | exact Drawn0.refl _ | apply Drawn0.step)⟩
end Go.Proofs.Ytoidpkpgeeeggaa.Q
end
