/- A part of the proof of PivotBoundsAsSpecified: what the row's text reaches (packed by a program of this claim out of its texts). -/
import Derived.Test.YtoidpkpgeeeggaaKPivotBoundsAsSpecifiedf
import Derived.Deep.Matrix
import Derived.Deep.SlicePairs
import Derived.ChangeShapes
section
set_option linter.unusedVariables false
namespace Go.Proofs.Ytoidpkpgeeeggaa.EvTab
open Go.RowKit Go.Proofs.Ytoidpkpgeeeggaa.Q Go.Proofs.YtoidpkpgeeeggaaW.PrintWords Plain Go.Proofs.Ytoidpkpgeeeggaa.Near Go
theorem few_ev (l : List (List Int)) (most : Int) (hm : most ≤ 1000) : Ev (fun k => r9_Few.f k l most) (decide ((l.length : Int) ≤ most ∧ ∀ v ∈ l, v.length ≤ 40)) := by
  unfold r9_Few.f
  by_cases h : (l.length : Int) > most
  · exact ev_pos h (ev_some (decide_eq_false (fun h2 => by have := h2.1; omega)).symm)
  refine ev_neg h ?_
  have hall := all_lt l [] (fun v => v.length ≤ 40)
  refine ev_count (G := fun i k => r9_Few.l0 k l (i : Int)) (n := l.length) (fun i => ∀ j, j < i → (l.getD j []).length ≤ 40) (fun j hj => by omega) (fun i hi hI h2 => ?_) (fun hI => ?_)
  · refine ev_succ ?_
    simp only [r9_Few.l0]
    refine ev_pos (by omega) (ev_pos (by omega) ?_)
    rw [show rd_L1 l (i : Int) = l.getD i [] by unfold rd_L1; rw [Int.toNat_natCast]]
    by_cases c : ((l.getD i []).length : Int) > 40
    · exact ev_pos c (ev_some (decide_eq_false (fun h => by have := hall.1 h.2 i hi; omega)).symm)
    · refine ev_neg c ?_
      rw [wsuc i (by omega)]
      refine h2 (fun j hj => ?_)
      rcases Nat.lt_succ_iff_lt_or_eq.1 hj with h1 | rfl
      · exact hI j h1
      · omega
  · refine ev_succ ?_
    simp only [r9_Few.l0]
    refine ev_neg (by omega) (ev_some ?_)
    symm
    rw [decide_eq_true_eq]
    exact ⟨by omega, hall.2 hI⟩
theorem few_of {l : List (List Int)} {most : Int} (hm : most ≤ 1000) (h : (l.length : Int) ≤ most ∧ ∀ v ∈ l, v.length ≤ 40) : pivot_few l := ⟨by omega, fun v hv => by have := h.2 v hv; omega⟩
theorem small_of {l : List (List Int)} (h : pivot_few l) : pivot_smallRows l := ⟨by have := h.1; omega, fun v hv => by have := h.2 v hv; omega⟩
def isPivots (m : Int) (p : List (List Int)) : Prop := (1 ≤ m ∧ m ≤ 3) ∧ pivot_isFit p ∧ p.length ≤ 8
instance (m : Int) (p : List (List Int)) : Decidable (isPivots m p) := by unfold isPivots; infer_instance
theorem pivots_ev (m : Int) {p : List (List Int)} (hp : pivot_few p) : Ev (fun k => r9_Pivots.f k m p) (decide (isPivots m p)) := by
  unfold r9_Pivots.f
  refine ev_ob (ref09_Metric_is m) ?_
  by_cases h1 : 1 ≤ m ∧ m ≤ 3
  · refine ev_pos (by simpa using h1) (ev_bind (ref09_Fit_ev hp) ?_)
    by_cases h2 : pivot_isFit p
    · refine ev_pos (by simpa using h2) (ev_some ?_)
      rw [Bool.eq_iff_iff, decide_eq_true_eq, decide_eq_true_eq]
      exact ⟨fun h => ⟨h1, h2, by omega⟩, fun h => by have := h.2.2; omega⟩
    · exact ev_neg (by simpa using h2) (ev_some (decide_eq_false (fun h => h2 h.2.1)).symm)
  · exact ev_neg (by simpa using h1) (ev_some (decide_eq_false (fun h => h1 h.1)).symm)
theorem row0_fit {l : List (List Int)} (h : pivot_isFit l) : isVec (rowOf l 0) := (h.2.2 _ (rowOf_mem (i := 0) (by have := h.1; omega))).1
theorem both_ev (m : Int) {p l : List (List Int)} (hp : pivot_few p) (hl : pivot_few l) : Ev (fun k => r9_Both.f k m p l) (decide (tabOk m p l)) := by
  unfold r9_Both.f
  refine ev_bind (pivots_ev m hp) ?_
  by_cases h1 : isPivots m p
  · refine ev_pos (by simpa using h1) (ev_bind (ref09_Fit_ev hl) ?_)
    by_cases h2 : pivot_isFit l
    · have a1 := h1.2.1.1
      have a2 := h2.1
      refine ev_pos (by simpa using h2) (ev_pos (by omega) (ev_pos (by omega) (ev_some ?_)))
      rw [show rd_L1 l 0 = rowOf l 0 from rdL_row l 0, show rd_L1 p 0 = rowOf p 0 from rdL_row p 0, Bool.eq_iff_iff, beq_iff_eq, decide_eq_true_eq]
      exact ⟨fun h => ⟨h1, h2, row0_fit h1.2.1, row0_fit h2, by omega⟩, fun (h : tabOk m p l) => by have := h.2.2.2.2; omega⟩
    · exact ev_neg (by simpa using h2) (ev_some (decide_eq_false (fun h => h2 h.2.1)).symm)
  · exact ev_neg (by simpa using h1) (ev_some (decide_eq_false (fun h => h1 h.1)).symm)
theorem rkeys_ev (m : Int) {p : List (List Int)} (hp : p.length ≤ 4096) {v : List Int} (ha : ∀ x ∈ p, alike x v) : Ev (fun k => r9_Keys.f k m p v) (keysOf m p v) := by
  refine ev_cast (ev_count0 (G := fun i k => r9_Keys.l0 k m p v ((List.range i).map (fun j => key m (rowOf p j) v)) (i : Int)) (n := p.length) (r := keysOf m p v) (fun i hi h => ?_) ?_) rfl
  · refine ev_succ ?_
    simp only [r9_Keys.l0]
    refine ev_pos (by omega) (ev_pos (by omega) ?_)
    rw [rdL_row]
    refine ev_bind (R4.key_ev m (ha _ (rowOf_mem hi))) (ev_pos (by simp; omega) ?_)
    rw [wsuc i (by omega)]
    rw [List.range_succ, List.map_append, List.map_singleton] at h
    exact h
  · refine ev_succ ?_
    simp only [r9_Keys.l0]
    exact ev_neg (by omega) (ev_some (map_range_row p (fun q => key m q v)))
theorem map_range_rows {β : Type} (l : List (List Int)) (f : List Int → β) : (List.range l.length).map (fun i => f (rowOf l i)) = l.map f := by
  apply List.ext_getElem
  · simp
  · intro i h1 h2
    simp at h1 h2
    simp [rowOf, List.getD_eq_getElem?_getD, h2]
theorem rtable_ev (m : Int) {p l : List (List Int)} (hp : pivot_few p) (hl : pivot_few l) : Ev (fun k => r9_Table.f k m p l) (if tabOk m p l then (tableOf m p l, 0) else ([], 1)) := by
  unfold r9_Table.f
  refine ev_bind (both_ev m hp hl) ?_
  by_cases h : tabOk m p l
  · rw [if_pos h]
    refine ev_pos (by simpa using h) ?_
    have l1 := hl.1
    refine ev_cast (ev_count0 (G := fun i k => r9_Table.l0 k m p l ((List.range i).map (fun j => keysOf m p (rowOf l j))) (i : Int)) (n := l.length) (r := (tableOf m p l, 0)) (fun i hi h2 => ?_) ?_) rfl
    · refine ev_succ ?_
      simp only [r9_Table.l0]
      refine ev_pos (by omega) (ev_pos (by omega) ?_)
      rw [rdL_row]
      refine ev_bind (rkeys_ev m hp.1 (fun x hx => tabOk_alike h hx (rowOf_mem hi))) (ev_pos (by simp; omega) ?_)
      rw [wsuc i (by omega)]
      rw [List.range_succ, List.map_append, List.map_singleton] at h2
      exact h2
    · refine ev_succ ?_
      simp only [r9_Table.l0]
      refine ev_neg (by omega) (ev_some ?_)
      rw [map_range_rows l (keysOf m p)]; rfl
  · rw [if_neg h]
    exact ev_neg (by simpa using h) (ev_some rfl)
theorem tableOf_length (m : Int) (p l : List (List Int)) : (tableOf m p l).length = l.length := by simp [tableOf]
theorem keysOf_length (m : Int) (p : List (List Int)) (v : List Int) : (keysOf m p v).length = p.length := by simp [keysOf]
theorem row_table {m : Int} {p l : List (List Int)} {i : Nat} (h : i < l.length) : rowOf (tableOf m p l) i = keysOf m p (rowOf l i) := by
  unfold rowOf tableOf; simp [List.getD_eq_getElem?_getD, h]
theorem rshells_ev (m : Int) {p l : List (List Int)} (hp : pivot_few p) (hl : pivot_few l) : Ev (fun k => r9_Shells.f k m p l) (if tabOk m p l then (shellsOf (tableOf m p l) p.length, 0) else ([], 1)) := by
  unfold r9_Shells.f
  refine ev_bind (rtable_ev m hp hl) ?_
  by_cases h : tabOk m p l
  · rw [if_pos h, if_pos h]
    refine ev_pos rfl ?_
    have p1 := hp.1
    have l1 := hl.1
    have tl := tableOf_length m p l
    have l0 : 1 ≤ l.length := h.2.1.1
    dsimp only
    obtain ⟨t, ht⟩ : ∃ t, tableOf m p l = t := ⟨_, rfl⟩
    have trow : ∀ i, i < l.length → (rowOf t i).length = p.length := fun i hi => by rw [← ht, row_table hi, keysOf_length]
    rw [ht] at tl ⊢
    clear ht
    refine ev_cast (ev_count0 (G := fun i k => r9_Shells.l0 k p l ((List.range i).map (shellAt t)) (i : Int) t 0) (n := p.length) (r := (shellsOf t p.length, 0)) (fun i hi h2 => ?_) ?_) rfl
    · refine ev_succ ?_
      simp only [r9_Shells.l0]
      rw [show rd_L1 t 0 = rowOf t 0 from rdL_row t 0]
      have t0 := trow 0 (by omega)
      refine ev_pos (by omega) (ev_pos (by omega) (ev_pos (by omega) (ev_pos (by omega) ?_)))
      have inner : ∀ s : Int × Int, shellUp i s t = (shellUp i s (t.take t.length)) := fun s => by rw [List.take_length]
      refine ev_cast (ev_count0 (G := fun j k => r9_Shells.l1 k p l ((List.range i).map (shellAt t)) (i : Int) (j : Int) t 0 (shellUp i (rd (rowOf t 0) (i : Int), rd (rowOf t 0) (i : Int)) (t.take j)).1 (shellUp i (rd (rowOf t 0) (i : Int), rd (rowOf t 0) (i : Int)) (t.take j)).2) (n := l.length) (r := (shellsOf t p.length, 0)) (fun j hj h3 => ?_) ?_) rfl
      · refine ev_succ ?_
        simp only [r9_Shells.l1]
        have tj := trow j hj
        rw [rdL_row]
        refine ev_pos (by omega) (ev_pos (by omega) (ev_pos (by omega) (ev_pos (by omega) (ev_pos (by omega) ?_))))
        rw [wsuc j (by omega)]
        rw [shellUp_step _ (by omega)] at h3
        exact h3
      · refine ev_succ ?_
        simp only [r9_Shells.l1]
        refine ev_neg (by omega) (ev_pos (by simp; omega) ?_)
        rw [wsuc i (by omega), List.take_of_length_le (by omega)]
        rw [List.range_succ, List.map_append, List.map_singleton] at h2
        exact h2
    · refine ev_succ ?_
      simp only [r9_Shells.l0]
      exact ev_neg (by omega) (ev_some rfl)
  · rw [if_neg h, if_neg h]
    exact ev_neg (by simp) (ev_some rfl)
theorem shells_is (m : Int) {p l : List (List Int)} (hp : pivot_few p) (hl : pivot_few l) : pivot_Shells.f m p l = some (if tabOk m p l then (shellsOf (tableOf m p l) p.length, 0) else ([], 1)) := if_pos ⟨small_of hp, small_of hl⟩
end Go.Proofs.Ytoidpkpgeeeggaa.EvTab
end
section
set_option linter.unusedVariables false
namespace Go.Proofs.Ytoidpkpgeeeggaa.Sane
open Go.RowKit Go.Proofs.Ytoidpkpgeeeggaa.Q Go.Proofs.YtoidpkpgeeeggaaW.PrintWords Plain
theorem sanity_is : l9_sanity.f 60 = some true := by decide +kernel
theorem sanity_ev : Ev (fun k => l9_sanity.f k) true := ev_ofx (fun k => l9_sanity.mono k) ⟨60, sanity_is⟩
end Go.Proofs.Ytoidpkpgeeeggaa.Sane
end
section
set_option linter.unusedVariables false
namespace Go.Proofs.Ytoidpkpgeeeggaa.Pure
open Go.RowKit Go.Proofs.Ytoidpkpgeeeggaa.Q Go.Proofs.YtoidpkpgeeeggaaW.PrintWords Plain Go.Proofs.Ytoidpkpgeeeggaa.EvShell Go.Proofs.Ytoidpkpgeeeggaa.EvTab Go.Proofs.Ytoidpkpgeeeggaa.Near
theorem PivotBoundsAsSpecified (m : Int) (p l : List (List Int)) (a b : List S57) (keys : List Int) (_ : (Go.Lit.int .i64 m).wf = true) (hp : p.length ≤ Go.maxLen) (_ : ∀ v ∈ p, v.length ≤ Go.maxLen ∧ ∀ x ∈ v, (Go.Lit.int .i64 x).wf = true)
    (hl : l.length ≤ Go.maxLen) (_ : ∀ v ∈ l, v.length ≤ Go.maxLen ∧ ∀ x ∈ v, (Go.Lit.int .i64 x).wf = true) (ha : a.length ≤ Go.maxLen) (_ : ∀ s ∈ a, (Go.Lit.int .i64 s.f0).wf = true ∧ (Go.Lit.int .i64 s.f1).wf = true)
    (hb : b.length ≤ Go.maxLen) (_ : ∀ s ∈ b, (Go.Lit.int .i64 s.f0).wf = true ∧ (Go.Lit.int .i64 s.f1).wf = true) (_ : keys.length ≤ Go.maxLen) (_ : ∀ x ∈ keys, (Go.Lit.int .i64 x).wf = true) :
    ∃ k, l9_PivotBoundsAsSpecified.f k m p l a b keys = some true := by
  refine ev_ex ?_
  have other : Ev (fun k => l9_PivotBoundsAsSpecified.j0 k m p l a b keys true) true := by
    refine ev_succ ?_
    simp only [l9_PivotBoundsAsSpecified.j0]
    exact ev_pos (by first | rfl | trivial) (ev_bind Sane.sanity_ev (ev_some rfl))
  refine ev_bind (few_ev p 10 (by omega)) ?_
  by_cases h1 : (p.length : Int) ≤ 10 ∧ ∀ v ∈ p, v.length ≤ 40
  rotate_left
  · exact ev_neg (by simpa using h1) other
  refine ev_pos (decide_eq_true h1) (ev_bind (few_ev l 30 (by omega)) ?_)
  by_cases h2 : (l.length : Int) ≤ 30 ∧ ∀ v ∈ l, v.length ≤ 40
  rotate_left
  · exact ev_neg (by simpa using h2) other
  refine ev_pos (decide_eq_true h2) ?_
  by_cases h3 : (a.length : Int) > 10
  · exact ev_pos h3 other
  refine ev_neg h3 ?_
  by_cases h4 : (b.length : Int) > 10
  · exact ev_pos h4 other
  refine ev_neg h4 ?_
  by_cases h5 : (keys.length : Int) > 12
  · rw [decide_eq_true h5]; exact other
  rw [decide_eq_false h5]
  have fp := few_of (by omega) h1
  have fl := few_of (by omega) h2
  have hj : (joinOf a b).length ≤ 4611686018427387904 := by simp only [joinOf, List.length_map, List.length_range]; omega
  have hs : (shellsOf (tableOf m p l) p.length).length ≤ 4611686018427387904 := by simp only [shellsOf, List.length_map, List.length_range]; omega
  refine ev_succ ?_
  simp only [l9_PivotBoundsAsSpecified.j0]
  refine ev_neg (by simp) (ev_ob (shells_is m fp fl) (ev_bind (join_ev (by omega) (by omega)) (ev_ob (low_is m (by omega) (by omega)) (ev_ob (high_is m (by omega) (by omega)) (ev_bind (rshells_ev m fp fl) (ev_bind (rjoin_ev (by omega) (by omega)) (ev_bind (rlow_ev m (by omega) (by omega)) (ev_bind (rhigh_ev m (by omega) (by omega)) ?_))))))))
  have e1 : (if tabOk m p l then (shellsOf (tableOf m p l) p.length, (0 : Int)) else ([], 1)).1.length ≤ 4611686018427387904 := by split <;> simp_all
  have e2 : (if joins a b then (joinOf a b, (0 : Int)) else ([], 1)).1.length ≤ 4611686018427387904 := by split <;> simp_all
  refine ev_bind (same_self _ e1) (ev_pos rfl (ev_pos rfl (ev_bind (same_self _ e2) (ev_pos rfl (ev_pos rfl ?_)))))
  have last : Ev (fun k => l9_PivotBoundsAsSpecified.j1 k a keys true) true := by
    refine ev_succ ?_
    simp only [l9_PivotBoundsAsSpecified.j1]
    refine ev_bind Sane.sanity_ev (ev_pos rfl (ev_pos (by first | rfl | trivial) (ev_bind (pivot_Valid.ev a (by omega)) (ev_bind (rvalid_ev a (by omega)) (ev_pos (by simp) (ev_bind (in_ev (by omega)) (ev_bind (rin_ev (by omega)) (ev_some (by simp)))))))))
  by_cases c : askedSh m a keys
  · simp only [if_pos c]
    exact ev_pos trivial (ev_pos trivial (ev_pos trivial (by simpa using last)))
  · simp only [if_neg c]
    exact ev_pos trivial (ev_pos trivial (ev_pos trivial (by simpa using last)))
end Go.Proofs.Ytoidpkpgeeeggaa.Pure
end
section
set_option linter.unusedVariables false
namespace Go.Proofs.Ytoidpkpgeeeggaa.Open
open Go.RowKit Go.Proofs.Ytoidpkpgeeeggaa.Q Go.Proofs.YtoidpkpgeeeggaaW.PrintWords Go.Deep
theorem choice {α β : Type} {r : α → β → Prop} (h : ∀ x, ∃ y, r x y) : ∃ f : α → β, ∀ x, r x (f x) := ⟨fun x => Classical.choose (h x), fun x => Classical.choose_spec (h x)⟩
theorem open_shells {H : Type} {enc : TypeId × Value → H} {P : Program} {w : World} {base : Nat} {spare : Nat → Bool} {held : Bool} {t e : TypeId} {f0 f1 : Field} {a : Option Addr} {len cap : Nat} {d : DataW H} {ps : List MemPlace}
    (ht : P.underlying t = some (.slice e)) (he : P.underlying e = some (.struct #[f0, f1])) (ce : P.cellsOf e = 2) (o0 : f0.offset = 0) (o1 : f1.offset = 1) (c0 : P.cellsOf f0.type = 1) (c1 : P.cellsOf f1.type = 1)
    (h0 : P.underlying f0.type = some (.int .i64)) (h1 : P.underlying f1.type = some (.int .i64)) (h : DataW.Trod enc P w base spare held t (.slice a len cap) d ps) :
    ∃ l : List S57, l.length = len ∧ len ≤ cap ∧ cap ≤ maxLen ∧ Kd.C k57 w a len l ∧ ∀ s ∈ l, (Lit.int .i64 s.f0).wf = true ∧ (Lit.int .i64 s.f1).wf = true := by
  obtain ⟨fuel, hf⟩ := h
  rcases open_slice_pairs ht he ce o0 o1 c0 c1 hf with ⟨hcs, _⟩ | ⟨x, len', cap', m, n, V0, V1, D0, D1, P0, P1, hcs, _, hl, hm, hmm, _, hx⟩
  · simp [Value.cells] at hcs
    obtain ⟨rfl, rfl, rfl⟩ := hcs
    exact ⟨[], rfl, Nat.le_refl _, Nat.zero_le _, Kd.C_nil _ _, by simp⟩
  · simp [Value.cells] at hcs
    obtain ⟨rfl, rfl, rfl⟩ := hcs
    have hlm : len ≤ m := by rw [hmm]; split <;> omega
    have each : ∀ i, ∃ p : Int × Int, i < len → V0 i = .int .i64 p.1 ∧ V1 i = .int .i64 p.2 ∧ (Lit.int .i64 p.1).wf = true ∧ (Lit.int .i64 p.2).wf = true := fun i => by
      by_cases hi : i < len
      · obtain ⟨_, _, t0, t1⟩ := hx i (by omega)
        obtain ⟨n0, e0, _, w0⟩ := DataW.trod_int h0 t0
        obtain ⟨n1, e1, _, w1⟩ := DataW.trod_int h1 t1
        exact ⟨(n0, n1), fun _ => ⟨by simpa using e0, by simpa using e1, w0, w1⟩⟩
      · exact ⟨(0, 0), fun h => absurd h hi⟩
    obtain ⟨f, hf⟩ := choice each
    refine ⟨(List.range len).map (fun i => (⟨(f i).1, (f i).2⟩ : S57)), by simp, hl, hm, ⟨by simp, by have := hm; unfold maxLen at this; omega, fun _ => ⟨x, rfl, fun j p hp => ?_⟩⟩, ?_⟩
    · have hj : j < len := by
        rcases Nat.lt_or_ge j len with h | h
        · exact h
        · rw [List.getElem?_eq_none (by simp; omega)] at hp; cases hp
      rw [List.getElem?_map, List.getElem?_range hj] at hp
      cases hp
      obtain ⟨hc0, hc1, _, _⟩ := hx j (by omega)
      obtain ⟨e0, e1, _, _⟩ := hf j hj
      rw [e0] at hc0
      rw [e1] at hc1
      refine ⟨[.int .i64 (f j).1, .int .i64 (f j).2], rfl, k57_mk w _, fun i u hu => ?_⟩
      match i, hu with
      | 0, hu => cases hu; exact hc0
      | 1, hu => cases hu; exact hc1
      | i + 2, hu => simp at hu
    · intro s hs
      obtain ⟨i, hi, rfl⟩ := List.mem_map.1 hs
      have := hf i (List.mem_range.1 hi)
      exact ⟨this.2.2.1, this.2.2.2⟩
theorem open_rows {H : Type} {enc : TypeId × Value → H} {P : Program} {w : World} {base : Nat} {held : Bool} {t e q : TypeId} {a : Option Addr} {len cap : Nat} {d : DataW H} {ps : List MemPlace}
    (ht : P.underlying t = some (.slice e)) (he : P.underlying e = some (.slice q)) (hq : P.underlying q = some (.int .i64)) (ce : P.cellsOf e = 1) (cq : P.cellsOf q = 1) (h : DataW.Trod enc P w base (fun _ => true) held t (.slice a len cap) d ps) (ty : Nat) :
    ∃ l : List (List Int), l.length = len ∧ len ≤ cap ∧ cap ≤ maxLen ∧ Kd.C (Kd.slice ty (Kd.int .i64)) w a len l ∧ ∀ v ∈ l, v.length ≤ maxLen ∧ ∀ x ∈ v, (Lit.int .i64 x).wf = true := by
  obtain ⟨fuel, hf⟩ := h
  rcases open_int_rows ht he hq ce cq hf with ⟨hcs, _⟩ | ⟨x, len', cap', A, L, C, Z, hcs, _, hl, hm, _, hx⟩
  · simp [Value.cells] at hcs
    obtain ⟨rfl, rfl, rfl⟩ := hcs
    exact ⟨[], rfl, Nat.le_refl _, Nat.zero_le _, Kd.C_nil _ _, by simp⟩
  · simp [Value.cells] at hcs
    obtain ⟨rfl, rfl, rfl⟩ := hcs
    have hlen : ∀ r, r < cap → ((Z r).take (L r)).length = L r := fun r hr => by
      have := hx r hr
      rw [List.length_take]; omega
    refine ⟨(List.range len).map (fun r => (Z r).take (L r)), by simp, hl, hm, ⟨by simp, by have := hm; unfold maxLen at this; omega, fun _ => ⟨x, rfl, fun j p hp => ?_⟩⟩, ?_⟩
    · have hj : j < len := by
        rcases Nat.lt_or_ge j len with h | h
        · exact h
        · rw [List.getElem?_eq_none (by simp; omega)] at hp; cases hp
      rw [List.getElem?_map, List.getElem?_range hj] at hp
      cases hp
      obtain ⟨hc, hLC, hCm, hZ, hwf, hnone, hsome⟩ := hx j (by omega)
      have hL := hlen j (by omega)
      refine ⟨[.slice (A j) (L j) (C j)], rfl, ⟨A j, C j, by rw [hL], by rw [hL]; exact hLC, ?_⟩, fun i u hu => ?_⟩
      · refine ⟨rfl, by rw [hL]; unfold maxLen at hCm; omega, fun hpos => ?_⟩
        cases hA : A j with
        | none =>
          have hp2 : 0 < L j := by rw [← hL]; exact hpos
          have := hnone hA
          omega
        | some a' =>
          refine ⟨a', rfl, fun c p hp => ⟨[.int .i64 p], rfl, ?_, fun i u hu => ?_⟩⟩
          · exact rfl
          · have hc2 : c < L j := by
              have h6 : c < (List.take (L j) (Z j)).length := (List.getElem?_eq_some_iff.1 hp).1
              omega
            match i, hu with
            | 0, hu =>
              cases hu
              have h3 := (hsome a' hA).2 c (by omega)
              have h4 : (Z j).getD c 0 = p := by
                rw [List.getElem?_take, if_pos hc2] at hp
                rw [List.getD_eq_getElem?_getD, hp]; rfl
              rw [h4] at h3
              show w.cell? (a'.add (c * 1 + 0)) = _
              rw [Nat.mul_one]
              exact h3
            | i + 1, hu => simp at hu
      · match i, hu with
        | 0, hu => cases hu; simpa [Kd.slice] using hc
        | i + 1, hu => simp at hu
    · intro v hv
      obtain ⟨r, hr, rfl⟩ := List.mem_map.1 hv
      have hr := List.mem_range.1 hr
      obtain ⟨_, hLC, hCm, hZ, hwf, _⟩ := hx r (by omega)
      exact ⟨by rw [hlen r (by omega)]; omega, fun y hy => hwf y (List.mem_of_mem_take hy)⟩
end Go.Proofs.Ytoidpkpgeeeggaa.Open
end
