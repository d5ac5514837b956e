/- A part of the proof of CodeReadsAsSpecified: what the row's text reaches (packed by a program of this claim out of its texts). -/
import Derived.Test.YtgpdfalopdhjlaaKCodeReadsAsSpecifiedf
import Derived.Deep.Matrix
import Derived.Lib.SmallJoins
import Derived.ChangeShapes
section
set_option linter.unusedVariables false
namespace Go.Proofs.Ytgpdfalopdhjlaa.Open
open Go.RowKit Go.Proofs.Ytgpdfalopdhjlaa.Q Go.Proofs.YtgpdfalopdhjlaaW.PrintWords Go.Deep
theorem choice {α β : Type} {r : α → β → Prop} (h : ∀ x, ∃ y, r x y) : ∃ f : α → β, ∀ x, r x (f x) := ⟨fun x => Classical.choose (h x), fun x => Classical.choose_spec (h x)⟩
theorem open_rows {H : Type} {enc : TypeId × Value → H} {P : Program} {w : World} {base : Nat} {held : Bool} {t e q : TypeId} {a : Option Addr} {len cap : Nat} {d : DataW H} {ps : List MemPlace}
    (ht : P.underlying t = some (.slice e)) (he : P.underlying e = some (.slice q)) (hq : P.underlying q = some (.int .i64)) (ce : P.cellsOf e = 1) (cq : P.cellsOf q = 1) (h : DataW.Trod enc P w base (fun _ => true) held t (.slice a len cap) d ps) (ty : Nat) :
    ∃ l : List (List Int), l.length = len ∧ len ≤ cap ∧ cap ≤ maxLen ∧ Kd.C (Kd.slice ty (Kd.int .i64)) w a len l ∧ ∀ v ∈ l, v.length ≤ maxLen ∧ ∀ x ∈ v, (Lit.int .i64 x).wf = true := by
  obtain ⟨fuel, hf⟩ := h
  rcases open_int_rows ht he hq ce cq hf with ⟨hcs, _⟩ | ⟨x, len', cap', A, L, C, Z, hcs, _, hl, hm, _, hx⟩
  · simp [Value.cells] at hcs
    obtain ⟨rfl, rfl, rfl⟩ := hcs
    exact ⟨[], rfl, Nat.le_refl _, Nat.zero_le _, Kd.C_nil _ _, by simp⟩
  · simp [Value.cells] at hcs
    obtain ⟨rfl, rfl, rfl⟩ := hcs
    have hlen : ∀ r, r < cap → ((Z r).take (L r)).length = L r := fun r hr => by
      have := hx r hr
      rw [List.length_take]; omega
    refine ⟨(List.range len).map (fun r => (Z r).take (L r)), by simp, hl, hm, ⟨by simp, by have := hm; unfold maxLen at this; omega, fun _ => ⟨x, rfl, fun j p hp => ?_⟩⟩, ?_⟩
    · have hj : j < len := by
        rcases Nat.lt_or_ge j len with h | h
        · exact h
        · rw [List.getElem?_eq_none (by simp; omega)] at hp; cases hp
      rw [List.getElem?_map, List.getElem?_range hj] at hp
      cases hp
      obtain ⟨hc, hLC, hCm, hZ, hwf, hnone, hsome⟩ := hx j (by omega)
      have hL := hlen j (by omega)
      refine ⟨[.slice (A j) (L j) (C j)], rfl, ⟨A j, C j, by rw [hL], by rw [hL]; exact hLC, ?_⟩, fun i u hu => ?_⟩
      · refine ⟨rfl, by rw [hL]; unfold maxLen at hCm; omega, fun hpos => ?_⟩
        cases hA : A j with
        | none =>
          have hp2 : 0 < L j := by rw [← hL]; exact hpos
          have := hnone hA
          omega
        | some a' =>
          refine ⟨a', rfl, fun c p hp => ⟨[.int .i64 p], rfl, ?_, fun i u hu => ?_⟩⟩
          · exact rfl
          · have hc2 : c < L j := by
              have h6 : c < (List.take (L j) (Z j)).length := (List.getElem?_eq_some_iff.1 hp).1
              omega
            match i, hu with
            | 0, hu =>
              cases hu
              have h3 := (hsome a' hA).2 c (by omega)
              have h4 : (Z j).getD c 0 = p := by
                rw [List.getElem?_take, if_pos hc2] at hp
                rw [List.getD_eq_getElem?_getD, hp]; rfl
              rw [h4] at h3
              show w.cell? (a'.add (c * 1 + 0)) = _
              rw [Nat.mul_one]
              exact h3
            | i + 1, hu => simp at hu
      · match i, hu with
        | 0, hu => cases hu; simpa [Kd.slice] using hc
        | i + 1, hu => simp at hu
    · intro v hv
      obtain ⟨r, hr, rfl⟩ := List.mem_map.1 hv
      have hr := List.mem_range.1 hr
      obtain ⟨_, hLC, hCm, hZ, hwf, _⟩ := hx r (by omega)
      exact ⟨by rw [hlen r (by omega)]; omega, fun y hy => hwf y (List.mem_of_mem_take hy)⟩
theorem rows_of {H : Type} {enc : TypeId × Value → H} {P : Program} {w : World} {base fuel : Nat} {held : Bool} {t e q : TypeId} {v : Value} {x : DataW H × List MemPlace}
    (ht : P.underlying t = some (.slice e)) (he : P.underlying e = some (.slice q)) (hq : P.underlying q = some (.int .i64)) (ce : P.cellsOf e = 1) (cq : P.cellsOf q = 1) (h : DataW.trod enc P w base (fun _ => true) held fuel t [v] = some x) (ty : Nat) :
    ∃ (A : Option Addr) (c : Nat) (l : List (List Int)), v = .slice A l.length c ∧ l.length ≤ c ∧ c ≤ maxLen ∧ Kd.C (Kd.slice ty (Kd.int .i64)) w A l.length l ∧ ∀ v ∈ l, v.length ≤ maxLen ∧ ∀ x ∈ v, (Lit.int .i64 x).wf = true := by
  have hv : ∃ A n c, v = .slice A n c := by
    rcases open_slice1 ht ce h with ⟨hcs, _⟩ | ⟨a, len, cap, _, _, _, _, _, hcs, _⟩
    · exact ⟨_, _, _, by simpa using hcs⟩
    · exact ⟨_, _, _, by simpa using hcs⟩
  obtain ⟨A, n, c, rfl⟩ := hv
  obtain ⟨l, hl, h1, h2, h3, h4⟩ := open_rows (d := x.1) (ps := x.2) ht he hq ce cq ⟨fuel, by simpa [Value.cells] using h⟩ ty
  subst hl
  exact ⟨A, c, l, rfl, h1, h2, h3, h4⟩
theorem ints_of {H : Type} {enc : TypeId × Value → H} {P : Program} {w : World} {base fuel : Nat} {held : Bool} {t e : TypeId} {v : Value} {x : DataW H × List MemPlace}
    (ht : P.underlying t = some (.slice e)) (he : P.underlying e = some (.int .i64)) (ce : P.cellsOf e = 1) (h : DataW.trod enc P w base (fun _ => true) held fuel t [v] = some x) :
    ∃ (A : Option Addr) (c : Nat) (l : List Int), v = .slice A l.length c ∧ l.length ≤ c ∧ c ≤ maxLen ∧ Kd.C (Kd.int .i64) w A l.length l ∧ ∀ x ∈ l, (Lit.int .i64 x).wf = true := by
  rcases Go.ChangeShapes.open_ints ht he ce h with ⟨hcs, _⟩ | ⟨a, len, cap, zs, hcs, _, hl, hm, hz, _, hcell, hwz⟩
  · obtain rfl : v = .slice none 0 0 := by simpa using hcs
    exact ⟨none, 0, [], rfl, Nat.le_refl _, Nat.zero_le _, Kd.C_nil _ _, by simp⟩
  · obtain rfl : v = .slice (some a) len cap := by simpa using hcs
    simp only [if_true] at hz
    have hL : (zs.take len).length = len := by rw [List.length_take]; omega
    refine ⟨some a, cap, zs.take len, by rw [hL], by rw [hL]; exact hl, hm, ?_, fun x hx => hwz x (List.mem_of_mem_take hx)⟩
    refine ⟨rfl, by rw [hL]; unfold maxLen at hm; omega, fun _ => ⟨a, rfl, fun c p hp => ⟨[.int .i64 p], rfl, rfl, fun i u hu => ?_⟩⟩⟩
    have hc2 : c < len := by
      have h6 : c < (zs.take len).length := (List.getElem?_eq_some_iff.1 hp).1
      omega
    match i, hu with
    | 0, hu =>
      cases hu
      have h3 := hcell c (by omega)
      have h4 : zs.getD c 0 = p := by
        rw [List.getElem?_take, if_pos hc2] at hp
        rw [List.getD_eq_getElem?_getD, hp]; rfl
      rw [h4] at h3
      show w.cell? (a.add (c * 1 + 0)) = _
      rw [Nat.mul_one]
      exact h3
    | i + 1, hu => simp at hu
theorem rows3_of {H : Type} {enc : TypeId × Value → H} {P : Program} {w : World} {base fuel : Nat} {held : Bool} {t e q r : TypeId} {v : Value} {x : DataW H × List MemPlace}
    (ht : P.underlying t = some (.slice e)) (he : P.underlying e = some (.slice q)) (hq : P.underlying q = some (.slice r)) (hr : P.underlying r = some (.int .i64)) (ce : P.cellsOf e = 1) (cq : P.cellsOf q = 1) (cr : P.cellsOf r = 1)
    (h : DataW.trod enc P w base (fun _ => true) held fuel t [v] = some x) (ty ty2 : Nat) :
    ∃ (A : Option Addr) (c : Nat) (l : List (List (List Int))), v = .slice A l.length c ∧ l.length ≤ c ∧ c ≤ maxLen ∧ Kd.C (Kd.slice ty2 (Kd.slice ty (Kd.int .i64))) w A l.length l ∧ ∀ ws ∈ l, ws.length ≤ maxLen ∧ ∀ v ∈ ws, v.length ≤ maxLen ∧ ∀ x ∈ v, (Lit.int .i64 x).wf = true := by
  rcases open_slice1 ht ce h with ⟨hcs, _⟩ | ⟨a, len, cap, m, n, V, D, Pl, hcs, _, hl, hm, hmm, _, hx⟩
  · obtain rfl : v = .slice none 0 0 := by simpa using hcs
    exact ⟨none, 0, [], rfl, Nat.le_refl _, Nat.zero_le _, Kd.C_nil _ _, by simp⟩
  · obtain rfl : v = .slice (some a) len cap := by simpa using hcs
    simp only [if_true] at hmm
    have each : ∀ i, ∃ y : Option Addr × Nat × List (List Int), i < len → V i = .slice y.1 y.2.2.length y.2.1 ∧ y.2.2.length ≤ y.2.1 ∧ y.2.1 ≤ maxLen ∧ Kd.C (Kd.slice ty (Kd.int .i64)) w y.1 y.2.2.length y.2.2 ∧ ∀ v ∈ y.2.2, v.length ≤ maxLen ∧ ∀ x ∈ v, (Lit.int .i64 x).wf = true := fun i => by
      by_cases hi : i < len
      · obtain ⟨A, c, l, h1⟩ := rows_of he hq hr cq cr (hx i (by omega)).2 ty
        exact ⟨(A, c, l), fun _ => h1⟩
      · exact ⟨(none, 0, []), fun h => absurd h hi⟩
    obtain ⟨f, hf⟩ := choice each
    refine ⟨some a, cap, (List.range len).map (fun i => (f i).2.2), by simp, by simpa using hl, hm, ?_, ?_⟩
    · refine ⟨by simp, by simp; unfold maxLen at hm; omega, fun _ => ⟨a, rfl, fun j p hp => ?_⟩⟩
      have hj : j < len := by
        rcases Nat.lt_or_ge j len with h | h
        · exact h
        · rw [List.getElem?_eq_none (by simp; omega)] at hp; cases hp
      rw [List.getElem?_map, List.getElem?_range hj] at hp
      cases hp
      obtain ⟨e1, e2, e3, e4, _⟩ := hf j hj
      have hc := (hx j (by omega)).1
      rw [e1] at hc
      refine ⟨[.slice (f j).1 (f j).2.2.length (f j).2.1], rfl, ⟨(f j).1, (f j).2.1, rfl, e2, e4⟩, fun i u hu => ?_⟩
      match i, hu with
      | 0, hu => cases hu; simpa [Kd.slice] using hc
      | i + 1, hu => simp at hu
    · intro ws hws
      obtain ⟨i, hi, rfl⟩ := List.mem_map.1 hws
      obtain ⟨_, e2, e3, _, e5⟩ := hf i (List.mem_range.1 hi)
      exact ⟨Nat.le_trans e2 e3, e5⟩
theorem open_book {H : Type} {enc : TypeId × Value → H} {P : Program} {w : World} {base b0 : Nat} {rc : Reach} {held : Bool} {t e1 e2 e3 e4 : TypeId} {f0 f1 f2 : Field} {v : Value} {d : DataW H} {ps : List MemPlace}
    (hs : P.underlying t = some (.struct #[f0, f1, f2])) (hone : oneCellFields P #[f0, f1, f2] = true) (hC : P.cellsOf t = 3) (u0 : P.underlying f0.type = some (.int .i64)) (u1 : P.underlying f1.type = some (.slice e1)) (v1 : P.underlying e1 = some (.int .i64)) (c1 : P.cellsOf e1 = 1)
    (u2 : P.underlying f2.type = some (.slice e2)) (v2 : P.underlying e2 = some (.slice e3)) (v3 : P.underlying e3 = some (.slice e4)) (v4 : P.underlying e4 = some (.int .i64)) (c2 : P.cellsOf e2 = 1) (c3 : P.cellsOf e3 = 1) (c4 : P.cellsOf e4 = 1)
    (hv : Value.okWide P w rc b0 t v) (h : DataW.Trod enc P w base (fun _ => true) held t v d ps) (ty ty2 : Nat) :
    ∃ (n : Int) (A1 : Option Addr) (k1 : Nat) (l1 : List Int) (A2 : Option Addr) (k2 : Nat) (l2 : List (List (List Int))), v = .agg #[.int .i64 n, .slice A1 l1.length k1, .slice A2 l2.length k2] ∧ (Lit.int .i64 n).wf = true ∧
      (l1.length ≤ k1 ∧ k1 ≤ maxLen ∧ Kd.C (Kd.int .i64) w A1 l1.length l1 ∧ ∀ x ∈ l1, (Lit.int .i64 x).wf = true) ∧
      (l2.length ≤ k2 ∧ k2 ≤ maxLen ∧ Kd.C (Kd.slice ty2 (Kd.slice ty (Kd.int .i64))) w A2 l2.length l2 ∧ ∀ ws ∈ l2, ws.length ≤ maxLen ∧ ∀ v ∈ ws, v.length ≤ maxLen ∧ ∀ x ∈ v, (Lit.int .i64 x).wf = true) := by
  obtain ⟨w0, w1, w2, y0, y1, y2, n, rfl, _, _, t0, t1, t2⟩ := Go.Joins.open_agg3 hs hone hC hv h
  obtain ⟨m, hm, _, hw⟩ := DataW.trod_int u0 t0
  obtain rfl : w0 = .int .i64 m := by simpa using hm
  obtain ⟨A1, k1, l1, rfl, h1⟩ := ints_of u1 v1 c1 t1
  obtain ⟨A2, k2, l2, rfl, h2⟩ := rows3_of u2 v2 v3 v4 c2 c3 c4 t2 ty ty2
  exact ⟨m, A1, k1, l1, A2, k2, l2, rfl, hw, h1, h2⟩
end Go.Proofs.Ytgpdfalopdhjlaa.Open
end
