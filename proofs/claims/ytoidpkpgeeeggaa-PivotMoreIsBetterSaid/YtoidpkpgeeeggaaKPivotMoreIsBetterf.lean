/- A part of the proof of PivotMoreIsBetter: what the row's text reaches (packed by a program of this claim out of its texts). -/
import Derived.Test.YtoidpkpgeeeggaaKPivotMoreIsBettere
import Derived.Deep.Matrix
import Derived.Deep.SlicePairs
import Derived.ChangeShapes
section
set_option linter.unusedVariables false
namespace Go.Proofs.Ytoidpkpgeeeggaa.EvCover
open Go.RowKit Go.Proofs.Ytoidpkpgeeeggaa.Q Go.Proofs.YtoidpkpgeeeggaaW.PrintWords Plain Go.Proofs.Ytoidpkpgeeeggaa.Near Go.Proofs.Ytoidpkpgeeeggaa.EvTab Go
theorem alike_is {p q : List Int} (hp : p.length ≤ 4611686018427387904) : vector_Alike.f p q = some (decide (alike p q)) := by
  by_cases h : p.length = q.length
  · exact vector_Alike.is p q hp (by omega)
  · unfold vector_Alike.f
    rw [if_neg (by omega), decide_eq_false (fun h2 => h h2.2.2)]
def isNear (m : Int) (p : List (List Int)) (v : List Int) : Prop := isPivots m p ∧ alike (rowOf p 0) v
instance (m : Int) (p : List (List Int)) (v : List Int) : Decidable (isNear m p v) := by unfold isNear; infer_instance
def nearIdx (m : Int) (p : List (List Int)) (v : List Int) : Int := (((keysOf m p v).findIdx (· == Lib.minOf (keysOf m p v)) : Nat) : Int)
def nearKey (m : Int) (p : List (List Int)) (v : List Int) : Int := Lib.minOf (keysOf m p v)
theorem fit_ne {p : List (List Int)} (h : pivot_isFit p) : p ≠ [] := by
  intro e; have := h.1; rw [e] at this; simp at this
theorem near_alike {m : Int} {p : List (List Int)} {v : List Int} (h : isNear m p v) : ∀ x ∈ p, alike x v := fun x hx => alike_trans (alike_symm (h.1.2.1.2.2 x hx)) h.2
theorem near_ev (m : Int) {p : List (List Int)} {v : List Int} (hp : pivot_smallRows p) : Ev (fun k => pivot_Nearest.f k m p v) (if isNear m p v then (nearIdx m p v, nearKey m p v, 0) else (0, 0, 1)) := by
  have no : ¬ isNear m p v → Ev (fun k => pivot_Nearest.j0 k m p v true) (if isNear m p v then (nearIdx m p v, nearKey m p v, 0) else (0, 0, 1)) := fun h => by
    refine ev_succ ?_
    simp only [pivot_Nearest.j0]
    exact ev_pos (by first | rfl | trivial) (ev_some (if_neg h).symm)
  unfold pivot_Nearest.f
  refine ev_ob (pivot_arePivots.is hp) ?_
  by_cases h1 : isPivots m p
  · have l0 := h1.2.1.1
    refine ev_pos (decide_eq_true h1) (ev_pos (by omega) ?_)
    rw [show rd_L1 p 0 = rowOf p 0 from rdL_row p 0]
    refine ev_ob (alike_is (hp.2 _ (rowOf_mem (by omega)))) ?_
    by_cases h2 : alike (rowOf p 0) v
    · rw [decide_eq_true h2]
      have h : isNear m p v := ⟨h1, h2⟩
      rw [if_pos h]
      refine ev_succ ?_
      simp only [pivot_Nearest.j0]
      have hk := keysOf_length m p v
      have l8 := h1.2.2
      refine ev_neg (by simp) (ev_bind (pivot_keys.ev h1.1 (by omega) (near_alike h)) (ev_ob (show slices_Min_int_int.f (keysOf m p v) = some (nearKey m p v) from if_pos ⟨by omega, by omega⟩) (ev_bind (slices_Index.ev (by omega) (min_mem _ (keysOf_ne (fit_ne h1.2.1) v))) (ev_some rfl))))
    · rw [decide_eq_false h2]
      exact no (fun h => h2 h.2)
  · exact ev_neg (fun h => h1 (of_decide_eq_true h)) (no (fun h => h1 h.1))
/-- the greatest key of a vector and its nearest pivot, of the first n -/
def coverN (m : Int) (p l : List (List Int)) : Nat → Int
  | 0 => 0
  | n + 1 => mx (coverN m p l n) (nearKey m p (rowOf l n))
def coverOf (m : Int) (p l : List (List Int)) : Int := coverN m p l l.length
theorem cover_ev (m : Int) {p l : List (List Int)} (hp : pivot_smallRows p) (hl : pivot_smallRows l) : Ev (fun k => pivot_Cover.f k m p l) (if tabOk m p l then (coverOf m p l, 0) else (0, 1)) := by
  unfold pivot_Cover.f
  refine ev_bind (pivot_Table.ev hp hl) ?_
  by_cases h : tabOk m p l
  · rw [if_pos h, if_pos h]
    have tl := tableOf_length m p l
    have l4 := h.2.1.2.1
    have p8 := h.1.2.2
    have p1 := h.1.2.1.1
    refine ev_pos rfl ?_
    dsimp only
    refine ev_cast (ev_count0 (G := fun i k => pivot_Cover.l0 k (coverN m p l i) (tableOf m p l) ((tableOf m p l).length : Int) (i : Int)) (n := l.length) (r := (coverOf m p l, 0)) (fun i hi h2 => ?_) ?_) rfl
    · refine ev_succ ?_
      simp only [pivot_Cover.l0]
      refine ev_pos (by omega) (ev_pos (by omega) (ev_pos (by omega) ?_))
      have hk := keysOf_length m p (rowOf l i)
      rw [rdL_row, row_table hi]
      refine ev_ob (show slices_Min_int_int.f (keysOf m p (rowOf l i)) = some (nearKey m p (rowOf l i)) from if_pos ⟨by omega, by omega⟩) ?_
      rw [wsuc i (by omega)]
      exact h2
    · refine ev_succ ?_
      simp only [pivot_Cover.l0]
      exact ev_neg (by omega) (ev_some rfl)
  · rw [if_neg h, if_neg h]
    exact ev_neg (by simp) (ev_some rfl)
end Go.Proofs.Ytoidpkpgeeeggaa.EvCover
end
section
set_option linter.unusedVariables false
namespace Go.Proofs.Ytoidpkpgeeeggaa.Cover
open Go.RowKit Go.Proofs.Ytoidpkpgeeeggaa.Q Go.Proofs.YtoidpkpgeeeggaaW.PrintWords Plain Go.Proofs.Ytoidpkpgeeeggaa.Near Go.Proofs.Ytoidpkpgeeeggaa.EvTab Go.Proofs.Ytoidpkpgeeeggaa.EvCover Go
theorem near_le (m : Int) {p : List (List Int)} (v : List Int) {x : List Int} (hx : x ∈ p) : nearKey m p v ≤ key m x v := min_le _ _ (List.mem_map.2 ⟨x, hx, rfl⟩)
theorem near_at (m : Int) {p : List (List Int)} (hp : p ≠ []) (v : List Int) : ∃ x ∈ p, nearKey m p v = key m x v := by
  obtain ⟨x, hx, e⟩ := List.mem_map.1 (min_mem _ (keysOf_ne (m := m) hp v))
  exact ⟨x, hx, e.symm⟩
theorem near_less (m : Int) {p : List (List Int)} (hp : p ≠ []) (q v : List Int) : nearKey m (p ++ [q]) v ≤ nearKey m p v := by
  obtain ⟨x, hx, e⟩ := near_at m hp v
  rw [e]
  exact near_le m v (List.mem_append_left _ hx)
/-- chosen vectors lie apart: each two of them at least so far as the cover -/
def apart (m : Int) (l p : List (List Int)) : Prop := ∀ i k, k < i → i < p.length → 0 < key m (rowOf p i) (rowOf p k) ∧ Lib.maxOf (leasts m l p) ≤ key m (rowOf p i) (rowOf p k)
theorem row_app_l {p q : List (List Int)} {i : Nat} (h : i < p.length) : rowOf (p ++ q) i = rowOf p i := by
  unfold rowOf; rw [List.getD_eq_getElem?_getD, List.getD_eq_getElem?_getD, List.getElem?_append_left h]
end Go.Proofs.Ytoidpkpgeeeggaa.Cover
end
section
set_option linter.unusedVariables false
namespace Go.Proofs.Ytoidpkpgeeeggaa.Sane
open Go.RowKit Go.Proofs.Ytoidpkpgeeeggaa.Q Go.Proofs.YtoidpkpgeeeggaaW.PrintWords Plain
theorem sanity_is : antiquarylaw09_sanity.f 60 = some true := by decide +kernel
theorem sanity_ev : Ev (fun k => antiquarylaw09_sanity.f k) true := ev_ofx (fun k => antiquarylaw09_sanity.mono k) ⟨60, sanity_is⟩
end Go.Proofs.Ytoidpkpgeeeggaa.Sane
end
section
set_option linter.unusedVariables false
namespace Go.Proofs.Ytoidpkpgeeeggaa.Pure
open Go.RowKit Go.Proofs.Ytoidpkpgeeeggaa.Q Go.Proofs.YtoidpkpgeeeggaaW.PrintWords Plain Go.Proofs.Ytoidpkpgeeeggaa.EvTab Go.Proofs.Ytoidpkpgeeeggaa.EvShell Go.Proofs.Ytoidpkpgeeeggaa.EvFit Go.Proofs.Ytoidpkpgeeeggaa.Hold Go.Proofs.Ytoidpkpgeeeggaa.EvCover Go.Proofs.Ytoidpkpgeeeggaa.Near Go.Proofs.Ytoidpkpgeeeggaa.Cover
theorem keys_more {m : Int} {p : List (List Int)} {q v : List Int} {j : Nat} (h : j < p.length) : rd (keysOf m (p ++ [q]) v) (j : Int) = rd (keysOf m p v) (j : Int) := by
  rw [rd_keys h, rd_keys (by simp; omega), row_app_l h]
theorem shellUp_more {m : Int} {p : List (List Int)} {q : List Int} {j : Nat} (h : j < p.length) : ∀ (l : List (List Int)) (s : Int × Int), shellUp j s (tableOf m (p ++ [q]) l) = shellUp j s (tableOf m p l)
  | [], s => rfl
  | v :: l, s => by
    show shellUp j (mn s.1 (rd (keysOf m (p ++ [q]) v) (j : Int)), mx s.2 (rd (keysOf m (p ++ [q]) v) (j : Int))) (tableOf m (p ++ [q]) l) = shellUp j (mn s.1 (rd (keysOf m p v) (j : Int)), mx s.2 (rd (keysOf m p v) (j : Int))) (tableOf m p l)
    rw [keys_more h]
    exact shellUp_more h l _
theorem shells_more {m : Int} {p l : List (List Int)} {q : List Int} {j : Nat} (hl : 0 < l.length) (h : j < p.length) : rd_T57 (shells m (p ++ [q]) l) (j : Int) = rd_T57 (shells m p l) (j : Int) := by
  rw [rd_shells h, rd_shells (by simp; omega)]
  unfold shellAt
  rw [row_table hl, row_table hl, keys_more h, shellUp_more h]
theorem best_more {g : Int → S57 → Int → Int} {first : Int} {s t : List S57} {ks ls : List Int} : ∀ n : Nat, (∀ j : Nat, j < n → rd_T57 s (j : Int) = rd_T57 t (j : Int) ∧ rd ks (j : Int) = rd ls (j : Int)) → bestAt g first s ks n = bestAt g first t ls n
  | 0, _ => rfl
  | n + 1, h => by
    simp only [bestAt]
    rw [best_more n (fun j hj => h j (by omega)), (h n (by omega)).1, (h n (by omega)).2]
theorem near_more {m : Int} {p : List (List Int)} (hp : p ≠ []) (q v : List Int) : nearKey m (p ++ [q]) v ≤ nearKey m p v ∧
    ((nearIdx m (p ++ [q]) v = nearIdx m p v ∧ nearKey m (p ++ [q]) v = nearKey m p v) ∨ (nearIdx m (p ++ [q]) v = (p.length : Int) ∧ nearKey m (p ++ [q]) v < nearKey m p v)) := by
  unfold nearIdx nearKey
  rw [keysOf_snoc]
  have hne := keysOf_ne (m := m) hp v
  have hm := min_snoc hne (key m q v)
  have hl := keysOf_length m p v
  generalize keysOf m p v = ks at *
  by_cases c : key m q v < Lib.minOf ks
  · rw [if_pos c] at hm
    rw [hm, find_snoc_new (fun y hy => by have := min_le ks y hy; omega), hl]
    exact ⟨by omega, .inr ⟨rfl, c⟩⟩
  · rw [if_neg c] at hm
    rw [hm, find_snoc_in (min_mem ks hne)]
    exact ⟨Int.le_refl _, .inl ⟨rfl, rfl⟩⟩
theorem cover_less {m : Int} {p l : List (List Int)} (hp : p ≠ []) (q : List Int) : ∀ n, coverN m (p ++ [q]) l n ≤ coverN m p l n
  | 0 => Int.le_refl _
  | n + 1 => by
    have h1 := cover_less (m := m) (l := l) hp q n
    have h2 := near_less m hp q (rowOf l n)
    simp only [coverN]
    unfold mx
    split <;> split <;> omega
theorem piv_more {m : Int} {p : List (List Int)} (h : isPivots m p) (h7 : p.length < 8) {q : List Int} (hq : alike (rowOf p 0) q) : isPivots m (p ++ [q]) := by
  have p0 : 0 < p.length := h.2.1.1
  refine ⟨h.1, ⟨by simp, by simp; omega, fun x hx => ?_⟩, by simp; omega⟩
  rw [row_app_l p0]
  rcases List.mem_append.1 hx with hx | hx
  · exact h.2.1.2.2 x hx
  · rw [List.mem_singleton] at hx; subst hx; exact hq
theorem PivotMoreIsBetter (m : Int) (p l : List (List Int)) (v more : List Int) (_ : (Go.Lit.int .i64 m).wf = true) (hp : p.length ≤ Go.maxLen) (hp2 : ∀ v ∈ p, v.length ≤ Go.maxLen ∧ ∀ x ∈ v, (Go.Lit.int .i64 x).wf = true)
    (hl : l.length ≤ Go.maxLen) (_ : ∀ v ∈ l, v.length ≤ Go.maxLen ∧ ∀ x ∈ v, (Go.Lit.int .i64 x).wf = true) (_ : v.length ≤ Go.maxLen) (_ : ∀ x ∈ v, (Go.Lit.int .i64 x).wf = true)
    (_ : more.length ≤ Go.maxLen) (_ : ∀ x ∈ more, (Go.Lit.int .i64 x).wf = true) : ∃ k, antiquarylaw09_PivotMoreIsBetter.f k m p l v more = some true := by
  unfold Go.maxLen at hp hp2
  refine ev_ex ?_
  have other : Ev (fun k => antiquarylaw09_PivotMoreIsBetter.j0 k m p l v more true) true := by
    refine ev_succ ?_
    simp only [antiquarylaw09_PivotMoreIsBetter.j0]
    exact ev_pos (by first | rfl | trivial) (ev_bind Sane.sanity_ev (ev_some rfl))
  refine ev_bind (few_ev l 30 (by omega)) ?_
  by_cases h1 : (l.length : Int) ≤ 30 ∧ ∀ v ∈ l, v.length ≤ 40
  rotate_left
  · exact ev_neg (by simpa using h1) other
  have fl := few_of (by omega) h1
  refine ev_pos (decide_eq_true h1) (ev_bind (bothG_ev m (p := p) (l := l) ⟨by omega, fun v hv => by have := (hp2 v hv).1; omega⟩ ⟨by have := fl.1; omega, fun v hv => by have := fl.2 v hv; omega⟩) ?_)
  by_cases h2 : tabOk m p l
  rotate_left
  · exact ev_neg (fun h => h2 (of_decide_eq_true h)) other
  have p0 : 0 < p.length := h2.1.2.1.1
  have l0 : 0 < l.length := h2.2.1.1
  have sp := fit_small h2.1.2.1
  have sl := fit_small h2.2.1
  refine ev_pos (decide_eq_true h2) ?_
  by_cases h7 : (p.length : Int) ≥ 8
  · exact ev_pos h7 other
  refine ev_neg h7 (ev_pos (by omega) ?_)
  rw [show rd_L1 p 0 = rowOf p 0 from rdL_row p 0]
  refine ev_ob (alike_is (sp.2 _ (rowOf_mem p0))) ?_
  by_cases h3 : alike (rowOf p 0) v
  rotate_left
  · exact ev_neg (by simpa using h3) other
  refine ev_pos (decide_eq_true h3) (ev_ob (alike_is (sp.2 _ (rowOf_mem p0))) ?_)
  by_cases h4 : alike (rowOf p 0) more
  rotate_left
  · rw [decide_eq_false h4]; exact other
  rw [decide_eq_true h4]
  have pq := piv_more h2.1 (by omega) h4
  have q0 : rowOf (p ++ [more]) 0 = rowOf p 0 := row_app_l p0
  have tq : tabOk m (p ++ [more]) l := ⟨pq, h2.2.1, by rw [q0]; exact h2.2.2⟩
  have tv : tabOk m (p ++ [more]) [v] := ⟨pq, ⟨by simp, by simp, fun x hx => by rw [List.mem_singleton] at hx; subst hx; exact alike_self h3.2.1⟩, by rw [q0]; exact h3⟩
  have sq := fit_small pq.2.1
  have sv := fit_small tv.2.1
  have ap : ∀ x ∈ p, alike x v := fun x hx => alike_trans (alike_symm (h2.1.2.1.2.2 x hx)) h3
  have aq : ∀ x ∈ p ++ [more], alike x v := fun x hx => alike_trans (alike_symm (pq.2.1.2.2 x hx)) (by rw [q0]; exact h3)
  have pne : p ≠ [] := by intro h; rw [h] at p0; simp at p0
  have c1 := cover_ev m sp sl
  rw [if_pos h2] at c1
  have c2 := cover_ev m sq sl
  rw [if_pos tq] at c2
  have s1 : pivot_Shells.f m p l = some (shells m p l, 0) := (if_pos ⟨sp, sl⟩ : pivot_Shells.f m p l = _).trans (by rw [if_pos h2]; rfl)
  have s2 : pivot_Shells.f m (p ++ [more]) l = some (shells m (p ++ [more]) l, 0) := (if_pos ⟨sq, sl⟩ : pivot_Shells.f m (p ++ [more]) l = _).trans (by rw [if_pos tq]; rfl)
  have et := pivot_Table.ev (m := m) sq sv
  rw [if_pos tv, show tableOf m (p ++ [more]) [v] = [keysOf m (p ++ [more]) v] from rfl] at et
  have kl := keysOf_length m (p ++ [more]) v
  have kl1 := keysOf_length m p v
  have ql : (p ++ [more]).length = p.length + 1 := by simp
  have cl := cover_less (m := m) (l := l) pne more l.length
  refine ev_succ ?_
  simp only [antiquarylaw09_PivotMoreIsBetter.j0]
  refine ev_neg (by simp) (ev_ob rfl (ev_pos (by simp; omega) (ev_ob rfl (ev_pos (by simp; omega) (ev_ob rfl ?_)))))
  rw [List.nil_append]
  have rk : rd_L1 [keysOf m (p ++ [more]) v] 0 = keysOf m (p ++ [more]) v := rfl
  refine ev_bind c1 (ev_bind c2 (ev_ob s1 (ev_ob s2 (ev_bind et (ev_pos rfl (ev_pos rfl (ev_pos rfl (ev_pos rfl (ev_pos rfl (ev_pos rfl (ev_pos (by simp) (ev_pos ?_ ?_))))))))))))
  · dsimp only; rw [rk, kl]
  rw [show decide ((coverOf m (p ++ [more]) l, (0 : Int)).1 > (coverOf m p l, (0 : Int)).1) = false from decide_eq_false (by unfold coverOf; dsimp only; omega)]
  refine ev_succ ?_
  simp only [antiquarylaw09_PivotMoreIsBetter.j1]
  have tk : (keysOf m (p ++ [more]) v).take ((p.length : Int) : Int).toNat = keysOf m p v := by
    rw [Int.toNat_natCast, keysOf_snoc, ← kl1, List.take_left]
  have sl1 := shells_length m p l
  have sl2 := shells_length m (p ++ [more]) l
  have a1 := asked_shells h2 ap
  have a2 := asked_shells tq aq
  rw [rk, tk]
  refine ev_neg (by simp) (ev_pos (by simp) (ev_pos (by omega) (ev_pos (by omega) (ev_ob (low_is m (by omega) (by omega)) (ev_ob (low_is m (by omega) (by omega)) (ev_ob (high_is m (by omega) (by omega)) (ev_ob (high_is m (by omega) (by omega)) (ev_bind (near_ev m sp) (ev_bind (near_ev m sq) ?_))))))))) 
  have n1 : isNear m p v := ⟨h2.1, h3⟩
  have n2 : isNear m (p ++ [more]) v := ⟨pq, by rw [q0]; exact h3⟩
  rw [if_pos a1, if_pos a2, if_pos a1, if_pos a2, if_pos n1, if_pos n2]
  have same : ∀ j, j < p.length → rd_T57 (shells m (p ++ [more]) l) (j : Int) = rd_T57 (shells m p l) (j : Int) ∧ rd (keysOf m (p ++ [more]) v) (j : Int) = rd (keysOf m p v) (j : Int) := fun j hj => ⟨shells_more l0 hj, keys_more hj⟩
  have b1 : lowOf m (shells m p l) (keysOf m p v) (shells m p l).length ≤ lowOf m (shells m (p ++ [more]) l) (keysOf m (p ++ [more]) v) (shells m (p ++ [more]) l).length := by
    rw [sl1, sl2, ql]
    have e : lowOf m (shells m (p ++ [more]) l) (keysOf m (p ++ [more]) v) p.length = lowOf m (shells m p l) (keysOf m p v) p.length := best_more p.length same
    rw [← e]
    unfold lowOf
    simp only [bestAt]
    unfold mx
    split <;> omega
  have b2 : highOf m (shells m (p ++ [more]) l) (keysOf m (p ++ [more]) v) (shells m (p ++ [more]) l).length ≤ highOf m (shells m p l) (keysOf m p v) (shells m p l).length := by
    rw [sl1, sl2, ql]
    have e : highOf m (shells m (p ++ [more]) l) (keysOf m (p ++ [more]) v) p.length = highOf m (shells m p l) (keysOf m p v) p.length := best_more p.length same
    rw [← e]
    unfold highOf
    simp only [bestAt]
    unfold mn
    split <;> omega
  have b3 : lowOf m (shells m (p ++ [more]) l) (keysOf m (p ++ [more]) v) (shells m (p ++ [more]) l).length ≤ highOf m (shells m (p ++ [more]) l) (keysOf m (p ++ [more]) v) (shells m (p ++ [more]) l).length := by
    rw [sl2]
    have := bounds_hold tq aq l0 (p ++ [more]).length (Nat.le_refl _)
    omega
  obtain ⟨b4, b5⟩ := near_more (m := m) pne more v
  refine ev_pos rfl (ev_pos rfl (ev_pos rfl (ev_pos rfl (ev_pos rfl (ev_bind Sane.sanity_ev (ev_pos rfl (ev_pos rfl (ev_pos b1 (ev_pos b2 (ev_pos b3 (ev_pos b4 ?_)))))))))))
  rcases b5 with ⟨b5, b6⟩ | ⟨b5, b6⟩
  · exact ev_pos b5 (ev_pos b6 (ev_some rfl))
  · by_cases c : (nearIdx m (p ++ [more]) v, nearKey m (p ++ [more]) v, (0 : Int)).1 = (nearIdx m p v, nearKey m p v, (0 : Int)).1
    · refine ev_pos c (ev_neg ?_ (ev_pos b5 (ev_some (decide_eq_true b6))))
      dsimp only; omega
    · exact ev_neg c (ev_pos b5 (ev_some (decide_eq_true b6)))
end Go.Proofs.Ytoidpkpgeeeggaa.Pure
end
section
set_option linter.unusedVariables false
namespace Go.Proofs.Ytoidpkpgeeeggaa.Open
open Go.RowKit Go.Proofs.Ytoidpkpgeeeggaa.Q Go.Proofs.YtoidpkpgeeeggaaW.PrintWords Go.Deep
theorem open_rows {H : Type} {enc : TypeId × Value → H} {P : Program} {w : World} {base : Nat} {held : Bool} {t e q : TypeId} {a : Option Addr} {len cap : Nat} {d : DataW H} {ps : List MemPlace}
    (ht : P.underlying t = some (.slice e)) (he : P.underlying e = some (.slice q)) (hq : P.underlying q = some (.int .i64)) (ce : P.cellsOf e = 1) (cq : P.cellsOf q = 1) (h : DataW.Trod enc P w base (fun _ => true) held t (.slice a len cap) d ps) (ty : Nat) :
    ∃ l : List (List Int), l.length = len ∧ len ≤ cap ∧ cap ≤ maxLen ∧ Kd.C (Kd.slice ty (Kd.int .i64)) w a len l ∧ ∀ v ∈ l, v.length ≤ maxLen ∧ ∀ x ∈ v, (Lit.int .i64 x).wf = true := by
  obtain ⟨fuel, hf⟩ := h
  rcases open_int_rows ht he hq ce cq hf with ⟨hcs, _⟩ | ⟨x, len', cap', A, L, C, Z, hcs, _, hl, hm, _, hx⟩
  · simp [Value.cells] at hcs
    obtain ⟨rfl, rfl, rfl⟩ := hcs
    exact ⟨[], rfl, Nat.le_refl _, Nat.zero_le _, Kd.C_nil _ _, by simp⟩
  · simp [Value.cells] at hcs
    obtain ⟨rfl, rfl, rfl⟩ := hcs
    have hlen : ∀ r, r < cap → ((Z r).take (L r)).length = L r := fun r hr => by
      have := hx r hr
      rw [List.length_take]; omega
    refine ⟨(List.range len).map (fun r => (Z r).take (L r)), by simp, hl, hm, ⟨by simp, by have := hm; unfold maxLen at this; omega, fun _ => ⟨x, rfl, fun j p hp => ?_⟩⟩, ?_⟩
    · have hj : j < len := by
        rcases Nat.lt_or_ge j len with h | h
        · exact h
        · rw [List.getElem?_eq_none (by simp; omega)] at hp; cases hp
      rw [List.getElem?_map, List.getElem?_range hj] at hp
      cases hp
      obtain ⟨hc, hLC, hCm, hZ, hwf, hnone, hsome⟩ := hx j (by omega)
      have hL := hlen j (by omega)
      refine ⟨[.slice (A j) (L j) (C j)], rfl, ⟨A j, C j, by rw [hL], by rw [hL]; exact hLC, ?_⟩, fun i u hu => ?_⟩
      · refine ⟨rfl, by rw [hL]; unfold maxLen at hCm; omega, fun hpos => ?_⟩
        cases hA : A j with
        | none =>
          have hp2 : 0 < L j := by rw [← hL]; exact hpos
          have := hnone hA
          omega
        | some a' =>
          refine ⟨a', rfl, fun c p hp => ⟨[.int .i64 p], rfl, ?_, fun i u hu => ?_⟩⟩
          · exact rfl
          · have hc2 : c < L j := by
              have h6 : c < (List.take (L j) (Z j)).length := (List.getElem?_eq_some_iff.1 hp).1
              omega
            match i, hu with
            | 0, hu =>
              cases hu
              have h3 := (hsome a' hA).2 c (by omega)
              have h4 : (Z j).getD c 0 = p := by
                rw [List.getElem?_take, if_pos hc2] at hp
                rw [List.getD_eq_getElem?_getD, hp]; rfl
              rw [h4] at h3
              show w.cell? (a'.add (c * 1 + 0)) = _
              rw [Nat.mul_one]
              exact h3
            | i + 1, hu => simp at hu
      · match i, hu with
        | 0, hu => cases hu; simpa [Kd.slice] using hc
        | i + 1, hu => simp at hu
    · intro v hv
      obtain ⟨r, hr, rfl⟩ := List.mem_map.1 hv
      have hr := List.mem_range.1 hr
      obtain ⟨_, hLC, hCm, hZ, hwf, _⟩ := hx r (by omega)
      exact ⟨by rw [hlen r (by omega)]; omega, fun y hy => hwf y (List.mem_of_mem_take hy)⟩
end Go.Proofs.Ytoidpkpgeeeggaa.Open
end
