/- A part of the proof of PivotMoreIsBetter: what the row's text reaches (packed by a program of this claim out of its texts). -/
import Derived.Test.YtoidpkpgeeeggaaKPivotMoreIsBettera
import Derived.Shelf.Small.Bits
import Derived.Shelf.Strconv.Itoa0
import Derived.Shelf.Bits.Mul64
import Derived.Shelf.Slices.Turned
import Derived.Ground.Names2Prog
import Derived.Shelf.Slices.Clone
import Derived.Test.YtoidpkpgeeeggaaProg
import Derived.Below
import Derived.Deep.Draws
import Derived.Deep.AppendLies
import Derived.Maps.AppendAt
import Derived.OwnWalk
import Derived.Laws.BytesArg
import Derived.Laws.MakeOwn
import Derived.Laws.OwnMore
import Derived.Deep.OwnRows
import Derived.Tactics
import Derived.Lib.ConvBytes
import Derived.Laws.Slices
import Derived.WalkKit
import Derived.KernelRfl
import Derived.RowKit3
import Derived.Deep.LoopGhost
import Derived.Deep.QuietTactic
import Derived.BigQuiet
import Derived.WideLaws
import Derived.Deep.DeepCutAuto
import Derived.Deep.CutBlock
import Derived.Deep.RegionHeld3
import Derived.Laws.Rows
import Derived.Lib.AppendStr
import Derived.ArgAppend
import Derived.Laws.IdiomCopy
import Derived.OrdersHeld
import Derived.Laws.BitsLemmas
import Derived.RowKit
import Derived.IntWalk
import Derived.Lib.Hide
import Derived.Laws.EntriesVeiled
section
namespace Go.Proofs
open Go.Shelf
def Try.lays125_ren : Go.Shelf.Ren := ⟨fun | 125 => 102 | 128 => 103 | 129 => 104 | n => n, fun | 46 => 104 | 3 => 3 | 51 => 114 | 53 => 117 | 4 => 4 | 5 => 5 | 9 => 9 | n => n, fun | n => n⟩
theorem Try.lays125 : Go.Proofs.Lays.n125 Try.prog Try.lays125_ren := {
  mixed := by kernel_rfl
  f125 := Try.func102.trans (congrArg some (by kernel_rfl))
  f128 := Try.func103.trans (congrArg some (by kernel_rfl))
  f129 := Try.func104.trans (congrArg some (by kernel_rfl))
  t3 := Try.underlying3
  a3 := Try.isAgg3
  z3 := Try.sizeOf3
  v3 := Try.zeroValue3
  t4 := Try.underlying4
  a4 := Try.isAgg4
  z4 := Try.sizeOf4
  v4 := Try.zeroValue4
  t5 := Try.underlying5
  a5 := Try.isAgg5
  z5 := Try.sizeOf5
  v5 := Try.zeroValue5
  t9 := Try.underlying9
  a9 := Try.isAgg9
  z9 := Try.sizeOf9
  v9 := Try.zeroValue9
  t46 := Try.underlying104
  a46 := Try.isAgg104
  z46 := Try.sizeOf104
  v46 := Try.zeroValue104
  t51 := Try.underlying114
  a51 := Try.isAgg114
  z51 := Try.sizeOf114
  v51 := Try.zeroValue114
  t53 := Try.underlying117
  a53 := Try.isAgg117
  z53 := Try.sizeOf117
  v53 := Try.zeroValue117 }
/-- bits.Len: "Len returns the minimum number of bits required to represent x; the result is 0 for x == 0.": IT RETURNS 'Lib.bitLen x'; the world is as it was. (A uint has 64 bits in the model.) ITS CALLEE bits.Len64 IS MET BY ITS OWN CONTRACT OFF THE SHELF (lay that first). (LAID: no walk: one application.) -/
theorem Try.bits_Len (x : Int) (w : World) (h0 : 0 ≤ x) (h1 : x ≤ 18446744073709551615) :
    Calls Try.prog 102 #[.int .u64 x] w fun e w' => e = .returned (.int .i64 (Lib.bitLen x.toNat)) ∧ w' = w := Any.bits_Len Try.lays125 x w h0 h1
def Try.lays212_ren : Go.Shelf.Ren := ⟨fun | 212 => 74 | 263 => 91 | 264 => 92 | n => n, fun | 46 => 104 | 51 => 114 | 146 => 115 | 53 => 117 | 148 => 118 | n => n, fun | n => n⟩
theorem Try.lays212 : Go.Proofs.Lays.n212 Try.prog Try.lays212_ren := {
  mixed := by kernel_rfl
  f212 := Try.func74.trans (congrArg some (by kernel_rfl))
  f263 := Try.func91.trans (congrArg some (by kernel_rfl))
  f264 := Try.func92.trans (congrArg some (by kernel_rfl))
  t46 := Try.underlying104
  a46 := Try.isAgg104
  z46 := Try.sizeOf104
  v46 := Try.zeroValue104
  t51 := Try.underlying114
  a51 := Try.isAgg114
  z51 := Try.sizeOf114
  v51 := Try.zeroValue114
  t53 := Try.underlying117
  a53 := Try.isAgg117
  z53 := Try.sizeOf117
  v53 := Try.zeroValue117
  t146 := Try.underlying115
  a146 := Try.isAgg115
  z146 := Try.sizeOf115
  v146 := Try.zeroValue115
  t148 := Try.underlying118
  a148 := Try.isAgg118
  z148 := Try.sizeOf118
  v148 := Try.zeroValue118 }
open Go.RowKit Go.Lib in
/-- math/bits.Mul: "Mul returns the full-width product of x and y": on a machine of 64 bits: Mul64's. (LAID: no walk: one application.) -/
theorem Try.bits_Mul (x y : Nat) (hx : x < 18446744073709551616) (hy : y < 18446744073709551616) (w : World) :
    Calls Try.prog 74 #[.int .u64 x, .int .u64 y] w fun e w' => e = .returned (.tuple #[.int .u64 ((x * y / 18446744073709551616 : Nat) : Int), .int .u64 ((x * y % 18446744073709551616 : Nat) : Int)]) ∧ w' = w := Any.bits_Mul Try.lays212 x y hx hy w
def Try.lays113_ren : Go.Shelf.Ren := ⟨fun | 113 => 75 | n => n, fun | 28 => 23 | 3 => 3 | 4 => 4 | 9 => 9 | 20 => 20 | 0 => 0 | n => n, fun | n => n⟩
theorem Try.lays113 : Go.Proofs.Lays.n113 Try.prog Try.lays113_ren := {
  mixed := by kernel_rfl
  f113 := Try.func75.trans (congrArg some (by kernel_rfl))
  t0 := Try.underlying0
  a0 := Try.isAgg0
  z0 := Try.sizeOf0
  v0 := Try.zeroValue0
  t3 := Try.underlying3
  a3 := Try.isAgg3
  z3 := Try.sizeOf3
  v3 := Try.zeroValue3
  t4 := Try.underlying4
  a4 := Try.isAgg4
  z4 := Try.sizeOf4
  v4 := Try.zeroValue4
  t9 := Try.underlying9
  a9 := Try.isAgg9
  z9 := Try.sizeOf9
  v9 := Try.zeroValue9
  t20 := Try.underlying20
  a20 := Try.isAgg20
  z20 := Try.sizeOf20
  v20 := Try.zeroValue20
  t28 := Try.underlying23
  a28 := Try.isAgg23
  z28 := Try.sizeOf23
  v28 := Try.zeroValue23 }
open Go.Lib in
/-- slices.Max at []int: "Max returns the maximal value in x. It panics if x is empty.": OF A SLICE THAT IS NOT EMPTY IT RETURNS 'Lib.maxOf (the elements)'; the world is as it was. (Of an empty one it panics: no contract here.) (LAID: no walk: one application.) -/
theorem Try.slices_Max_int (b off n c : Nat) (zs : List Int) (w : World) (hn : 0 < n) (hz : n ≤ zs.length) (hbig : n ≤ 9223372036854775807) (hc : ∀ j, j < zs.length → w.cell? ⟨b, off + j, none⟩ = some (.int .i64 (zs.getD j 0))) :
    Calls Try.prog 75 #[.slice (some ⟨b, off, none⟩) n c] w fun e w' => e = .returned (.int .i64 (Lib.maxOf (zs.take n))) ∧ w' = w := Any.slices_Max_int Try.lays113 b off n c zs w hn hz hbig hc
def Try.lays114_ren : Go.Shelf.Ren := ⟨fun | 114 => 48 | n => n, fun | 28 => 23 | 3 => 3 | 4 => 4 | 9 => 9 | 20 => 20 | 0 => 0 | n => n, fun | n => n⟩
theorem Try.lays114 : Go.Proofs.Lays.n114 Try.prog Try.lays114_ren := {
  mixed := by kernel_rfl
  f114 := Try.func48.trans (congrArg some (by kernel_rfl))
  t0 := Try.underlying0
  a0 := Try.isAgg0
  z0 := Try.sizeOf0
  v0 := Try.zeroValue0
  t3 := Try.underlying3
  a3 := Try.isAgg3
  z3 := Try.sizeOf3
  v3 := Try.zeroValue3
  t4 := Try.underlying4
  a4 := Try.isAgg4
  z4 := Try.sizeOf4
  v4 := Try.zeroValue4
  t9 := Try.underlying9
  a9 := Try.isAgg9
  z9 := Try.sizeOf9
  v9 := Try.zeroValue9
  t20 := Try.underlying20
  a20 := Try.isAgg20
  z20 := Try.sizeOf20
  v20 := Try.zeroValue20
  t28 := Try.underlying23
  a28 := Try.isAgg23
  z28 := Try.sizeOf23
  v28 := Try.zeroValue23 }
open Go.Lib in
/-- slices.Min at []int: "Min returns the minimal value in x. It panics if x is empty.": OF A SLICE THAT IS NOT EMPTY IT RETURNS 'Lib.minOf (the elements)'; the world is as it was. (Of an empty one it panics: no contract here.) (LAID: no walk: one application.) -/
theorem Try.slices_Min_int (b off n c : Nat) (zs : List Int) (w : World) (hn : 0 < n) (hz : n ≤ zs.length) (hbig : n ≤ 9223372036854775807) (hc : ∀ j, j < zs.length → w.cell? ⟨b, off + j, none⟩ = some (.int .i64 (zs.getD j 0))) :
    Calls Try.prog 48 #[.slice (some ⟨b, off, none⟩) n c] w fun e w' => e = .returned (.int .i64 (Lib.minOf (zs.take n))) ∧ w' = w := Any.slices_Min_int Try.lays114 b off n c zs w hn hz hbig hc
def Try.laysNm215_ren : Go.Shelf.Ren := ⟨fun | 15 => 85 | n => n, fun | 22 => 23 | 3 => 3 | 4 => 4 | n => n, fun | n => n⟩
theorem Try.laysNm215 : Go.Proofs.Lays2.n15 Try.prog Try.laysNm215_ren := {
  mixed := by kernel_rfl
  f15 := Try.func85.trans (congrArg some (by kernel_rfl))
  t3 := Try.underlying3
  a3 := Try.isAgg3
  z3 := Try.sizeOf3
  v3 := Try.zeroValue3
  t4 := Try.underlying4
  a4 := Try.isAgg4
  z4 := Try.sizeOf4
  v4 := Try.zeroValue4
  t22 := Try.underlying23
  a22 := Try.isAgg23
  z22 := Try.sizeOf23
  v22 := Try.zeroValue23
  i3 := by kernel_rfl }
open Go.RowKit Go.Lib in
/-- slices.Clone at []int: "Clone returns a copy of the slice. The elements are copied using assignment, so this is a shallow clone. The result may have additional unused capacity. The result preserves the nilness of s.": OF A SLICE THAT IS NOT nil IT RETURNS A SLICE THAT IS NOT nil, OF THE SAME ELEMENTS, IN MEMORY OF THE CALL's OWN: in the how-to's words (6f): 'w'.ownsRow B e 1 v' n cells': v' begins at the head of a row among the blocks from B on (B: the heap's size at the call), not frozen, whose first cells are the elements · 'Below B w w'': below B all is as it was. The capacity is whatever the run-time gives. 'zs': what the cells behind the slice's address hold; 'zs.take n': its elements. (LAID: no walk: one application.) -/
theorem Try.slices_Clone_int (b off n c : Nat) (zs : List Int) (w : World) (hz : n ≤ zs.length) (hbig : n * 8 ≤ 140737488355328) (hc : ∀ j, j < zs.length → w.cell? ⟨b, off + j, none⟩ = some (.int .i64 (zs.getD j 0))) :
    Calls Try.prog 85 #[.slice (some ⟨b, off, none⟩) n c] w fun e w' => ∃ v', e = .returned v' ∧ w'.ownsRow w.heap.size 3 1 v' n ((zs.take n).map (Value.int .i64)) ∧ v' ≠ .slice none 0 0 ∧ Below w.heap.size w w' := Any.slices_Clone_int Try.laysNm215 b off n c zs w hz hbig hc
open Go.RowKit Go.Lib in
/-- The same at nil: nil comes back; the world is as it was. (LAID: no walk: one application.) -/
theorem Try.slices_Clone_int_nil (n c : Nat) (w : World) :
    Calls Try.prog 85 #[.slice none n c] w fun e w' => e = .returned (.slice none 0 0) ∧ w' = w := Any.slices_Clone_int_nil Try.laysNm215 n c w
open Go.RowKit Go.Lib in
/-- The same at a slice of length 0 that is not nil, WHATEVER ITS ADDRESS (no cell is asked for): a slice that is not nil and owns nothing comes back. (LAID: no walk: one application.) -/
theorem Try.slices_Clone_int_zero (a : Addr) (c : Nat) (w : World) :
    Calls Try.prog 85 #[.slice (some a) 0 c] w fun e w' => ∃ v', e = .returned v' ∧ w'.ownsRow w.heap.size 3 1 v' 0 [] ∧ v' ≠ .slice none 0 0 ∧ Below w.heap.size w w' := Any.slices_Clone_int_zero Try.laysNm215 a c w
end Go.Proofs
end
section
namespace Go.Proofs.Ytoidpkpgeeeggaa.Q
open Go.RowKit Go.Proofs.YtoidpkpgeeeggaaW.PrintWords Go.Proofs.YtoidpkpgeeeggaaW.PrintLast Go.Proofs.YtoidpkpgeeeggaaW.PrintMore
attribute [local go_sem] max2_int min2_int max_two min_two max_three min_three max_four min_four   -- for this text's walks alone
set_option linter.unusedVariables false
set_option linter.unusedSimpArgs false
def errW : Option Int → Value
  | none => .nilIface
  | some c => .iface 0 (.int .i64 c)
theorem errW_none : errW none = .nilIface := rfl
theorem errW_some (c : Int) : errW (some c) = .iface 0 (.int .i64 c) := rfl
theorem info3 : (Try.prog.info? 3).map (fun i => (i.zero, i.size, i.bytes)) = some (some (.int .i64 0), 1, 8) := by kernel_rfl
theorem info23 : (Try.prog.info? 23).map (fun i => (i.zero, i.size, i.bytes)) = some (some (.slice none 0 0), 1, 24) := by kernel_rfl
theorem info57 : (Try.prog.info? 57).map (fun i => (i.zero, i.size, i.bytes)) = some (some (.agg #[(.int .i64 0), (.int .i64 0)]), 2, 16) := by kernel_rfl
-- the values' own types
def rd_L1 (xs : List (List Int)) (i : Int) : (List Int) := xs.getD i.toNat ([] : List Int)
theorem at_L1 {w : World} {A : Option Addr} {n : Nat} {xs : List (List Int)} (h : Kd.C (Kd.slice 3 (Kd.int .i64)) w A n xs) (i : Int) (h0 : 0 ≤ i) (h1 : i < n) : ∃ ad A0 c0, A = some ad ∧ w.cell? (ad.add i.toNat) = some (.slice A0 (rd_L1 xs i).length c0) ∧ (rd_L1 xs i).length ≤ c0 ∧ (Kd.int .i64).C w A0 (rd_L1 xs i).length (rd_L1 xs i) := by
  obtain ⟨ad, c, e, _, hK, hc0⟩ := Kd.C_get h ([] : List Int) i h0 h1
  have hc : ∀ j u, c[j]? = some u → w.cell? (ad.add (i.toNat * 1 + j)) = some u := hc0
  obtain ⟨A0, c0, rfl, l0, g0⟩ := hK
  exact ⟨ad, A0, c0, e, by have hq := hc 0 _ rfl; rwa [Nat.mul_one, Nat.add_zero] at hq, l0, g0⟩
structure S57 where
  f0 : Int
  f1 : Int
def z57 : S57 := ⟨(0 : Int), (0 : Int)⟩
def k57 : Kd S57 := Kd.iso (Kd.pair (Kd.int .i64) (Kd.int .i64)) (fun x : S57 => (x.f0, x.f1))
theorem k57_open {w : World} {x : S57} {cs : List Value} (h : k57.K w x cs) : cs = [.int .i64 x.f0, .int .i64 x.f1] := by
  obtain ⟨_, _, rfl, rfl, rfl⟩ := h
  exact rfl
theorem k57_mkM (w : World) (base : Nat) (ok : Nat → Prop) (x : S57)  : k57.M w base ok x [.int .i64 x.f0, .int .i64 x.f1] := ⟨[.int .i64 x.f0], [.int .i64 x.f1], rfl, rfl, rfl⟩
def rd_T57 (xs : List S57) (i : Int) : S57 := xs.getD i.toNat z57
theorem at_T57 {w : World} {A : Option Addr} {n : Nat} {xs : List S57} (h : Kd.C k57 w A n xs) (i : Int) (h0 : 0 ≤ i) (h1 : i < n) : ∃ ad , A = some ad ∧ w.cell? (ad.add (i.toNat * 2)) = some (.int .i64 (rd_T57 xs i).f0) ∧ w.cell? ⟨(ad.add (i.toNat * 2)).block, (ad.add (i.toNat * 2)).off + 1, none⟩ = some (.int .i64 (rd_T57 xs i).f1) := by
  obtain ⟨ad, c, e, _, hK, hc0⟩ := Kd.C_get h z57 i h0 h1
  have hc : ∀ j u, c[j]? = some u → w.cell? (ad.add (i.toNat * 2 + j)) = some u := hc0
  obtain rfl := k57_open hK
  exact ⟨ad, e, hc 0 _ rfl, by rw [← add_field _ _ 1 (by omega)]; exact hc 1 _ rfl⟩
end Go.Proofs.Ytoidpkpgeeeggaa.Q
end
section
namespace Go.Proofs.Ytoidpkpgeeeggaa.Q
open Go.RowKit Go.Proofs.YtoidpkpgeeeggaaW.PrintWords Go.Proofs.YtoidpkpgeeeggaaW.PrintLast Go.Proofs.YtoidpkpgeeeggaaW.PrintMore
attribute [local go_sem] max2_int min2_int max_two min_two max_three min_three max_four min_four   -- for this text's walks alone
set_option linter.unusedVariables false
set_option linter.unusedSimpArgs false
def antiquaryref09_Few.l0 : Nat → List (List Int) → Int → Option (Bool)
  | 0, _, _ => none
  | k + 1, x0, x5 => if x5 < (x0.length : Int) then (if 0 ≤ x5 then (if ((rd_L1 x0 x5).length : Int) > 40 then (some false) else (antiquaryref09_Few.l0 k x0 (wrap64 (x5 + 1)))) else (none)) else (some true)
def antiquaryref09_Few.f (k : Nat) (l0 : List (List Int)) (a1 : Int) : Option (Bool) := if (l0.length : Int) > a1 then (some false) else (antiquaryref09_Few.l0 k l0 0)
set_option maxHeartbeats 8000000 in
set_option maxRecDepth 100000 in
theorem antiquaryref09_Few.calls (k : Nat) (A0 : Option Addr) (c0 : Nat) (l0 : List (List Int)) (a1 : Int) (r : Bool) (w : World) (hr0 : Kd.C (Kd.slice 3 (Kd.int .i64)) w A0 l0.length l0) (hc0 : l0.length ≤ c0) (h : antiquaryref09_Few.f k l0 a1 = some r) :
    Calls Try.prog 9 #[.slice A0 l0.length c0, .int .i64 a1] w fun e w' => e = .returned (.bool r) ∧ Drawn0 w w' := by
  have HR0 := Aside0.mk hr0
  have HC0 := Aside0.mk hc0
  clear hr0 hc0
  have H : (if (l0.length : Int) > a1 then (some false) else (antiquaryref09_Few.l0 k l0 0)) = some r := h
  clear h
  by_cases c3 : (l0.length : Int) > a1
  · rw [if_pos c3] at H
    have c3b0 : decide (a1 < (l0.length : Int)) = true := decide_eq_true c3
    clear c3
    obtain rfl := Option.some.inj H
    go_enter Try.func9, Try.ntmps9
    go_wp2
    go_ret
    exact ⟨by first | rfl | (simp; done) | (simp [*]; done), by repeat (first | exact Drawn0.refl _ | apply Drawn0.step)⟩
  · rw [if_neg c3] at H
    have c3b0 : decide (a1 < (l0.length : Int)) = false := decide_eq_false c3
    clear c3
    have H' := Aside0.mk H
    clear H
    go_enter Try.func9, Try.ntmps9
    go_wp2
    go_loopg [5] k (fun kq v5 w' => ∃ (x5_1 : Int), v5 = .int .i64 x5_1 ∧ Aside0 (antiquaryref09_Few.l0 kq l0 x5_1 = some r) ∧ Aside0 (kq ≤ k) ∧ Drawn0 w w')
    case atStart => exact ⟨(0), (by first | rfl | (simp; done) | (simp [*]; done)), H', ⟨Nat.le_refl _⟩, by repeat (first | exact Drawn0.refl _ | apply Drawn0.step)⟩
    case round =>
      clear H'
      try clear p2
      try clear c3
      try clear c3b0
      obtain ⟨x5_1, rfl, HA, HK1, ⟨m1, rfl⟩⟩ := hrel
      cases gk with
      | zero => exact absurd HA.out (by simp [antiquaryref09_Few.l0])
      | succ k1 =>
        have H := HA.out
        clear HA
        simp only [antiquaryref09_Few.l0] at H
        by_cases c4 : x5_1 < (l0.length : Int)
        · rw [if_pos c4] at H
          have c4b0 : decide (x5_1 < (l0.length : Int)) = true := decide_eq_true c4
          clear c4
          by_cases c5 : 0 ≤ x5_1
          · rw [if_pos c5] at H
            have c5b0 : decide (0 ≤ x5_1) = true := decide_eq_true c5
            clear c5
            by_cases c6 : ((rd_L1 l0 x5_1).length : Int) > 40
            · rw [if_pos c6] at H
              have c6b0 : decide (40 < ((rd_L1 l0 x5_1).length : Int)) = true := decide_eq_true c6
              have c6b1 : decide (40 < (rd_L1 l0 x5_1).length) = true := decide_eq_true (by omega)
              clear c6
              obtain rfl := Option.some.inj H
              have p101 : 0 ≤ (x5_1 : Int) := of_decide_eq_true (by first | (with_reducible assumption) | assumption)
              have q101 : x5_1 < (l0.length : Int) := of_decide_eq_true (by first | (with_reducible assumption) | assumption)
              obtain ⟨ad101, A101_0, c101_0, e101, hx101_0, hl101_0, hi101_0⟩ := at_L1 HR0.out x5_1 p101 q101
              cases e101
              have HR101_0 := Aside0.mk hi101_0
              have HC101_0 := Aside0.mk hl101_0
              clear hi101_0 hl101_0
              replace p101 := eq_true p101
              replace q101 := eq_true q101
              go_wp2
              go_ret
              exact ⟨by first | rfl | (simp; done) | (simp [*]; done), by repeat (first | exact Drawn0.refl _ | apply Drawn0.step)⟩
            · rw [if_neg c6] at H
              have c6b0 : decide (40 < ((rd_L1 l0 x5_1).length : Int)) = false := decide_eq_false c6
              have c6b1 : decide (40 < (rd_L1 l0 x5_1).length) = false := decide_eq_false (by omega)
              clear c6
              have H' := Aside0.mk H
              clear H
              have p101 : 0 ≤ (x5_1 : Int) := of_decide_eq_true (by first | (with_reducible assumption) | assumption)
              have q101 : x5_1 < (l0.length : Int) := of_decide_eq_true (by first | (with_reducible assumption) | assumption)
              obtain ⟨ad101, A101_0, c101_0, e101, hx101_0, hl101_0, hi101_0⟩ := at_L1 HR0.out x5_1 p101 q101
              cases e101
              have HR101_0 := Aside0.mk hi101_0
              have HC101_0 := Aside0.mk hl101_0
              clear hi101_0 hl101_0
              replace p101 := eq_true p101
              replace q101 := eq_true q101
              go_wp2
              go_roundg k1
              case measure => have := HK1.out; omega
              case rel => exact ⟨(wrap64 (x5_1 + 1)), (by first | rfl | (simp; done) | (simp [*]; done)), H', ⟨by have := HK1.out; omega⟩, by repeat (first | exact Drawn0.refl _ | apply Drawn0.step)⟩
          · rw [if_neg c5] at H
            exact absurd H (by simp)
        · rw [if_neg c4] at H
          have c4b0 : decide (x5_1 < (l0.length : Int)) = false := decide_eq_false c4
          clear c4
          obtain rfl := Option.some.inj H
          go_wp2
          go_ret
          exact ⟨by first | rfl | (simp; done) | (simp [*]; done), by repeat (first | exact Drawn0.refl _ | apply Drawn0.step)⟩
def metric_clamp_int.f (a0 : Int) (a1 : Int) (a2 : Int) : Option (Int) := some (mx a1 (mn a0 a2))
set_option maxHeartbeats 400000 in
theorem metric_clamp_int.calls (a0 : Int) (a1 : Int) (a2 : Int) (r : Int) (w : World) (h : metric_clamp_int.f a0 a1 a2 = some r) :
    Calls Try.prog 80 #[.int .i64 a0, .int .i64 a1, .int .i64 a2] w fun e w' => e = .returned (.int .i64 r) ∧ Drawn0 w w' := by
  obtain rfl := Option.some.inj h
  clear h
  obtain ⟨x, hx⟩ : ∃ x, mn a0 a2 = x := ⟨_, rfl⟩
  obtain ⟨y, hy⟩ : ∃ y, mx a1 x = y := ⟨_, rfl⟩
  rw [hx, hy]
  unfold mn at hx
  unfold mx at hy
  go_enter Try.func80, Try.ntmps80
  go_wp2
  go_ret
  exact ⟨rfl, Drawn0.refl _⟩
def metric_Valid.f (a0 : Int) (a1 : Int) : Option (Bool) := if a0 ≥ 1 then (if a0 ≤ 3 then ((metric_clamp_int.f a1 0 134217728).bind fun t102 => (some (t102 == a1))) else (some false)) else (some false)
set_option maxHeartbeats 8000000 in
set_option maxRecDepth 100000 in
theorem metric_Valid.calls (a0 : Int) (a1 : Int) (r : Bool) (w : World) (h : metric_Valid.f a0 a1 = some r) :
    Calls Try.prog 71 #[.int .i64 a0, .int .i64 a1] w fun e w' => e = .returned (.bool r) ∧ Drawn0 w w' := by
  have H : (if a0 ≥ 1 then (if a0 ≤ 3 then ((metric_clamp_int.f a1 0 134217728).bind fun t102 => (some (t102 == a1))) else (some false)) else (some false)) = some r := h
  clear h
  by_cases c3 : a0 ≥ 1
  · rw [if_pos c3] at H
    have c3b0 : decide (1 ≤ a0) = true := decide_eq_true c3
    clear c3
    by_cases c4 : a0 ≤ 3
    · rw [if_pos c4] at H
      have c4b0 : decide (a0 ≤ 3) = true := decide_eq_true c4
      clear c4
      replace H := Option.bind_eq_some_iff.mp H
      obtain ⟨t102, A50, H⟩ := H
      replace H : (some (t102 == a1)) = some r := H
      have A5 := Aside0.mk A50
      clear A50
      obtain rfl := Option.some.inj H
      go_enter Try.func71, Try.ntmps71
      go_wp2_with (first | (go_at_call 80; (with_reducible refine (metric_clamp_int.calls a1 0 134217728 t102 _ A5.out).mono ?_); rintro e w' ⟨rfl, ⟨nd, rfl⟩⟩))
      go_ret
      exact ⟨by first | rfl | (simp; done) | (simp [*]; done), by repeat (first | exact Drawn0.refl _ | apply Drawn0.step)⟩
    · rw [if_neg c4] at H
      have c4b0 : decide (a0 ≤ 3) = false := decide_eq_false c4
      clear c4
      obtain rfl := Option.some.inj H
      go_enter Try.func71, Try.ntmps71
      go_wp2
      go_ret
      exact ⟨by first | rfl | (simp; done) | (simp [*]; done), by repeat (first | exact Drawn0.refl _ | apply Drawn0.step)⟩
  · rw [if_neg c3] at H
    have c3b0 : decide (1 ≤ a0) = false := decide_eq_false c3
    clear c3
    obtain rfl := Option.some.inj H
    go_enter Try.func71, Try.ntmps71
    go_wp2
    go_ret
    exact ⟨by first | rfl | (simp; done) | (simp [*]; done), by repeat (first | exact Drawn0.refl _ | apply Drawn0.step)⟩
def pivot_isMetric.f (a0 : Int) : Option (Bool) := (metric_Valid.f a0 0).bind fun t103 => (some t103)
set_option maxHeartbeats 8000000 in
set_option maxRecDepth 100000 in
theorem pivot_isMetric.calls (a0 : Int) (r : Bool) (w : World) (h : pivot_isMetric.f a0 = some r) :
    Calls Try.prog 41 #[.int .i64 a0] w fun e w' => e = .returned (.bool r) ∧ Drawn0 w w' := by
  have H : ((metric_Valid.f a0 0).bind fun t103 => (some t103)) = some r := h
  clear h
  replace H := Option.bind_eq_some_iff.mp H
  obtain ⟨t103, A20, H⟩ := H
  replace H : (some t103) = some r := H
  have A2 := Aside0.mk A20
  clear A20
  obtain rfl := Option.some.inj H
  go_enter Try.func41, Try.ntmps41
  go_wp2_with (first | ((with_reducible refine gate_callee (f := 71) rfl ?_); refine goesL_ (some 4) rfl rfl Try.func71 (by kernel_rfl) rfl #[.int .i64 a0, .int .i64 0] rfl (by (try simp only [List.map_toArray, List.map_cons, List.map_nil]); first | done | rfl | (simp only [List.length_drop, List.length_take]; rfl)) ?_; (with_reducible refine (metric_Valid.calls a0 0 t103 _ A2.out).mono ?_); rintro e w' ⟨rfl, ⟨nd, rfl⟩⟩; refine ⟨_, rfl, ?_⟩))
  go_ret
  exact ⟨by first | rfl | (simp; done) | (simp [*]; done), by repeat (first | exact Drawn0.refl _ | apply Drawn0.step)⟩
theorem vector_valid_1.calls (b : Bool) (x : Int) (w : World) : Calls Try.prog 78 #[.bool b, .int .i64 x] w fun e w' => e = .returned (.bool (b && decide (-1000 ≤ x ∧ x ≤ 1000))) ∧ Drawn0 w w' := by
  cases b
  · go_enter Try.func78, Try.ntmps78
    go_wp2
    go_ret
    exact ⟨rfl, Drawn0.refl _⟩
  · by_cases h1 : -1000 ≤ x
    · by_cases h2 : x ≤ 1000
      · rw [decide_eq_true (p := -1000 ≤ x ∧ x ≤ 1000) ⟨h1, h2⟩]
        go_enter Try.func78, Try.ntmps78
        go_wp2
        go_ret
        exact ⟨rfl, Drawn0.refl _⟩
      · rw [decide_eq_false (p := -1000 ≤ x ∧ x ≤ 1000) (fun h => h2 h.2)]
        have h2' : decide (x ≤ 1000) = false := decide_eq_false h2
        go_enter Try.func78, Try.ntmps78
        go_wp2
        go_ret
        exact ⟨rfl, Drawn0.refl _⟩
    · rw [decide_eq_false (p := -1000 ≤ x ∧ x ≤ 1000) (fun h => h1 h.1)]
      have h1' : decide (-1000 ≤ x) = false := decide_eq_false h1
      go_enter Try.func78, Try.ntmps78
      go_wp2
      go_ret
      exact ⟨rfl, Drawn0.refl _⟩
set_option maxHeartbeats 400000 in
set_option maxRecDepth 100000 in
theorem vector_fold_bool.calls (g : Bool → Int → Bool) (ok : Nat → Bool → Prop) (A : Option Addr) (c : Nat) (l : List Int) (b : Bool) (w : World) (hr : Kd.C (Kd.int .i64) w A l.length l) (hl : l.length ≤ 4611686018427387904)
    (h0 : ok 0 b) (hs : ∀ k acc, k < l.length → ok k acc → ok (k + 1) (g acc (rd l (k : Int))))
    (hK : ∀ (k : Nat) (acc : Bool) (w : World), k < l.length → ok k acc → Calls Try.prog 78 #[.bool acc, .int .i64 (rd l (k : Int))] w fun e w' => e = .returned (.bool (g acc (rd l (k : Int)))) ∧ Drawn0 w w') :
    Calls Try.prog 77 #[.slice A l.length c, .bool b, .func (.func 78) #[] #[]] w fun e w' => e = .returned (.bool (l.foldl g b)) ∧ Drawn0 w w' := by
  have HR := Aside0.mk hr
  have HK := Aside0.mk hK
  have HS := Aside0.mk hs
  have H0 := Aside0.mk h0
  clear hr hK hs h0
  go_enter Try.func77, Try.ntmps77
  go_wp2
  go_loopw [1, 11] (fun v i wr => ∃ (k : Nat) (acc : Bool), k ≤ l.length ∧ i = .int .i64 k ∧ v = .bool acc ∧ Aside0 (acc = (l.take k).foldl g b) ∧ Aside0 (ok k acc) ∧ Drawn0 w wr) (fun _ i _ => l.length - (intOf i).toNat)
  case atStart => exact ⟨0, b, Nat.zero_le _, rfl, rfl, ⟨rfl⟩, H0, Drawn0.refl _⟩
  case round =>
    obtain ⟨k, acc, hk, rfl, rfl, hacc, hok, hd⟩ := hrel
    by_cases hlt : k < l.length
    · have HC := Aside0.mk (HK.out k acc · hlt hok.out)
      have HO := Aside0.mk (HS.out k acc hlt hok.out)
      have p1 : (0 : Int) ≤ (k : Int) := by omega
      have q1 : (k : Int) < (l.length : Int) := by omega
      obtain ⟨ad, e1, hx⟩ := Kd.at_int HR.out (k : Int) p1 q1
      cases e1
      obtain ⟨n, rfl⟩ := hd.out
      clear hd
      rw [Int.toNat_natCast] at hx
      have hsn : Aside0 (g acc (rd l (k : Int)) = (l.take (k + 1)).foldl g b) := ⟨by
        rw [List.take_succ_eq_append_getElem hlt, List.foldl_append, ← hacc.out]; unfold rd; simp [hlt]⟩
      generalize rd l (k : Int) = x at *
      go_wp2_with fail
      refine (HC.out _).mono ?_
      rintro e w1 ⟨rfl, hd1⟩
      go_wp2
      go_roundw
      case rel => exact ⟨k + 1, _, by omega, by go_num, rfl, hsn, HO, ⟨by obtain ⟨m, hm⟩ := hd1.out; exact ⟨n + m, by rw [hm, World.drewN_drewN]⟩⟩⟩
      case measure => simp [intOf]; omega
    · go_wp2
      go_ret
      exact ⟨by rw [hacc.out, List.take_of_length_le (by omega)]; rfl, hd⟩
theorem vector_all (l : List Int) (b : Bool) : l.foldl (fun b x => b && decide (-1000 ≤ x ∧ x ≤ 1000)) b = (b && decide (∀ x ∈ l, -1000 ≤ x ∧ x ≤ 1000)) := by
  induction l generalizing b with
  | nil => simp
  | cons x l ih =>
    rw [List.foldl_cons, ih, Bool.and_assoc]
    congr 1
    rw [Bool.eq_iff_iff, Bool.and_eq_true, decide_eq_true_eq, decide_eq_true_eq, decide_eq_true_eq]
    constructor
    · rintro ⟨h1, h2⟩ y hy
      rcases List.mem_cons.mp hy with rfl | hy
      · exact h1
      · exact h2 y hy
    · exact fun h => ⟨h x List.mem_cons_self, fun y hy => h y (List.mem_cons_of_mem _ hy)⟩
def vector_Valid.f (l0 : List Int) : Option Bool := if l0.length ≤ 4611686018427387904 then some (decide (Plain.isVec l0)) else none
set_option maxHeartbeats 400000 in
theorem vector_Valid.calls (A0 : Option Addr) (c0 : Nat) (l0 : List Int) (r : Bool) (w : World) (hr0 : Kd.C (Kd.int .i64) w A0 l0.length l0) (hc0 : l0.length ≤ c0) (h : vector_Valid.f l0 = some r) :
    Calls Try.prog 54 #[.slice A0 l0.length c0] w fun e w' => e = .returned (.bool r) ∧ Drawn0 w w' := by
  unfold vector_Valid.f at h
  split at h
  · rename_i hb
    obtain rfl := Option.some.inj h
    clear h hc0
    have HF := Aside0.mk (fun W hW => vector_fold_bool.calls (fun b x => b && decide (-1000 ≤ x ∧ x ≤ 1000)) (fun _ _ => True) A0 c0 l0 true W hW hb trivial (fun _ _ _ _ => trivial) (fun k acc w _ _ => vector_valid_1.calls acc _ w))
    have HR := Aside0.mk hr0
    clear hr0
    rw [vector_all l0 true] at HF
    by_cases h1 : ∀ x ∈ l0, -1000 ≤ x ∧ x ≤ 1000
    · rw [decide_eq_true h1] at HF
      by_cases h2 : 1 ≤ l0.length
      · have i2 : (1 : Int) ≤ (l0.length : Int) := by omega
        by_cases h3 : l0.length ≤ 32
        · have i3 : (l0.length : Int) ≤ 32 := by omega
          rw [decide_eq_true (p := Plain.isVec l0) ⟨h1, h2, h3⟩]
          clear h1
          go_enter Try.func54, Try.ntmps54
          go_wp2_with fail
          refine (HF.out _ HR.out).mono ?_
          rintro e w1 ⟨rfl, hd⟩
          go_wp2
          go_ret
          exact ⟨rfl, hd⟩
        · have i3 : decide ((l0.length : Int) ≤ 32) = false := by simp; omega
          rw [decide_eq_false (p := Plain.isVec l0) (fun h => h3 h.2.2)]
          clear h1
          go_enter Try.func54, Try.ntmps54
          go_wp2_with fail
          refine (HF.out _ HR.out).mono ?_
          rintro e w1 ⟨rfl, hd⟩
          go_wp2
          go_ret
          exact ⟨rfl, hd⟩
      · have i2 : decide ((1 : Int) ≤ (l0.length : Int)) = false := by simp; omega
        rw [decide_eq_false (p := Plain.isVec l0) (fun h => h2 h.2.1)]
        clear h1
        go_enter Try.func54, Try.ntmps54
        go_wp2_with fail
        refine (HF.out _ HR.out).mono ?_
        rintro e w1 ⟨rfl, hd⟩
        go_wp2
        go_ret
        exact ⟨rfl, hd⟩
    · rw [decide_eq_false h1] at HF
      rw [decide_eq_false (p := Plain.isVec l0) (fun h => h1 h.1)]
      clear h1
      go_enter Try.func54, Try.ntmps54
      go_wp2_with fail
      refine (HF.out _ HR.out).mono ?_
      rintro e w1 ⟨rfl, hd⟩
      go_wp2
      go_ret
      exact ⟨rfl, hd⟩
  · cases h
def vector_Alike.f (l0 : List Int) (l1 : List Int) : Option (Bool) := if (l0.length : Int) = (l1.length : Int) then ((vector_Valid.f l0).bind fun t104 => (if t104 = true then ((vector_Valid.f l1).bind fun t105 => (some t105)) else (some false))) else (some false)
set_option maxHeartbeats 8000000 in
set_option maxRecDepth 100000 in
theorem vector_Alike.calls (A0 : Option Addr) (c0 : Nat) (l0 : List Int) (A1 : Option Addr) (c1 : Nat) (l1 : List Int) (r : Bool) (w : World) (hr0 : Kd.C (Kd.int .i64) w A0 l0.length l0) (hc0 : l0.length ≤ c0) (hr1 : Kd.C (Kd.int .i64) w A1 l1.length l1) (hc1 : l1.length ≤ c1) (h : vector_Alike.f l0 l1 = some r) :
    Calls Try.prog 22 #[.slice A0 l0.length c0, .slice A1 l1.length c1] w fun e w' => e = .returned (.bool r) ∧ Drawn0 w w' := by
  have HR0 := Aside0.mk hr0
  have HC0 := Aside0.mk hc0
  clear hr0 hc0
  have HR1 := Aside0.mk hr1
  have HC1 := Aside0.mk hc1
  clear hr1 hc1
  have H : (if (l0.length : Int) = (l1.length : Int) then ((vector_Valid.f l0).bind fun t104 => (if t104 = true then ((vector_Valid.f l1).bind fun t105 => (some t105)) else (some false))) else (some false)) = some r := h
  clear h
  by_cases c3 : (l0.length : Int) = (l1.length : Int)
  · rw [if_pos c3] at H
    have c3b0 : ((l0.length : Int) == (l1.length : Int)) = true := beq_iff_eq.mpr c3
    have c3b1 : ((l0.length : Int) != (l1.length : Int)) = false := bne_eq_false_iff_eq.mpr c3
    have c3b2 : (l0.length == l1.length) = true := by first | simpa using c3 | (simp at c3 ⊢; omega)
    clear c3
    replace H := Option.bind_eq_some_iff.mp H
    obtain ⟨t104, A40, H⟩ := H
    replace H : (if t104 = true then ((vector_Valid.f l1).bind fun t105 => (some t105)) else (some false)) = some r := H
    have A4 := Aside0.mk A40
    clear A40
    by_cases c5 : t104 = true
    · subst c5
      have H1 : ((vector_Valid.f l1).bind fun t105 => (some t105)) = some r := by rw [if_pos rfl] at H; exact H
      clear H
      have H := H1
      clear H1
      replace H := Option.bind_eq_some_iff.mp H
      obtain ⟨t105, A60, H⟩ := H
      replace H : (some t105) = some r := H
      have A6 := Aside0.mk A60
      clear A60
      obtain rfl := Option.some.inj H
      go_enter Try.func22, Try.ntmps22
      go_wp2_with (first | (go_at_call 54; (with_reducible refine (vector_Valid.calls _ _ l0 true _ ?side1 ?side2 A4.out).mono ?_); (case side1 => repeat (first | exact HR0.out | (with_reducible refine Kd.C_alloc ?_ _) | (with_reducible refine Kd.C_drewN ?_ _) | (with_reducible refine Kd.C_drew ?_))); (case side2 => exact HC0.out); rintro e w' ⟨rfl, ⟨nd, rfl⟩⟩) | (go_at_call 54; (with_reducible refine (vector_Valid.calls _ _ l1 t105 _ ?side1 ?side2 A6.out).mono ?_); (case side1 => repeat (first | exact HR1.out | (with_reducible refine Kd.C_alloc ?_ _) | (with_reducible refine Kd.C_drewN ?_ _) | (with_reducible refine Kd.C_drew ?_))); (case side2 => exact HC1.out); rintro e w' ⟨rfl, ⟨nd, rfl⟩⟩))
      go_ret
      exact ⟨by first | rfl | (simp; done) | (simp [*]; done), by repeat (first | exact Drawn0.refl _ | apply Drawn0.step)⟩
    · replace c5 := Bool.eq_false_iff.mpr c5
      subst c5
      have H1 : (some false) = some r := by rw [if_neg (show ¬ (false = true) by decide)] at H; exact H
      clear H
      have H := H1
      clear H1
      obtain rfl := Option.some.inj H
      go_enter Try.func22, Try.ntmps22
      go_wp2_with (first | (go_at_call 54; (with_reducible refine (vector_Valid.calls _ _ l0 false _ ?side1 ?side2 A4.out).mono ?_); (case side1 => repeat (first | exact HR0.out | (with_reducible refine Kd.C_alloc ?_ _) | (with_reducible refine Kd.C_drewN ?_ _) | (with_reducible refine Kd.C_drew ?_))); (case side2 => exact HC0.out); rintro e w' ⟨rfl, ⟨nd, rfl⟩⟩))
      go_ret
      exact ⟨by first | rfl | (simp; done) | (simp [*]; done), by repeat (first | exact Drawn0.refl _ | apply Drawn0.step)⟩
  · rw [if_neg c3] at H
    have c3b0 : ((l0.length : Int) == (l1.length : Int)) = false := beq_eq_false_iff_ne.mpr c3
    have c3b1 : ((l0.length : Int) != (l1.length : Int)) = true := bne_iff_ne.mpr c3
    have c3b2 : (l0.length == l1.length) = false := by first | simpa using c3 | (simp at c3 ⊢; omega)
    obtain rfl := Option.some.inj H
    go_enter Try.func22, Try.ntmps22
    go_wp2
    go_ret
    exact ⟨by first | rfl | (simp; done) | (simp [*]; done), by repeat (first | exact Drawn0.refl _ | apply Drawn0.step)⟩
theorem vector_Alike.is (p q : List Int) (hp : p.length ≤ 4611686018427387904) (hq : q.length ≤ 4611686018427387904) : vector_Alike.f p q = some (decide (Plain.alike p q)) := by
  unfold vector_Alike.f vector_Valid.f
  by_cases h0 : (p.length : Int) = (q.length : Int)
  · rw [if_pos h0, if_pos hp, if_pos hq]
    refine Plain.bind_of rfl ?_
    by_cases h1 : Plain.isVec p
    · rw [if_pos (by simpa using h1)]
      refine Plain.bind_of rfl ?_
      congr 1
      rw [Bool.eq_iff_iff, decide_eq_true_eq, decide_eq_true_eq]
      exact ⟨fun h => ⟨h1, h, by omega⟩, fun h => h.2.1⟩
    · rw [if_neg (by simpa using h1)]
      congr 1; symm; rw [decide_eq_false_iff_not]; exact fun h => h1 h.1
  · rw [if_neg h0]
    congr 1; symm; rw [decide_eq_false_iff_not]; exact fun h => h0 (by have := h.2.2; omega)
/-- the row at a place of a list of rows -/
def rowOf (l : List (List Int)) (i : Nat) : List Int := l.getD i []
theorem rowOf_mem {l : List (List Int)} {i : Nat} (h : i < l.length) : rowOf l i ∈ l := by unfold rowOf; simp [h]
theorem rows_at {w : World} {A : Option Addr} {l : List (List Int)} (h : Kd.C (Kd.slice 3 (Kd.int .i64)) w A l.length l) (i : Nat) (hi : i < l.length) :
    ∃ ad A0 c0, A = some ad ∧ w.cell? (ad.add i) = some (.slice A0 (rowOf l i).length c0) ∧ (rowOf l i).length ≤ c0 ∧ Kd.C (Kd.int .i64) w A0 (rowOf l i).length (rowOf l i) := by
  obtain ⟨ad, c, e, _, hK, hc0⟩ := Kd.C_get h ([] : List Int) (i : Int) (by omega) (by omega)
  have hc : ∀ j u, c[j]? = some u → w.cell? (ad.add ((i : Int).toNat * 1 + j)) = some u := hc0
  obtain ⟨A0, c0, rfl, l0, g0⟩ := hK
  refine ⟨ad, A0, c0, e, ?_, l0, g0⟩
  have hq := hc 0 _ rfl
  rwa [Nat.mul_one, Nat.add_zero, Int.toNat_natCast] at hq
def pivot_smallRows (l : List (List Int)) : Prop := l.length ≤ 4611686018427387904 ∧ ∀ v ∈ l, v.length ≤ 4611686018427387904
instance (l : List (List Int)) : Decidable (pivot_smallRows l) := by unfold pivot_smallRows; infer_instance
set_option maxHeartbeats 400000 in
theorem pivot_fit_1.calls (A : Option Addr) (c : Nat) (l : List (List Int)) (Av : Option Addr) (cv : Nat) (v : List Int) (pd : Addr) (w : World) (hp : w.cell? pd = some (.slice A l.length c)) (hr : Kd.C (Kd.slice 3 (Kd.int .i64)) w A l.length l)
    (hl : pivot_smallRows l) (h0 : 0 < l.length) (hv : Kd.C (Kd.int .i64) w Av v.length v) (hcv : v.length ≤ cv) (hvl : v.length ≤ 4611686018427387904) :
    Calls Try.prog 73 #[.slice Av v.length cv, .pointer (some pd)] w fun e w' => e = .returned (.bool (!decide (Plain.alike (rowOf l 0) v))) ∧ Drawn0 w w' := by
  obtain ⟨ad, A0, c0, rfl, hx, hc0, hr0⟩ := rows_at hr 0 h0
  have ha := vector_Alike.is (rowOf l 0) v (hl.2 _ (rowOf_mem h0)) hvl
  have HC := Aside0.mk (fun W (h1 : Kd.C (Kd.int .i64) W A0 (rowOf l 0).length (rowOf l 0)) (h2 : Kd.C (Kd.int .i64) W Av v.length v) => vector_Alike.calls A0 c0 (rowOf l 0) Av cv v _ W h1 hc0 h2 hcv ha)
  have H1 := Aside0.mk hr0
  have H2 := Aside0.mk hv
  have p0 : (0 : Int) < (l.length : Int) := by omega
  rw [show ad.add 0 = ad from rfl] at hx
  clear hr hl hr0 hv ha hcv hvl
  generalize rowOf l 0 = q at *
  generalize decide (Plain.alike q v) = b at *
  go_enter Try.func73, Try.ntmps73
  go_wp2_with fail
  refine (HC.out _ H1.out H2.out).mono ?_
  rintro e w1 ⟨rfl, hd⟩
  go_wp2
  go_ret
  exact ⟨rfl, hd⟩
def IdxPost (P : Prop) (w : World) (e : Ending) (w' : World) : Prop := ∃ r : Int, e = .returned (.int .i64 r) ∧ (0 ≤ r ↔ ¬ P) ∧ Drawn0 w w'
set_option maxHeartbeats 400000 in
set_option maxRecDepth 100000 in
theorem pivot_fit_idx.calls (A : Option Addr) (c : Nat) (l : List (List Int)) (pd : Addr) (w : World) (hp : w.cell? pd = some (.slice A l.length c)) (hr : Kd.C (Kd.slice 3 (Kd.int .i64)) w A l.length l)
    (hl : pivot_smallRows l) :
    Calls Try.prog 90 #[.slice A l.length c, .func (.func 73) #[] #[.pointer (some pd)]] w (IdxPost (∀ v ∈ l, Plain.alike (rowOf l 0) v) w) := by
  have HR := Aside0.mk hr
  have HP := Aside0.mk hp
  have HL := Aside0.mk hl
  have hlen := hl.1
  clear hr hl hp
  go_enter Try.func90, Try.ntmps90
  go_wp2
  go_loopw [8] (fun i wr => ∃ k : Nat, k ≤ l.length ∧ i = .int .i64 k ∧ Aside0 (∀ j, j < k → Plain.alike (rowOf l 0) (rowOf l j)) ∧ Drawn0 w wr) (fun i _ => l.length - (intOf i).toNat)
  case atStart => exact ⟨0, Nat.zero_le _, rfl, ⟨fun j hj => by omega⟩, Drawn0.refl _⟩
  case round =>
    obtain ⟨k, hk, rfl, hall, hd⟩ := hrel
    by_cases hlt : k < l.length
    · obtain ⟨n, rfl⟩ := hd.out
      clear hd
      obtain ⟨ad, Av, cv, e1, hx, hcv, hv⟩ := rows_at HR.out k hlt
      cases e1
      have hvl := HL.out.2 _ (rowOf_mem hlt)
      have HC := Aside0.mk (pivot_fit_1.calls (some ad) c l Av cv (rowOf l k) pd (w.drewN n) HP.out (Kd.C_drewN HR.out n) HL.out (by omega) (Kd.C_drewN hv n) hcv hvl)
      have p1 : (0 : Int) ≤ (k : Int) := by omega
      have q1 : (k : Int) < (l.length : Int) := by omega
      clear hvl hv hcv
      by_cases hb : Plain.alike (rowOf l 0) (rowOf l k)
      · rw [decide_eq_true hb] at HC
        have HN : Aside0 (∀ j, j < k + 1 → Plain.alike (rowOf l 0) (rowOf l j)) := ⟨fun j hj => by
          rcases Nat.lt_or_ge j k with h | h
          · exact hall.out j h
          · obtain rfl : j = k := by omega
            exact hb⟩
        clear hb hall
        generalize rowOf l k = v at *
        go_wp2_with fail
        refine HC.out.mono ?_
        rintro e w1 ⟨rfl, hd1⟩
        go_wp2
        go_roundw
        case rel => exact ⟨k + 1, by omega, by go_num, HN, ⟨by obtain ⟨m, hm⟩ := hd1.out; exact ⟨n + m, by rw [hm, World.drewN_drewN]⟩⟩⟩
        case measure => simp [intOf]; omega
      · rw [decide_eq_false hb] at HC
        have HB := Aside0.mk hb
        have HM := Aside0.mk (rowOf_mem hlt)
        clear hb
        generalize rowOf l k = v at *
        go_wp2_with fail
        refine HC.out.mono ?_
        rintro e w1 ⟨rfl, hd1⟩
        go_wp2
        go_ret
        exact ⟨k, rfl, ⟨fun _ h => HB.out (h _ HM.out), fun _ => by omega⟩, ⟨by obtain ⟨m, hm⟩ := hd1.out; exact ⟨n + m, by rw [hm, World.drewN_drewN]⟩⟩⟩
    · go_wp2
      go_ret
      refine ⟨-1, rfl, ⟨fun h => by omega, fun h => absurd (fun v hv => ?_) h⟩, hd⟩
      obtain ⟨j, hj, rfl⟩ := List.getElem_of_mem hv
      have h2 := hall.out j (by omega)
      rw [show rowOf l j = l[j] by unfold rowOf; simp [hj]] at h2
      exact h2
theorem pivot_fit_any.calls (A : Option Addr) (c : Nat) (l : List (List Int)) (pd : Addr) (w : World) (hp : w.cell? pd = some (.slice A l.length c)) (hr : Kd.C (Kd.slice 3 (Kd.int .i64)) w A l.length l) (hl : pivot_smallRows l) :
    Calls Try.prog 72 #[.slice A l.length c, .func (.func 73) #[] #[.pointer (some pd)]] w fun e w' => e = .returned (.bool (!decide (∀ v ∈ l, Plain.alike (rowOf l 0) v))) ∧ Drawn0 w w' := by
  have HC := Aside0.mk (pivot_fit_idx.calls A c l pd w hp hr hl)
  clear hp hr hl
  by_cases h : ∀ v ∈ l, Plain.alike (rowOf l 0) v
  · rw [decide_eq_true h]
    have H := Aside0.mk h
    clear h
    go_enter Try.func72, Try.ntmps72
    go_wp2_with fail
    refine HC.out.mono ?_
    rintro e w1 ⟨r, rfl, hr, hd⟩
    have hr1 : decide (0 ≤ r) = false := by simp only [decide_eq_false_iff_not]; exact fun h => hr.mp h H.out
    clear hr
    go_wp2
    go_ret
    exact ⟨rfl, hd⟩
  · rw [decide_eq_false h]
    have H := Aside0.mk h
    clear h
    go_enter Try.func72, Try.ntmps72
    go_wp2_with fail
    refine HC.out.mono ?_
    rintro e w1 ⟨r, rfl, hr, hd⟩
    have hr1 : decide (0 ≤ r) = true := by simp only [decide_eq_true_eq]; exact hr.mpr H.out
    clear hr
    go_wp2
    go_ret
    exact ⟨rfl, hd⟩
def pivot_isFit (l : List (List Int)) : Prop := 1 ≤ l.length ∧ l.length ≤ 4096 ∧ ∀ v ∈ l, Plain.alike (rowOf l 0) v
instance (l : List (List Int)) : Decidable (pivot_isFit l) := by unfold pivot_isFit; infer_instance
def pivot_fit.f (l0 : List (List Int)) : Option Bool := if pivot_smallRows l0 then some (decide (pivot_isFit l0)) else none
set_option maxHeartbeats 400000 in
theorem pivot_fit.calls (A0 : Option Addr) (c0 : Nat) (l0 : List (List Int)) (r : Bool) (w : World) (hr0 : Kd.C (Kd.slice 3 (Kd.int .i64)) w A0 l0.length l0) (hc0 : l0.length ≤ c0) (h : pivot_fit.f l0 = some r) :
    Calls Try.prog 42 #[.slice A0 l0.length c0] w fun e w' => e = .returned (.bool r) ∧ Below w.heap.size w w' := by
  unfold pivot_fit.f at h
  by_cases hb : pivot_smallRows l0
  · rw [if_pos hb] at h
    obtain rfl := Option.some.inj h
    clear h hc0
    have hmf : ∀ (fn : Fn) (first cap : Array Value) (w : World), (Instr.makeFunc fn first cap).run Try.prog w = .ok (.func fn first cap) w := fun _ _ _ _ => rfl
    by_cases h1 : 1 ≤ l0.length
    · have i1 : decide ((1 : Int) ≤ (l0.length : Int)) = true := by simp; omega
      by_cases h2 : l0.length ≤ 4096
      · have i2 : decide ((l0.length : Int) ≤ 4096) = true := by simp; omega
        have HC := Aside0.mk (pivot_fit_any.calls A0 c0 l0 ⟨w.heap.size, 0, none⟩ (w.alloc (.cells #[.slice A0 l0.length c0] 22)) (by simp [go_sem]) (Kd.C_alloc hr0 _) hb)
        have hfin : Aside0 (decide (pivot_isFit l0) = decide (∀ v ∈ l0, Plain.alike (rowOf l0 0) v)) := ⟨by
          rw [Bool.eq_iff_iff, decide_eq_true_eq, decide_eq_true_eq]; exact ⟨fun h => h.2.2, fun h => ⟨h1, h2, h⟩⟩⟩
        rw [hfin.out]
        clear hfin hr0 hb
        generalize decide (∀ v ∈ l0, Plain.alike (rowOf l0 0) v) = b at *
        go_enter Try.func42, Try.ntmps42
        go_wp2_with fail
        refine HC.out.mono ?_
        rintro e w1 ⟨rfl, hd⟩
        go_wp2
        go_ret
        exact ⟨by simp, below_step (below_alloc (Below.refl _ _) _) hd.below⟩
      · have i2 : decide ((l0.length : Int) ≤ 4096) = false := by simp; omega
        rw [decide_eq_false (p := pivot_isFit l0) (fun h => h2 h.2.1)]
        clear hr0 hb
        go_enter Try.func42, Try.ntmps42
        go_wp2
        go_ret
        exact ⟨rfl, below_alloc (Below.refl _ _) _⟩
    · have i1 : decide ((1 : Int) ≤ (l0.length : Int)) = false := by simp; omega
      rw [decide_eq_false (p := pivot_isFit l0) (fun h => h1 h.1)]
      clear hr0 hb
      go_enter Try.func42, Try.ntmps42
      go_wp2
      go_ret
      exact ⟨rfl, below_alloc (Below.refl _ _) _⟩
  · rw [if_neg hb] at h; cases h
def slices_Repeat.T9 : Bool × List (List Nat × List Nat) := (true, [([], []), ([], []), ([], []), ([1, 2], [1, 2]), ([], []), ([], []), ([4, 5], [4, 5]), ([3, 6], [3, 6]), ([0, 7], [0, 7]), ([8, 7, 0, 1, 2, 3, 4, 5, 6, 7, 8], [0, 2, 5, 8])])
def slices_Repeat.B9 : List Nat := [0, 0, 0, 6, 0, 0, 48, 126, 255, 511]
theorem slices_Repeat.tab9 : rtab .any (opsOf Try.f43 9) = slices_Repeat.T9 := by kernel_rfl
theorem slices_Repeat.bits9 : waitsOk slices_Repeat.T9.2 slices_Repeat.B9 = true := by kernel_rfl
set_option maxHeartbeats 1000000 in
set_option maxRecDepth 100000 in
theorem slices_Repeat.calls (ad : Addr) (c : Nat) (x : Int) (n : Nat) (w : World) (hx : w.cell? ad = some (.int .i64 x)) (h1 : 1 ≤ n) (h2 : n ≤ 4096) :
    Calls Try.prog 43 #[.slice (some ad) 1 c, .int .i64 n] w fun e w' => ∃ g : Nat, e = .returned (.slice (some ⟨g, 0, none⟩) n n) ∧ w.heap.size ≤ g ∧ w'.heap[g]? = some (.cells (Plain.filled x n n).toArray 3 (0, 0)) ∧ Below w.heap.size w w' := by
  have HM : Aside0 (Calls Try.prog 74 #[.int .u64 1, .int .u64 n] w fun e w' => e = .returned (.tuple #[.int .u64 0, .int .u64 n]) ∧ w' = w) := ⟨by
    have h := Go.Proofs.Try.bits_Mul 1 n (by omega) (by omega) w
    rw [show 1 * n / 18446744073709551616 = 0 by omega, show 1 * n % 18446744073709551616 = n by omega] at h
    exact h⟩
  have HX := Aside0.mk hx
  obtain ⟨i0, hi, hz⟩ := Option.map_eq_some_iff.1 info3
  simp only [Prod.mk.injEq] at hz
  have hk := run_make (P := Try.prog) w 23 3 i0 (.int .i64 0) Try.underlying23 hi hz.1 .i64 .i64 n n (by omega) (by omega) (by rw [hz.2.2]; omega) (by omega)
  rw [hz.2.1, Plain.made_zero, Int.toNat_natCast] at hk
  have hsz : (Try.prog.info? 3).map (·.size) = some 1 := by rw [hi]; simp [hz.2.1]
  have a1 : decide ((n : Int) < 0) = false := by simp
  have a2 : IntKind.u64.wrap (n : Int) = n := by unfold IntKind.wrap; simp [IntKind.bits, IntKind.signed]; omega
  have a3 : decide ((n : Int) > 9223372036854775807) = false := by simp; omega
  have a4 : IntKind.i64.wrap (n : Int) = n := by rw [IntKind.wrap_i64]; omega
  have HH : Aside0 ((w.alloc (.cells (Plain.filled 0 n 0).toArray 3)).heap[w.heap.size]? = some (.cells (Plain.filled x n 0).toArray 3 (0, 0))) := ⟨by rw [show Plain.filled x n 0 = Plain.filled 0 n 0 from rfl]; unfold World.alloc; exact Array.getElem?_push_size⟩
  have HB := Aside0.mk (below_alloc (Below.refl w.heap.size w) (.cells (Plain.filled 0 n 0).toArray 3))
  have HX2 : Aside0 ((w.alloc (.cells (Plain.filled 0 n 0).toArray 3)).cell? ad = some (.int .i64 x)) := ⟨(World.cell?_alloc_lt _ _ _ (World.block_lt_of_cell? _ _ hx)).trans hx⟩
  have HS := Aside0.mk hsz
  obtain ⟨g0, hg0⟩ : ∃ g0, w.heap.size = g0 := ⟨_, rfl⟩
  obtain ⟨fl, hfl⟩ : ∃ fl, Plain.filled 0 n 0 = fl := ⟨_, rfl⟩
  rw [hg0, hfl] at hk HH HB
  rw [hfl] at HX2
  rw [hg0]
  generalize hwa : w.alloc (.cells fl.toArray 3) = wa at hk HH HB HX2
  have HG0 := Aside0.mk hg0
  clear hx hi hz hsz hwa hfl hg0
  go_enter Try.func43, Try.ntmps43
  go_wp2_with fail
  refine HM.out.mono ?_
  rintro e w1 ⟨rfl, rfl⟩
  clear HM
  go_wp2_with (refine wpList_copy_splice rfl (.tmp 31) (.tmp 32) 23 23 rfl 3 Try.underlying23 HS.out (some ⟨g0, 0, none⟩) (some ad) n n 1 c rfl rfl g0 0 (Plain.filled x n 0) 3 HH.out [.int .i64 x] (Nat.min_eq_left h1).symm (fun _ => ⟨rfl, ad, rfl, fun j v hv => by
      cases j with
      | zero => cases hv; exact HX2.out
      | succ j => simp at hv⟩) (by rw [Plain.filled_length _ (by omega)]; simpa using h1) (by simp [Value.oneCell']) g0 _ HB.out (Nat.le_refl _) ?_; intro w2 HG2 HB2)
  have HG3 : Aside0 (w2.heap[g0]? = some (.cells (Plain.filled x n 1).toArray 3 (0, 0))) := ⟨by
    have h := HG2.out
    rw [show [Value.int .i64 x] = List.replicate 1 (Value.int .i64 x) from rfl, Plain.filled_copy x (by omega)] at h
    exact h⟩
  have HB3 := Aside0.mk HB2
  clear HG2 HB2 hk HX HX2 HH
  go_loopw [8] (fun v wr => ∃ j : Nat, v = .int .i64 j ∧ 1 ≤ j ∧ j ≤ n ∧ Aside0 (wr.heap[g0]? = some (.cells (Plain.filled x n j).toArray 3 (0, 0))) ∧ Aside0 (Below g0 w1 wr)) (fun v _ => n - (intOf v).toNat)
  case atStart => exact ⟨1, rfl, Nat.le_refl _, h1, HG3, HB3⟩
  case round =>
    clear HG3 HB3 HB a1 a2 a3 a4
    obtain ⟨j, rfl, j1, j2, HG, HB⟩ := hrel
    by_cases hlt : j < n
    · have b1 : decide ((j : Int) < n) = true := by simp; omega
      have b2 : decide ((0 : Int) ≤ j) = true := by simp
      have b3 : decide ((j : Int) ≤ n) = true := by simp; omega
      have b4 : (n = j) = False := eq_false (by omega)
      obtain ⟨i, hi⟩ : ∃ i, min j (n - j) = i := ⟨_, rfl⟩
      have hi1 : 1 ≤ i ∧ j + i ≤ n := by
        have h := Nat.le_total j (n - j)
        rcases h with h | h
        · rw [Nat.min_eq_left h] at hi; omega
        · rw [Nat.min_eq_right h] at hi; omega
      go_wp2
      have HC : Aside0 (∀ p v, (List.replicate i (Value.int .i64 x))[p]? = some v → wr.drew.cell? ((⟨g0, 0, none⟩ : Addr).add p) = some v) := ⟨fun p v hv => by
        have hp : p < i := by
          by_cases h : p < i
          · exact h
          · rw [List.getElem?_eq_none (by simp; omega)] at hv; cases hv
        rw [List.getElem?_replicate, if_pos hp] at hv
        cases hv
        have e : (⟨g0, 0, none⟩ : Addr).add p = ⟨g0, p, none⟩ := by unfold Addr.add; split <;> simp_all
        rw [e]
        have h := HG.out
        show wr.cell? ⟨g0, p, none⟩ = _
        have h3 := Plain.filled_get x (n := n) (j := j) (i := p) (by omega)
        simp [World.cell?, h, h3]⟩
      refine start_ (n := 10) (S := fun w' => True) (ds := [7]) #[false, false, false, false, false, false, false, false, false, false] (by kernel_rfl) rfl rfl trivial (fun hHeld => ?_)
      refine with_tabW slices_Repeat.tab9 slices_Repeat.bits9 (fun HT_ HW_ => ?_)
      refine pure_ (i := 0) (N := some 38) (v := ?_) (a' := ?_) #[true, false, false, false, false, false, false, false, false, false] rfl rfl (any_of HT_.out (by kernel_rfl)) (fun _ _ _ h => h) (Or.inl ⟨by rfl, ?_⟩) ?_ ?_
      rotate_left
      · intro w'
        go_simp
        with_reducible rfl
      rotate_left
      · simp only [Act.put, List.setIfInBounds_toArray, List.set_cons_zero, List.set_cons_succ, i64_w, i32_w]
        rfl
      refine pure_ (i := 1) (N := some 39) (v := ?_) (a' := ?_) #[true, true, false, false, false, false, false, false, false, false] rfl rfl (any_of HT_.out (by kernel_rfl)) (fun _ _ _ h => h) (Or.inl ⟨by rfl, ?_⟩) ?_ ?_
      rotate_left
      · intro w'
        go_simp
        with_reducible rfl
      rotate_left
      · simp only [Act.put, List.setIfInBounds_toArray, List.set_cons_zero, List.set_cons_succ, i64_w, i32_w]
        rfl
      refine pure_ (i := 2) (N := some 40) (v := ?_) (a' := ?_) #[true, true, true, false, false, false, false, false, false, false] rfl rfl (any_of HT_.out (by kernel_rfl)) (fun _ _ _ h => h) (Or.inl ⟨by rfl, ?_⟩) ?_ ?_
      rotate_left
      · intro w'
        go_simp
        with_reducible rfl
      rotate_left
      · simp only [Act.put, List.setIfInBounds_toArray, List.set_cons_zero, List.set_cons_succ, i64_w, i32_w]
        rfl
      refine pure_ (i := 3) (N := some 41) (v := ?_) (a' := ?_) #[true, true, true, true, false, false, false, false, false, false] rfl rfl (any_of HT_.out (by kernel_rfl)) (fun _ _ _ h => h) (Or.inl ⟨by rfl, ?_⟩) ?_ ?_
      rotate_left
      · intro w'
        go_simp
        with_reducible rfl
      rotate_left
      · simp only [Act.put, List.setIfInBounds_toArray, List.set_cons_zero, List.set_cons_succ, i64_w, i32_w]
        rfl
      refine pure_ (i := 4) (N := some 42) (v := ?_) (a' := ?_) #[true, true, true, true, true, false, false, false, false, false] rfl rfl (any_of HT_.out (by kernel_rfl)) (fun _ _ _ h => h) (Or.inl ⟨by rfl, ?_⟩) ?_ ?_
      rotate_left
      · intro w'
        go_simp
        with_reducible rfl
      rotate_left
      · simp only [Act.put, List.setIfInBounds_toArray, List.set_cons_zero, List.set_cons_succ, i64_w, i32_w]
        rfl
      refine pure_ (i := 5) (N := some 43) (v := ?_) (a' := ?_) #[true, true, true, true, true, true, false, false, false, false] rfl rfl (any_of HT_.out (by kernel_rfl)) (fun _ _ _ h => h) (Or.inl ⟨by rfl, ?_⟩) ?_ ?_
      rotate_left
      · intro w'
        go_simp
        with_reducible rfl
      rotate_left
      · simp only [Act.put, List.setIfInBounds_toArray, List.set_cons_zero, List.set_cons_succ, i64_w, i32_w]
        rfl
      refine pure_ (i := 6) (N := some 44) (v := ?_) (a' := ?_) #[true, true, true, true, true, true, true, false, false, false] rfl rfl (any_of HT_.out (by kernel_rfl)) (fun _ _ _ h => h) (Or.inl ⟨by rfl, ?_⟩) ?_ ?_
      rotate_left
      · intro w'
        go_simp
        with_reducible rfl
      rotate_left
      · simp only [Act.put, List.setIfInBounds_toArray, List.set_cons_zero, List.set_cons_succ, i64_w, i32_w]
        rfl
      refine last_ (i := 7) (N := some 45) #[true, true, true, true, true, true, true, true, false, false] rfl rfl (one_of HT_.out (by kernel_rfl)) (by decide) (fun K hK => ?_)
      refine step_copy_splice rfl (.tmp 41) (.tmp 44) 23 23 rfl 3 Try.underlying23 HS.out (some ⟨g0, j, none⟩) (some ⟨g0, 0, none⟩) (n - j) (n - j) j n (by rfl) (by rfl) g0 j (Plain.filled x n j) 3 HG.out (List.replicate i (.int .i64 x)) (by rw [List.length_replicate]; exact hi.symm) (fun _ => ⟨rfl, _, rfl, HC.out⟩) (by rw [Plain.filled_length _ j2, List.length_replicate]; exact hi1.2) (by simp [Value.oneCell']) g0 _ (below_drew1 HB.out) (Nat.le_refl _) ?_
      intro w4 HG4 HB4
      refine hK.out _ _ ?_
      clear hK K
      refine norm_ (a' := ?_) ?_ ?_
      rotate_left
      · show Act.put _ (some 45) _ = _
        simp only [Act.put, List.setIfInBounds_toArray, List.set_cons_zero, List.set_cons_succ, i64_w, i32_w]
        rfl
      refine pure_ (i := 8) (N := some 46) (v := ?_) (a' := ?_) #[true, true, true, true, true, true, true, true, true, false] rfl rfl (any_of HT_.out (by kernel_rfl)) (fun _ _ _ h => h) (Or.inl ⟨by rfl, ?_⟩) ?_ ?_
      rotate_left
      · intro w'
        go_simp
        with_reducible rfl
      rotate_left
      · simp only [Act.put, List.setIfInBounds_toArray, List.set_cons_zero, List.set_cons_succ, i64_w, i32_w]
        rfl
      refine pure_ (i := 9) (N := some 8) (v := ?_) (a' := ?_) #[true, true, true, true, true, true, true, true, true, true] rfl rfl (any_of HT_.out (by kernel_rfl)) (fun _ _ _ h => h) (Or.inl ⟨by rfl, ?_⟩) ?_ ?_
      rotate_left
      · intro w'
        go_simp
        with_reducible rfl
      rotate_left
      · simp only [Act.put, List.setIfInBounds_toArray, List.set_cons_zero, List.set_cons_succ, i64_w, i32_w]
        rfl
      refine done_ (done_of HT_.out (by kernel_rfl)) ?_
      clear b1 b2 b3 b4
      have e4 : wrap64 ((j : Int) + (i : Int)) = ((j + i : Nat) : Int) := by unfold wrap64; omega
      go_wp2
      go_roundw
      case rel => exact ⟨j + i, congrArg (Value.int .i64) e4, by omega, hi1.2, ⟨by have h := HG4.out; rw [Plain.filled_copy x hi1.2] at h; exact h⟩, ⟨HB4⟩⟩
      case measure =>
        rw [e4]
        show n - ((j + i : Nat) : Int).toNat < n - ((j : Nat) : Int).toNat
        rw [Int.toNat_natCast, Int.toNat_natCast]
        omega
    · obtain rfl : j = n := by omega
      go_wp2
      go_ret
      exact ⟨g0, rfl, Nat.le_refl _, HG.out, HB.out⟩
end Go.Proofs.Ytoidpkpgeeeggaa.Q
end
section
namespace Go.Proofs.Ytoidpkpgeeeggaa.Q
open Go.RowKit Go.Proofs.YtoidpkpgeeeggaaW.PrintWords Go.Proofs.YtoidpkpgeeeggaaW.PrintLast Go.Proofs.YtoidpkpgeeeggaaW.PrintMore
attribute [local go_sem] max2_int min2_int max_two min_two max_three min_three max_four min_four   -- for this text's walks alone
set_option linter.unusedVariables false
set_option linter.unusedSimpArgs false
def slices_Index_int_int.l0 : Nat → List Int → Int → Int → Int → Option (Int)
  | 0, _, _, _, _ => none
  | k + 1, x0, x1, x7, x8 => if x8 < x7 then (if 0 ≤ x8 then (if x8 < (x0.length : Int) then (if x1 = (rd x0 x8) then (some x8) else (slices_Index_int_int.l0 k x0 x1 x7 (wrap64 (x8 + 1)))) else (none)) else (none)) else (some (-1))
def slices_Index_int_int.f (k : Nat) (l0 : List Int) (a1 : Int) : Option (Int) := slices_Index_int_int.l0 k l0 a1 (l0.length : Int) 0
theorem slices_Index_int_int.mono_l : ∀ k, (∀ y0 y1 y2 y3, LeO (slices_Index_int_int.l0 k y0 y1 y2 y3) (slices_Index_int_int.l0 (k + 1) y0 y1 y2 y3))
  | 0 => fun _ _ _ _ r h => by simp [slices_Index_int_int.l0] at h
  | k + 1 => by
    have ih0 := slices_Index_int_int.mono_l k
    · intro y0 y1 y2 y3
      unfold slices_Index_int_int.l0
      repeat' first
      | (with_reducible exact ih0 _ _ _ _)
      | (with_reducible exact LeO.refl _)
      | (with_reducible exact LeO.none _)
      | (with_reducible refine LeO.ite ?_ ?_)
      | (with_reducible refine LeO.bind ?_ (fun _ => ?_))
      | exact ih0 _ _ _ _
      | exact LeO.none _
      | refine LeO.ite ?_ ?_
      | refine LeO.bind ?_ (fun _ => ?_)
theorem slices_Index_int_int.mono : ∀ a0 a1 k, LeO (slices_Index_int_int.f k a0 a1) (slices_Index_int_int.f (k + 1) a0 a1) := by
  intro a0 a1 k
  have ih0 := slices_Index_int_int.mono_l k
  unfold slices_Index_int_int.f
  repeat' first
      | (with_reducible exact ih0 _ _ _ _)
      | (with_reducible exact LeO.refl _)
      | (with_reducible exact LeO.none _)
      | (with_reducible refine LeO.ite ?_ ?_)
      | (with_reducible refine LeO.bind ?_ (fun _ => ?_))
      | exact ih0 _ _ _ _
      | exact LeO.none _
      | refine LeO.ite ?_ ?_
      | refine LeO.bind ?_ (fun _ => ?_)
set_option maxHeartbeats 8000000 in
set_option maxRecDepth 100000 in
theorem slices_Index_int_int.calls (k : Nat) (A0 : Option Addr) (c0 : Nat) (l0 : List Int) (a1 : Int) (r : Int) (w : World) (hr0 : Kd.C (Kd.int .i64) w A0 l0.length l0) (hc0 : l0.length ≤ c0) (h : slices_Index_int_int.f k l0 a1 = some r) :
    Calls Try.prog 49 #[.slice A0 l0.length c0, .int .i64 a1] w fun e w' => e = .returned (.int .i64 r) ∧ Drawn0 w w' := by
  have HR0 := Aside0.mk hr0
  have HC0 := Aside0.mk hc0
  clear hr0 hc0
  have H : (slices_Index_int_int.l0 k l0 a1 (l0.length : Int) 0) = some r := h
  clear h
  have H' := Aside0.mk H
  clear H
  go_enter Try.func49, Try.ntmps49
  go_wp2
  go_loopg [8] k (fun kq v8 w' => ∃ (x8_1 : Int), v8 = .int .i64 x8_1 ∧ Aside0 (slices_Index_int_int.l0 kq l0 a1 (l0.length : Int) x8_1 = some r) ∧ Aside0 (kq ≤ k) ∧ Drawn0 w w')
  case atStart => exact ⟨(0), (by first | rfl | (simp; done) | (simp [*]; done)), H', ⟨Nat.le_refl _⟩, by repeat (first | exact Drawn0.refl _ | apply Drawn0.step)⟩
  case round =>
    clear H'
    try clear p2
    obtain ⟨x8_1, rfl, HA, HK1, ⟨m1, rfl⟩⟩ := hrel
    cases gk with
    | zero => exact absurd HA.out (by simp [slices_Index_int_int.l0])
    | succ k1 =>
      have H := HA.out
      clear HA
      simp only [slices_Index_int_int.l0] at H
      by_cases c3 : x8_1 < (l0.length : Int)
      · rw [if_pos c3] at H
        have c3b0 : decide (x8_1 < (l0.length : Int)) = true := decide_eq_true c3
        clear c3
        by_cases c4 : 0 ≤ x8_1
        · rw [if_pos c4] at H
          have c4b0 : decide (0 ≤ x8_1) = true := decide_eq_true c4
          clear c4
          by_cases c5 : x8_1 < (l0.length : Int)
          · rw [if_pos c5] at H
            have c5b0 : decide (x8_1 < (l0.length : Int)) = true := decide_eq_true c5
            clear c5
            by_cases c6 : a1 = (rd l0 x8_1)
            · rw [if_pos c6] at H
              have c6b0 : (a1 == (rd l0 x8_1)) = true := beq_iff_eq.mpr c6
              have c6b1 : (a1 != (rd l0 x8_1)) = false := bne_eq_false_iff_eq.mpr c6
              clear c6
              obtain rfl := Option.some.inj H
              have p108 : 0 ≤ (x8_1 : Int) := of_decide_eq_true (by first | (with_reducible assumption) | assumption)
              have q108 : x8_1 < (l0.length : Int) := of_decide_eq_true (by first | (with_reducible assumption) | assumption)
              obtain ⟨ad108, e108, hx108_0⟩ := Kd.at_int HR0.out x8_1 p108 q108
              cases e108
              replace p108 := eq_true p108
              replace q108 := eq_true q108
              go_wp2
              go_ret
              exact ⟨by first | rfl | (simp; done) | (simp [*]; done), by repeat (first | exact Drawn0.refl _ | apply Drawn0.step)⟩
            · rw [if_neg c6] at H
              have c6b0 : (a1 == (rd l0 x8_1)) = false := beq_eq_false_iff_ne.mpr c6
              have c6b1 : (a1 != (rd l0 x8_1)) = true := bne_iff_ne.mpr c6
              have H' := Aside0.mk H
              clear H
              have p108 : 0 ≤ (x8_1 : Int) := of_decide_eq_true (by first | (with_reducible assumption) | assumption)
              have q108 : x8_1 < (l0.length : Int) := of_decide_eq_true (by first | (with_reducible assumption) | assumption)
              obtain ⟨ad108, e108, hx108_0⟩ := Kd.at_int HR0.out x8_1 p108 q108
              cases e108
              replace p108 := eq_true p108
              replace q108 := eq_true q108
              go_wp2
              go_roundg k1
              case measure => have := HK1.out; omega
              case rel => exact ⟨(wrap64 (x8_1 + 1)), (by first | rfl | (simp; done) | (simp [*]; done)), H', ⟨by have := HK1.out; omega⟩, by repeat (first | exact Drawn0.refl _ | apply Drawn0.step)⟩
          · rw [if_neg c5] at H
            exact absurd H (by simp)
        · rw [if_neg c4] at H
          exact absurd H (by simp)
      · rw [if_neg c3] at H
        have c3b0 : decide (x8_1 < (l0.length : Int)) = false := decide_eq_false c3
        clear c3
        obtain rfl := Option.some.inj H
        go_wp2
        go_ret
        exact ⟨by first | rfl | (simp; done) | (simp [*]; done), by repeat (first | exact Drawn0.refl _ | apply Drawn0.step)⟩
def slices_Clone_int_int.f (l0 : List Int) : Option (List Int) := if l0.length * 8 ≤ 140737488355328 then some l0 else none
/-- a row that is read begins at a plain address, if it is not empty -/
theorem reads_plain {w : World} {A : Option Addr} {l : List Int} (h : Kd.C (Kd.int .i64) w A l.length l) (h0 : 0 < l.length) :
    ∃ b off, A = some ⟨b, off, none⟩ ∧ ∀ j, j < l.length → w.cell? ⟨b, off + j, none⟩ = some (.int .i64 (l.getD j 0)) := by
  obtain ⟨ad, rfl, hx⟩ := Kd.at_int h 0 (by omega) (by omega)
  obtain ⟨b, off, spot⟩ := ad
  have hs : spot = none := by
    cases spot with
    | none => rfl
    | some s =>
      simp [Addr.add, World.cell?] at hx
      split at hx <;> simp at hx
  subst hs
  refine ⟨b, off, rfl, fun j hj => ?_⟩
  obtain ⟨ad2, e, hx2⟩ := Kd.at_int h (j : Int) (by omega) (by omega)
  cases e
  have e : (⟨b, off, none⟩ : Addr).add ((j : Int).toNat) = ⟨b, off + j, none⟩ := by unfold Addr.add; split <;> simp_all
  rw [e] at hx2
  simpa [rd] using hx2
theorem slices_Clone_int_int.calls (A0 : Option Addr) (c0 : Nat) (l0 : List Int) (r : List Int) (w : World) (hr0 : Kd.C (Kd.int .i64) w A0 l0.length l0) (hc0 : l0.length ≤ c0) (h : slices_Clone_int_int.f l0 = some r) :
    Calls Try.prog 85 #[.slice A0 l0.length c0] w fun e w' => ∃ v0_ : Value, e = .returned (v0_) ∧ Kd.R (Kd.int .i64) 3 w' w.heap.size (fun _ => True) v0_ r ∧ Below w.heap.size w w' := by
  unfold slices_Clone_int_int.f at h
  split at h
  · rename_i hb
    obtain rfl := Option.some.inj h
    rcases Nat.eq_zero_or_pos l0.length with h0 | h0
    · obtain rfl := List.eq_nil_of_length_eq_zero h0
      cases A0 with
      | none =>
        refine (Go.Proofs.Try.slices_Clone_int_nil _ _ w).mono ?_
        rintro e w' ⟨rfl, rfl⟩
        exact ⟨_, rfl, Kd.R_nil _ _ _ _ _, Below.refl _ _⟩
      | some ad =>
        refine (Go.Proofs.Try.slices_Clone_int_zero ad _ w).mono ?_
        rintro e w' ⟨v, rfl, ho, _, hb⟩
        exact ⟨_, rfl, Kd.R_of_own ho (fun _ _ => trivial), hb⟩
    · obtain ⟨b, off, rfl, hc⟩ := reads_plain hr0 h0
      refine (Go.Proofs.Try.slices_Clone_int b off _ _ l0 w (Nat.le_refl _) hb hc).mono ?_
      rintro e w' ⟨v, rfl, ho, _, hb⟩
      rw [List.take_length] at ho
      exact ⟨_, rfl, Kd.R_of_own ho (fun _ _ => trivial), hb⟩
  · cases h
def slices_Max_int_int.f (l0 : List Int) : Option Int := if 0 < l0.length ∧ l0.length ≤ 4611686018427387904 then some (Lib.maxOf l0) else none
theorem slices_Max_int_int.calls (A0 : Option Addr) (c0 : Nat) (l0 : List Int) (r : Int) (w : World) (hr0 : Kd.C (Kd.int .i64) w A0 l0.length l0) (hc0 : l0.length ≤ c0) (h : slices_Max_int_int.f l0 = some r) :
    Calls Try.prog 75 #[.slice A0 l0.length c0] w fun e w' => e = .returned (.int .i64 r) ∧ Drawn0 w w' := by
  unfold slices_Max_int_int.f at h
  split at h
  · rename_i hb
    obtain rfl := Option.some.inj h
    obtain ⟨b, off, rfl, hc⟩ := reads_plain hr0 hb.1
    refine (Go.Proofs.Try.slices_Max_int b off _ c0 l0 w hb.1 (Nat.le_refl _) (by omega) hc).mono ?_
    rintro e w' ⟨rfl, rfl⟩
    exact ⟨by rw [List.take_length], Drawn0.refl _⟩
  · cases h
set_option maxHeartbeats 400000 in
theorem pivot_farthest.calls (cb : Nat) (A2 : Option Addr) (c2 : Nat) (xs : List Int) (key at_ : Int) (k : Nat) (w : World) (hp : w.cell? ⟨cb, 2, none⟩ = some (.slice A2 xs.length c2)) (hx : Kd.C (Kd.int .i64) w A2 xs.length xs) (hc : xs.length ≤ c2)
    (h1 : slices_Max_int_int.f xs = some key) (h2 : slices_Index_int_int.f k xs key = some at_) :
    Calls Try.prog 44 #[.pointer (some ⟨cb, 0, none⟩)] w fun e w' => e = .returned (.tuple #[.int .i64 at_, .int .i64 key]) ∧ Drawn0 w w' := by
  have H1 := Aside0.mk (slices_Max_int_int.calls A2 c2 xs key w hx hc h1)
  have H2 := Aside0.mk (fun n => slices_Index_int_int.calls k A2 c2 xs key at_ (w.drewN n) (Kd.C_drewN hx n) hc h2)
  have hu := Try.underlying78
  clear h1 h2 hx hc
  go_enter Try.func44, Try.ntmps44
  go_wp2_with fail
  refine H1.out.mono ?_
  rintro e w1 ⟨rfl, hd⟩
  obtain ⟨n, rfl⟩ := hd.out
  clear hd
  have hp2 : (w.drewN n).cell? ⟨cb, 2, none⟩ = some (.slice A2 xs.length c2) := by simpa using hp
  go_wp2_with fail
  refine (H2.out n).mono ?_
  rintro e w2 ⟨rfl, hd⟩
  go_wp2
  go_ret2
  exact ⟨rfl, ⟨by obtain ⟨m, hm⟩ := hd.out; exact ⟨n + m, by rw [hm, World.drewN_drewN]⟩⟩⟩
theorem vector_norm_1.calls (n x : Int) (w : World) (hn0 : 0 ≤ n) (hn1 : n ≤ 1152921504606846976) (hx0 : -2000 ≤ x) (hx1 : x ≤ 2000) : Calls Try.prog 81 #[.int .i64 n, .int .i64 x] w fun e w' => e = .returned (.int .i64 (Plain.join 1 n (Plain.ptl 1 x))) ∧ Drawn0 w w' := by
  have e : Plain.join 1 n (Plain.ptl 1 x) = n + mx x (-x) := by unfold Plain.join Plain.ptl Plain.mag mx; rw [if_pos (.inl rfl), if_neg (by decide)]; split <;> split <;> omega
  obtain ⟨y, hy⟩ : ∃ y, mx x (-x) = y := ⟨_, rfl⟩
  have hy0 : 0 ≤ y ∧ y ≤ 2000 := by rw [← hy]; unfold mx; split <;> omega
  obtain ⟨hy1, hy2⟩ := hy0
  rw [hy] at e
  rw [e]
  clear e
  unfold mx at hy
  go_enter Try.func81, Try.ntmps81
  go_wp2
  go_ret
  exact ⟨rfl, Drawn0.refl _⟩
set_option maxHeartbeats 400000 in
set_option maxRecDepth 100000 in
theorem vector_fold_int1.calls (g : Int → Int → Int) (ok : Nat → Int → Prop) (A : Option Addr) (c : Nat) (l : List Int) (b : Int) (w : World) (hr : Kd.C (Kd.int .i64) w A l.length l) (hl : l.length ≤ 4611686018427387904)
    (h0 : ok 0 b) (hs : ∀ k acc, k < l.length → ok k acc → ok (k + 1) (g acc (rd l (k : Int))))
    (hK : ∀ (k : Nat) (acc : Int) (w : World), k < l.length → ok k acc → Calls Try.prog 81 #[.int .i64 acc, .int .i64 (rd l (k : Int))] w fun e w' => e = .returned (.int .i64 (g acc (rd l (k : Int)))) ∧ Drawn0 w w') :
    Calls Try.prog 84 #[.slice A l.length c, .int .i64 b, .func (.func 81) #[] #[]] w fun e w' => e = .returned (.int .i64 (l.foldl g b)) ∧ Drawn0 w w' := by
  have HR := Aside0.mk hr
  have HK := Aside0.mk hK
  have HS := Aside0.mk hs
  have H0 := Aside0.mk h0
  clear hr hK hs h0
  go_enter Try.func84, Try.ntmps84
  go_wp2
  go_loopw [1, 11] (fun v i wr => ∃ (k : Nat) (acc : Int), k ≤ l.length ∧ i = .int .i64 k ∧ v = .int .i64 acc ∧ Aside0 (acc = (l.take k).foldl g b) ∧ Aside0 (ok k acc) ∧ Drawn0 w wr) (fun _ i _ => l.length - (intOf i).toNat)
  case atStart => exact ⟨0, b, Nat.zero_le _, rfl, rfl, ⟨rfl⟩, H0, Drawn0.refl _⟩
  case round =>
    obtain ⟨k, acc, hk, rfl, rfl, hacc, hok, hd⟩ := hrel
    by_cases hlt : k < l.length
    · have HC := Aside0.mk (HK.out k acc · hlt hok.out)
      have HO := Aside0.mk (HS.out k acc hlt hok.out)
      have p1 : (0 : Int) ≤ (k : Int) := by omega
      have q1 : (k : Int) < (l.length : Int) := by omega
      obtain ⟨ad, e1, hx⟩ := Kd.at_int HR.out (k : Int) p1 q1
      cases e1
      obtain ⟨n, rfl⟩ := hd.out
      clear hd
      rw [Int.toNat_natCast] at hx
      have hsn : Aside0 (g acc (rd l (k : Int)) = (l.take (k + 1)).foldl g b) := ⟨by
        rw [List.take_succ_eq_append_getElem hlt, List.foldl_append, ← hacc.out]; unfold rd; simp [hlt]⟩
      generalize rd l (k : Int) = x at *
      go_wp2_with fail
      refine (HC.out _).mono ?_
      rintro e w1 ⟨rfl, hd1⟩
      go_wp2
      go_roundw
      case rel => exact ⟨k + 1, _, by omega, by go_num, rfl, hsn, HO, ⟨by obtain ⟨m, hm⟩ := hd1.out; exact ⟨n + m, by rw [hm, World.drewN_drewN]⟩⟩⟩
      case measure => simp [intOf]; omega
    · go_wp2
      go_ret
      exact ⟨by rw [hacc.out, List.take_of_length_le (by omega)]; rfl, hd⟩
theorem vector_norm_2.calls (n x : Int) (w : World) (hn0 : 0 ≤ n) (hn1 : n ≤ 1152921504606846976) (hx0 : -2000 ≤ x) (hx1 : x ≤ 2000) : Calls Try.prog 82 #[.int .i64 n, .int .i64 x] w fun e w' => e = .returned (.int .i64 (Plain.join 2 n (Plain.ptl 2 x))) ∧ Drawn0 w w' := by
  have e : Plain.join 2 n (Plain.ptl 2 x) = n + x * x := by unfold Plain.join Plain.ptl; rw [if_pos (.inr rfl), if_pos rfl]
  have hy1 := Plain.sq_nonneg x
  have hy2 := Plain.ptl_le 2 ⟨hx0, hx1⟩
  rw [show Plain.ptl 2 x = x * x by unfold Plain.ptl; rw [if_pos rfl]] at hy2
  rw [e]
  clear e
  go_enter Try.func82, Try.ntmps82
  go_wp2
  go_ret
  exact ⟨rfl, Drawn0.refl _⟩
set_option maxHeartbeats 400000 in
set_option maxRecDepth 100000 in
theorem vector_fold_int2.calls (g : Int → Int → Int) (ok : Nat → Int → Prop) (A : Option Addr) (c : Nat) (l : List Int) (b : Int) (w : World) (hr : Kd.C (Kd.int .i64) w A l.length l) (hl : l.length ≤ 4611686018427387904)
    (h0 : ok 0 b) (hs : ∀ k acc, k < l.length → ok k acc → ok (k + 1) (g acc (rd l (k : Int))))
    (hK : ∀ (k : Nat) (acc : Int) (w : World), k < l.length → ok k acc → Calls Try.prog 82 #[.int .i64 acc, .int .i64 (rd l (k : Int))] w fun e w' => e = .returned (.int .i64 (g acc (rd l (k : Int)))) ∧ Drawn0 w w') :
    Calls Try.prog 84 #[.slice A l.length c, .int .i64 b, .func (.func 82) #[] #[]] w fun e w' => e = .returned (.int .i64 (l.foldl g b)) ∧ Drawn0 w w' := by
  have HR := Aside0.mk hr
  have HK := Aside0.mk hK
  have HS := Aside0.mk hs
  have H0 := Aside0.mk h0
  clear hr hK hs h0
  go_enter Try.func84, Try.ntmps84
  go_wp2
  go_loopw [1, 11] (fun v i wr => ∃ (k : Nat) (acc : Int), k ≤ l.length ∧ i = .int .i64 k ∧ v = .int .i64 acc ∧ Aside0 (acc = (l.take k).foldl g b) ∧ Aside0 (ok k acc) ∧ Drawn0 w wr) (fun _ i _ => l.length - (intOf i).toNat)
  case atStart => exact ⟨0, b, Nat.zero_le _, rfl, rfl, ⟨rfl⟩, H0, Drawn0.refl _⟩
  case round =>
    obtain ⟨k, acc, hk, rfl, rfl, hacc, hok, hd⟩ := hrel
    by_cases hlt : k < l.length
    · have HC := Aside0.mk (HK.out k acc · hlt hok.out)
      have HO := Aside0.mk (HS.out k acc hlt hok.out)
      have p1 : (0 : Int) ≤ (k : Int) := by omega
      have q1 : (k : Int) < (l.length : Int) := by omega
      obtain ⟨ad, e1, hx⟩ := Kd.at_int HR.out (k : Int) p1 q1
      cases e1
      obtain ⟨n, rfl⟩ := hd.out
      clear hd
      rw [Int.toNat_natCast] at hx
      have hsn : Aside0 (g acc (rd l (k : Int)) = (l.take (k + 1)).foldl g b) := ⟨by
        rw [List.take_succ_eq_append_getElem hlt, List.foldl_append, ← hacc.out]; unfold rd; simp [hlt]⟩
      generalize rd l (k : Int) = x at *
      go_wp2_with fail
      refine (HC.out _).mono ?_
      rintro e w1 ⟨rfl, hd1⟩
      go_wp2
      go_roundw
      case rel => exact ⟨k + 1, _, by omega, by go_num, rfl, hsn, HO, ⟨by obtain ⟨m, hm⟩ := hd1.out; exact ⟨n + m, by rw [hm, World.drewN_drewN]⟩⟩⟩
      case measure => simp [intOf]; omega
    · go_wp2
      go_ret
      exact ⟨by rw [hacc.out, List.take_of_length_le (by omega)]; rfl, hd⟩
theorem vector_norm_3.calls (n x : Int) (w : World) (hn0 : 0 ≤ n) (hn1 : n ≤ 1152921504606846976) (hx0 : -2000 ≤ x) (hx1 : x ≤ 2000) : Calls Try.prog 83 #[.int .i64 n, .int .i64 x] w fun e w' => e = .returned (.int .i64 (Plain.join 3 n (Plain.ptl 3 x))) ∧ Drawn0 w w' := by
  have e : Plain.join 3 n (Plain.ptl 3 x) = mx (mx n x) (-x) := by unfold Plain.join Plain.ptl Plain.mag mx; simp only [if_neg (show ¬ ((3 : Int) = 1 ∨ (3 : Int) = 2) by decide), if_neg (show ¬ (3 : Int) = 2 by decide)]; split <;> split <;> (try split) <;> (try split) <;> omega
  obtain ⟨y, hy⟩ : ∃ y, mx n x = y := ⟨_, rfl⟩
  obtain ⟨z, hz⟩ : ∃ z, mx y (-x) = z := ⟨_, rfl⟩
  rw [hy, hz] at e
  rw [e]
  clear e
  unfold mx at hy hz
  go_enter Try.func83, Try.ntmps83
  go_wp2
  go_ret
  exact ⟨rfl, Drawn0.refl _⟩
set_option maxHeartbeats 400000 in
set_option maxRecDepth 100000 in
theorem vector_fold_int3.calls (g : Int → Int → Int) (ok : Nat → Int → Prop) (A : Option Addr) (c : Nat) (l : List Int) (b : Int) (w : World) (hr : Kd.C (Kd.int .i64) w A l.length l) (hl : l.length ≤ 4611686018427387904)
    (h0 : ok 0 b) (hs : ∀ k acc, k < l.length → ok k acc → ok (k + 1) (g acc (rd l (k : Int))))
    (hK : ∀ (k : Nat) (acc : Int) (w : World), k < l.length → ok k acc → Calls Try.prog 83 #[.int .i64 acc, .int .i64 (rd l (k : Int))] w fun e w' => e = .returned (.int .i64 (g acc (rd l (k : Int)))) ∧ Drawn0 w w') :
    Calls Try.prog 84 #[.slice A l.length c, .int .i64 b, .func (.func 83) #[] #[]] w fun e w' => e = .returned (.int .i64 (l.foldl g b)) ∧ Drawn0 w w' := by
  have HR := Aside0.mk hr
  have HK := Aside0.mk hK
  have HS := Aside0.mk hs
  have H0 := Aside0.mk h0
  clear hr hK hs h0
  go_enter Try.func84, Try.ntmps84
  go_wp2
  go_loopw [1, 11] (fun v i wr => ∃ (k : Nat) (acc : Int), k ≤ l.length ∧ i = .int .i64 k ∧ v = .int .i64 acc ∧ Aside0 (acc = (l.take k).foldl g b) ∧ Aside0 (ok k acc) ∧ Drawn0 w wr) (fun _ i _ => l.length - (intOf i).toNat)
  case atStart => exact ⟨0, b, Nat.zero_le _, rfl, rfl, ⟨rfl⟩, H0, Drawn0.refl _⟩
  case round =>
    obtain ⟨k, acc, hk, rfl, rfl, hacc, hok, hd⟩ := hrel
    by_cases hlt : k < l.length
    · have HC := Aside0.mk (HK.out k acc · hlt hok.out)
      have HO := Aside0.mk (HS.out k acc hlt hok.out)
      have p1 : (0 : Int) ≤ (k : Int) := by omega
      have q1 : (k : Int) < (l.length : Int) := by omega
      obtain ⟨ad, e1, hx⟩ := Kd.at_int HR.out (k : Int) p1 q1
      cases e1
      obtain ⟨n, rfl⟩ := hd.out
      clear hd
      rw [Int.toNat_natCast] at hx
      have hsn : Aside0 (g acc (rd l (k : Int)) = (l.take (k + 1)).foldl g b) := ⟨by
        rw [List.take_succ_eq_append_getElem hlt, List.foldl_append, ← hacc.out]; unfold rd; simp [hlt]⟩
      generalize rd l (k : Int) = x at *
      go_wp2_with fail
      refine (HC.out _).mono ?_
      rintro e w1 ⟨rfl, hd1⟩
      go_wp2
      go_roundw
      case rel => exact ⟨k + 1, _, by omega, by go_num, rfl, hsn, HO, ⟨by obtain ⟨m, hm⟩ := hd1.out; exact ⟨n + m, by rw [hm, World.drewN_drewN]⟩⟩⟩
      case measure => simp [intOf]; omega
    · go_wp2
      go_ret
      exact ⟨by rw [hacc.out, List.take_of_length_le (by omega)]; rfl, hd⟩
theorem vector_at (l : List Int) (k : Nat) (hv : ∀ x ∈ l, -2000 ≤ x ∧ x ≤ 2000) (hk : k < l.length) : -2000 ≤ rd l (k : Int) ∧ rd l (k : Int) ≤ 2000 := by
  have : rd l (k : Int) = l[k] := by unfold rd; simp [hk]
  rw [this]
  exact hv _ (List.getElem_mem hk)
theorem vector_bound (m : Int) (l : List Int) (k : Nat) (acc : Int) (hv : ∀ x ∈ l, -2000 ≤ x ∧ x ≤ 2000) (hk : k < l.length) (h : 0 ≤ acc ∧ acc ≤ 4000000 * k) : 0 ≤ Plain.join m acc (Plain.ptl m (rd l (k : Int))) ∧ Plain.join m acc (Plain.ptl m (rd l (k : Int))) ≤ 4000000 * ((k + 1 : Nat) : Int) := by
  have h1 := Plain.ptl_nonneg m (rd l (k : Int))
  have h2 := Plain.ptl_le m (vector_at l k hv hk)
  have h3 := Plain.join_nonneg m h.1 h1
  have h4 := Plain.join_le_add m h.1 h1
  omega
theorem vector_foldl (m : Int) (l : List Int) : ∀ a : Int, 0 ≤ a → l.foldl (fun n x => Plain.join m n (Plain.ptl m x)) a = Plain.join m a (Plain.norm m l) := by
  induction l with
  | nil => intro a h; exact (Plain.join_zero m h).symm
  | cons x l ih =>
    intro a h
    rw [List.foldl_cons, ih _ (Plain.join_nonneg m h (Plain.ptl_nonneg m x)), Plain.join_assoc]
    rfl
theorem vector_ins1 (w : World) : (Instr.mapUpdate 109 (.map (some w.heap.size)) (.int .i64 1) (.func (.func 81) #[] #[])).run Try.prog (w.alloc (.map #[] 0)) = .ok () (w.alloc (.map #[{ key := .int .i64 1, val := .func (.func 81) #[] #[], born := 0 }] 1)) :=
  Plain.run_insert_last w _ _ _ _ _ _ _ Try.underlying109 Try.underlying3 (by rfl)
theorem vector_ins2 (w : World) : (Instr.mapUpdate 109 (.map (some w.heap.size)) (.int .i64 2) (.func (.func 82) #[] #[])).run Try.prog (w.alloc (.map #[{ key := .int .i64 1, val := .func (.func 81) #[] #[], born := 0 }] 1)) = .ok () (w.alloc (.map #[{ key := .int .i64 1, val := .func (.func 81) #[] #[], born := 0 }, { key := .int .i64 2, val := .func (.func 82) #[] #[], born := 1 }] 2)) :=
  Plain.run_insert_last w _ _ _ _ _ _ _ Try.underlying109 Try.underlying3 (by rfl)
theorem vector_ins3 (w : World) : (Instr.mapUpdate 109 (.map (some w.heap.size)) (.int .i64 3) (.func (.func 83) #[] #[])).run Try.prog (w.alloc (.map #[{ key := .int .i64 1, val := .func (.func 81) #[] #[], born := 0 }, { key := .int .i64 2, val := .func (.func 82) #[] #[], born := 1 }] 2)) = .ok () (w.alloc (.map #[{ key := .int .i64 1, val := .func (.func 81) #[] #[], born := 0 }, { key := .int .i64 2, val := .func (.func 82) #[] #[], born := 1 }, { key := .int .i64 3, val := .func (.func 83) #[] #[], born := 2 }] 3)) :=
  Plain.run_insert_last w _ _ _ _ _ _ _ Try.underlying109 Try.underlying3 (by rfl)
theorem vector_look1 (w : World) : (Instr.lookup 109 (.map (some w.heap.size)) (.int .i64 1) false).run Try.prog (w.alloc (.map #[{ key := .int .i64 1, val := .func (.func 81) #[] #[], born := 0 }, { key := .int .i64 2, val := .func (.func 82) #[] #[], born := 1 }, { key := .int .i64 3, val := .func (.func 83) #[] #[], born := 2 }] 3)) = .ok (.func (.func 81) #[] #[]) (w.alloc (.map #[{ key := .int .i64 1, val := .func (.func 81) #[] #[], born := 0 }, { key := .int .i64 2, val := .func (.func 82) #[] #[], born := 1 }, { key := .int .i64 3, val := .func (.func 83) #[] #[], born := 2 }] 3)) :=
  Plain.run_lookup_last w _ _ _ _ _ _ _ Try.underlying109 Try.underlying3 (by rfl)
theorem vector_look2 (w : World) : (Instr.lookup 109 (.map (some w.heap.size)) (.int .i64 2) false).run Try.prog (w.alloc (.map #[{ key := .int .i64 1, val := .func (.func 81) #[] #[], born := 0 }, { key := .int .i64 2, val := .func (.func 82) #[] #[], born := 1 }, { key := .int .i64 3, val := .func (.func 83) #[] #[], born := 2 }] 3)) = .ok (.func (.func 82) #[] #[]) (w.alloc (.map #[{ key := .int .i64 1, val := .func (.func 81) #[] #[], born := 0 }, { key := .int .i64 2, val := .func (.func 82) #[] #[], born := 1 }, { key := .int .i64 3, val := .func (.func 83) #[] #[], born := 2 }] 3)) :=
  Plain.run_lookup_last w _ _ _ _ _ _ _ Try.underlying109 Try.underlying3 (by rfl)
theorem vector_look3 (w : World) : (Instr.lookup 109 (.map (some w.heap.size)) (.int .i64 3) false).run Try.prog (w.alloc (.map #[{ key := .int .i64 1, val := .func (.func 81) #[] #[], born := 0 }, { key := .int .i64 2, val := .func (.func 82) #[] #[], born := 1 }, { key := .int .i64 3, val := .func (.func 83) #[] #[], born := 2 }] 3)) = .ok (.func (.func 83) #[] #[]) (w.alloc (.map #[{ key := .int .i64 1, val := .func (.func 81) #[] #[], born := 0 }, { key := .int .i64 2, val := .func (.func 82) #[] #[], born := 1 }, { key := .int .i64 3, val := .func (.func 83) #[] #[], born := 2 }] 3)) :=
  Plain.run_lookup_last w _ _ _ _ _ _ _ Try.underlying109 Try.underlying3 (by rfl)
def vector_Norm.f (a0 : Int) (l1 : List Int) : Option Int := if (1 ≤ a0 ∧ a0 ≤ 3) ∧ (∀ x ∈ l1, -2000 ≤ x ∧ x ≤ 2000) ∧ l1.length ≤ 1000000 then some (Plain.norm a0 l1) else none
set_option maxHeartbeats 400000 in
theorem vector_Norm.calls (a0 : Int) (A1 : Option Addr) (c1 : Nat) (l1 : List Int) (r : Int) (w : World) (hr1 : Kd.C (Kd.int .i64) w A1 l1.length l1) (hc1 : l1.length ≤ c1) (h : vector_Norm.f a0 l1 = some r) :
    Calls Try.prog 63 #[.int .i64 a0, .slice A1 l1.length c1] w fun e w' => e = .returned (.int .i64 r) ∧ Below w.heap.size w w' := by
  unfold vector_Norm.f at h
  by_cases hk : (1 ≤ a0 ∧ a0 ≤ 3) ∧ (∀ x ∈ l1, -2000 ≤ x ∧ x ≤ 2000) ∧ l1.length ≤ 1000000
  · rw [if_pos hk] at h
    obtain rfl := Option.some.inj h
    obtain ⟨⟨hm0, hm1⟩, hv, hl⟩ := hk
    clear h hc1
    rcases (show a0 = 1 ∨ a0 = 2 ∨ a0 = 3 by omega) with hm | hm | hm <;> clear hm0 hm1
    · subst hm
      have HF := Aside0.mk (fun W hW => vector_fold_int1.calls (fun n x => Plain.join 1 n (Plain.ptl 1 x)) (fun k acc => 0 ≤ acc ∧ acc ≤ 4000000 * k) A1 c1 l1 0 W hW (by omega) ⟨by omega, by omega⟩ (fun k acc hk h => vector_bound 1 l1 k acc hv hk h)
        (fun k acc w hk h => vector_norm_1.calls acc _ w h.1 (by omega) (vector_at l1 k hv hk).1 (vector_at l1 k hv hk).2))
      have HR := Aside0.mk hr1
      clear hr1 hv
      rw [vector_foldl 1 l1 0 (by omega)] at HF
      have hm1 : ∀ W, (Instr.makeMap 109 none).run Try.prog W = .ok (.map (some W.heap.size)) (W.alloc (.map #[] 0)) := fun W => run_makeMap _ W
      have hm2 := vector_ins1
      have hm3 := vector_ins2
      have hm4 := vector_ins3
      have hm5 := vector_look1
      go_enter Try.func63, Try.ntmps63
      go_wp2_with fail
      refine (HF.out _ (Kd.C_alloc HR.out _)).mono ?_
      rintro e w1 ⟨rfl, hd⟩
      go_wp2
      go_ret
      exact ⟨by rw [Plain.zero_join 1 (Plain.norm_nonneg 1 l1)]; rfl, below_step (below_alloc (Below.refl _ _) _) hd.below⟩
    · subst hm
      have HF := Aside0.mk (fun W hW => vector_fold_int2.calls (fun n x => Plain.join 2 n (Plain.ptl 2 x)) (fun k acc => 0 ≤ acc ∧ acc ≤ 4000000 * k) A1 c1 l1 0 W hW (by omega) ⟨by omega, by omega⟩ (fun k acc hk h => vector_bound 2 l1 k acc hv hk h)
        (fun k acc w hk h => vector_norm_2.calls acc _ w h.1 (by omega) (vector_at l1 k hv hk).1 (vector_at l1 k hv hk).2))
      have HR := Aside0.mk hr1
      clear hr1 hv
      rw [vector_foldl 2 l1 0 (by omega)] at HF
      have hm1 : ∀ W, (Instr.makeMap 109 none).run Try.prog W = .ok (.map (some W.heap.size)) (W.alloc (.map #[] 0)) := fun W => run_makeMap _ W
      have hm2 := vector_ins1
      have hm3 := vector_ins2
      have hm4 := vector_ins3
      have hm5 := vector_look2
      go_enter Try.func63, Try.ntmps63
      go_wp2_with fail
      refine (HF.out _ (Kd.C_alloc HR.out _)).mono ?_
      rintro e w1 ⟨rfl, hd⟩
      go_wp2
      go_ret
      exact ⟨by rw [Plain.zero_join 2 (Plain.norm_nonneg 2 l1)]; rfl, below_step (below_alloc (Below.refl _ _) _) hd.below⟩
    · subst hm
      have HF := Aside0.mk (fun W hW => vector_fold_int3.calls (fun n x => Plain.join 3 n (Plain.ptl 3 x)) (fun k acc => 0 ≤ acc ∧ acc ≤ 4000000 * k) A1 c1 l1 0 W hW (by omega) ⟨by omega, by omega⟩ (fun k acc hk h => vector_bound 3 l1 k acc hv hk h)
        (fun k acc w hk h => vector_norm_3.calls acc _ w h.1 (by omega) (vector_at l1 k hv hk).1 (vector_at l1 k hv hk).2))
      have HR := Aside0.mk hr1
      clear hr1 hv
      rw [vector_foldl 3 l1 0 (by omega)] at HF
      have hm1 : ∀ W, (Instr.makeMap 109 none).run Try.prog W = .ok (.map (some W.heap.size)) (W.alloc (.map #[] 0)) := fun W => run_makeMap _ W
      have hm2 := vector_ins1
      have hm3 := vector_ins2
      have hm4 := vector_ins3
      have hm5 := vector_look3
      go_enter Try.func63, Try.ntmps63
      go_wp2_with fail
      refine (HF.out _ (Kd.C_alloc HR.out _)).mono ?_
      rintro e w1 ⟨rfl, hd⟩
      go_wp2
      go_ret
      exact ⟨by rw [Plain.zero_join 3 (Plain.norm_nonneg 3 l1)]; rfl, below_step (below_alloc (Below.refl _ _) _) hd.below⟩
  · rw [if_neg hk] at h; cases h
def vector_Sub.l0 : Nat → List Int → List Int → Int → Int → Option (List Int)
  | 0, _, _, _, _ => none
  | k + 1, x1, x5, x10, x11 => if x11 < x10 then (if 0 ≤ x11 then (if x11 < (x5.length : Int) then (if x11 < (x1.length : Int) then (vector_Sub.l0 k x1 (x5.set (x11 : Int).toNat (wrap64 ((rd x5 x11) - (rd x1 x11)))) x10 (wrap64 (x11 + 1))) else (none)) else (none)) else (none)) else (some x5)
def vector_Sub.f (k : Nat) (l0 : List Int) (l1 : List Int) : Option (List Int) := (slices_Clone_int_int.f l0).bind fun t109 => (vector_Sub.l0 k l1 t109 (t109.length : Int) 0)
theorem vector_Sub.mono_l : ∀ k, (∀ y0 y1 y2 y3, LeO (vector_Sub.l0 k y0 y1 y2 y3) (vector_Sub.l0 (k + 1) y0 y1 y2 y3))
  | 0 => fun _ _ _ _ r h => by simp [vector_Sub.l0] at h
  | k + 1 => by
    have ih0 := vector_Sub.mono_l k
    · intro y0 y1 y2 y3
      unfold vector_Sub.l0
      repeat' first
      | (with_reducible exact ih0 _ _ _ _)
      | (with_reducible exact LeO.refl _)
      | (with_reducible exact LeO.none _)
      | (with_reducible refine LeO.ite ?_ ?_)
      | (with_reducible refine LeO.bind ?_ (fun _ => ?_))
      | exact ih0 _ _ _ _
      | exact LeO.none _
      | refine LeO.ite ?_ ?_
      | refine LeO.bind ?_ (fun _ => ?_)
theorem vector_Sub.mono : ∀ a0 a1 k, LeO (vector_Sub.f k a0 a1) (vector_Sub.f (k + 1) a0 a1) := by
  intro a0 a1 k
  have ih0 := vector_Sub.mono_l k
  unfold vector_Sub.f
  repeat' first
      | (with_reducible exact ih0 _ _ _ _)
      | (with_reducible exact LeO.refl _)
      | (with_reducible exact LeO.none _)
      | (with_reducible refine LeO.ite ?_ ?_)
      | (with_reducible refine LeO.bind ?_ (fun _ => ?_))
      | exact ih0 _ _ _ _
      | exact LeO.none _
      | refine LeO.ite ?_ ?_
      | refine LeO.bind ?_ (fun _ => ?_)
def vector_Sub.T5 : Bool × List (List Nat × List Nat) := (true, [([], []), ([], []), ([0, 1], [0, 1]), ([2], [2]), ([], []), ([], []), ([4, 5], [4, 5]), ([6], [6]), ([3, 7], [3, 7]), ([0, 1, 0, 1, 2, 3, 4, 5, 6, 7, 8], [0, 1]), ([9, 8, 0, 1, 2, 3, 4, 5, 6, 7, 8], [8, 9])])
def vector_Sub.B5 : List Nat := [0, 0, 3, 7, 0, 0, 48, 112, 255, 511, 1023]
theorem vector_Sub.tab5 : rtab .any (opsOf Try.f64 5) = vector_Sub.T5 := by kernel_rfl
theorem vector_Sub.bits5 : waitsOk vector_Sub.T5.2 vector_Sub.B5 = true := by kernel_rfl
set_option maxHeartbeats 8000000 in
set_option maxRecDepth 100000 in
theorem vector_Sub.calls (k : Nat) (A0 : Option Addr) (c0 : Nat) (l0 : List Int) (A1 : Option Addr) (c1 : Nat) (l1 : List Int) (r : List Int) (w : World) (hr0 : Kd.C (Kd.int .i64) w A0 l0.length l0) (hc0 : l0.length ≤ c0) (hr1 : Kd.C (Kd.int .i64) w A1 l1.length l1) (hc1 : l1.length ≤ c1) (h : vector_Sub.f k l0 l1 = some r) :
    Calls Try.prog 64 #[.slice A0 l0.length c0, .slice A1 l1.length c1] w fun e w' => ∃ v0_ : Value, e = .returned (v0_) ∧ Kd.R (Kd.int .i64) 3 w' w.heap.size (fun _ => True) v0_ r ∧ Below w.heap.size w w' := by
  have HR0 := Aside0.mk hr0
  have HC0 := Aside0.mk hc0
  clear hr0 hc0
  have HR1 := Aside0.mk hr1
  have HC1 := Aside0.mk hc1
  clear hr1 hc1
  have HB := Aside0.mk (Below.refl w.heap.size w)
  have H : ((slices_Clone_int_int.f l0).bind fun t109 => (vector_Sub.l0 k l1 t109 (t109.length : Int) 0)) = some r := h
  clear h
  replace H := Option.bind_eq_some_iff.mp H
  obtain ⟨t109, A30, H⟩ := H
  replace H : (vector_Sub.l0 k l1 t109 (t109.length : Int) 0) = some r := H
  have A3 := Aside0.mk A30
  clear A30
  have H' := Aside0.mk H
  clear H
  go_enter Try.func64, Try.ntmps64
  go_wp2_with (first | ((with_reducible refine gate_callee (f := 85) rfl ?_); refine goesL_ (some 8) rfl rfl Try.func85 (by kernel_rfl) rfl #[.slice A0 l0.length c0] rfl (by (try simp only [List.map_toArray, List.map_cons, List.map_nil]); first | done | rfl | (simp only [List.length_drop, List.length_take]; rfl)) ?_; (with_reducible refine (slices_Clone_int_int.calls _ _ l0 t109 _ ?side1 ?side2 A3.out).mono ?_); (case side1 => repeat (first | exact HR0.out | (with_reducible refine Kd.C_alloc ?_ _) | (with_reducible refine Kd.C_drewN ?_ _) | (with_reducible refine Kd.C_drew ?_))); (case side2 => exact HC0.out); rintro e w4 ⟨v110, rfl, ho0, hb⟩; refine ⟨_, rfl, ?_⟩; have n0_ := Aside0.mk (Kd.R_lower ho0 (below_size (by repeat (first | (with_reducible first | exact HB.out | apply below_alloc | apply pw_below_drewN | apply below_drew1) | exact HB.out)))); have n1_ := Aside0.mk (below_step (by repeat (first | (with_reducible first | exact HB.out | apply below_alloc | apply pw_below_drewN | apply below_drew1) | exact HB.out)) hb); clear HB; have HO111 := n0_; have HB := n1_; clear n0_ n1_; (try clear hb); (try clear hb2); (try clear hk); (try clear hi); (try clear ho0); obtain ⟨Ao5, co5, eo5⟩ := Kd.R_slice HO111.out; subst eo5))
  go_loopg [11] k (fun kq v11 w' => ∃ (x5_1 : List Int) (x11_1 : Int), v11 = .int .i64 x11_1 ∧ Aside0 (vector_Sub.l0 kq l1 x5_1 (t109.length : Int) x11_1 = some r) ∧ Aside0 (kq ≤ k) ∧ Aside0 (Kd.R (Kd.int .i64) 3 w' w.heap.size (fun _ => True) (.slice Ao5 t109.length co5) x5_1) ∧ Aside0 (Below w.heap.size w w'))
  case atStart => exact ⟨(t109), (0), (by first | rfl | (simp; done) | (simp [*]; done)), H', ⟨Nat.le_refl _⟩, ⟨by (with_reducible repeat (first | apply Kd.R_alloc | apply Kd.R_drewN | apply Kd.R_drew)); exact HO111.out⟩, ⟨by repeat (first | (with_reducible first | exact HB.out | apply below_alloc | apply pw_below_drewN | apply below_drew1) | exact HB.out)⟩⟩
  case round =>
    clear H'
    try clear c1
    try clear p2
    obtain ⟨x5_1, x11_1, rfl, HA, HK1, HO_5, HB⟩ := hrel
    have hl5_1 := (Kd.R_reads' HO_5.out).1
    rw [hl5_1] at HO_5
    (try simp only [hl5_1])
    cases gk with
    | zero => exact absurd HA.out (by simp [vector_Sub.l0])
    | succ k1 =>
      have H := HA.out
      clear HA
      simp only [vector_Sub.l0] at H
      by_cases c6 : x11_1 < (t109.length : Int)
      · rw [if_pos c6] at H
        have c6b0 : decide (x11_1 < (t109.length : Int)) = true := decide_eq_true c6
        clear c6
        (try simp only [hl5_1] at c6b0)
        by_cases c7 : 0 ≤ x11_1
        · rw [if_pos c7] at H
          have c7b0 : decide (0 ≤ x11_1) = true := decide_eq_true c7
          clear c7
          by_cases c8 : x11_1 < (x5_1.length : Int)
          · rw [if_pos c8] at H
            have c8b0 : decide (x11_1 < (x5_1.length : Int)) = true := decide_eq_true c8
            clear c8
            by_cases c9 : x11_1 < (l1.length : Int)
            · rw [if_pos c9] at H
              have c9b0 : decide (x11_1 < (l1.length : Int)) = true := decide_eq_true c9
              clear c9
              obtain ⟨y114, hy114⟩ : ∃ y_ : List Int, y_ = (x5_1.set (x11_1 : Int).toNat (wrap64 ((rd x5_1 x11_1) - (rd l1 x11_1)))) := ⟨_, rfl⟩
              replace H : (vector_Sub.l0 k1 l1 y114 (t109.length : Int) (wrap64 (x11_1 + 1))) = some r := by first | (rw [hy114]; with_reducible exact H) | (have H2_ := (Option.bind_some _ _).symm.trans H; rw [hy114]; with_reducible exact H2_) | (have H2_ := (Option.bind_some _ _).symm.trans H; with_reducible exact H2_) | with_reducible exact H | (rw [hy114]; exact H) | exact H
              have Ny114 := Aside0.mk hy114
              clear hy114
              have H' := Aside0.mk H
              clear H
              try go_wp2
              have n0_ := Aside0.mk (Kd.R_drew HO_5.out)
              have n1_ := Aside0.mk (below_drew1 HB.out)
              clear HO_5
              clear HB
              have HO_5 := n0_
              have HB := n1_
              clear n0_ n1_
              have p112 : 0 ≤ (x11_1 : Int) := of_decide_eq_true (by first | (with_reducible assumption) | assumption)
              have q112 : x11_1 < (x5_1.length : Int) := of_decide_eq_true (by first | (with_reducible assumption) | assumption)
              obtain ⟨ad112, e112, hx112_0⟩ := Kd.at_int (Kd.R_reads' HO_5.out).2.2 x11_1 p112 q112
              cases e112
              replace p112 := eq_true p112
              replace q112 := eq_true q112
              have p113 : 0 ≤ (x11_1 : Int) := of_decide_eq_true (by first | (with_reducible assumption) | assumption)
              have q113 : x11_1 < (l1.length : Int) := of_decide_eq_true (by first | (with_reducible assumption) | assumption)
              obtain ⟨ad113, e113, hx113_0⟩ := Kd.at_int HR1.out x11_1 p113 q113
              have hw113_0 := hx113_0
              cases e113
              replace hx113_0 := (HB.out.cell (World.block_lt_of_cell? w _ hx113_0)).trans hx113_0
              replace p113 := eq_true p113
              replace q113 := eq_true q113
              have p10 : 0 ≤ (x11_1 : Int) := of_decide_eq_true (by first | (with_reducible assumption) | assumption)
              have q10 : (x11_1 : Int) < ((x5_1.length : Int) : Int) := of_decide_eq_true (by first | (with_reducible assumption) | assumption)
              obtain ⟨go10, co10, eo10, gb10, gl10, cl10, HG10⟩ := Kd.R_form HO_5.out (by omega)
              (first | cases eo10 | (injection eo10 with ea_ en_ ec_; (first | subst ea_ | (injection ea_ with ea_; subst ea_)); subst ec_; clear en_))
              have GB10 := Aside0.mk gb10
              have GG10 := Aside0.mk HG10
              clear gb10 gl10 HG10
              (first | simp only [add_plain] at hx112_0 | skip)
              obtain ⟨hx10_0, hf10_0⟩ := Kd.R_celln 0 HO_5.out (x11_1 : Int) p10 q10
              replace p10 := eq_true p10
              replace q10 := eq_true q10
              have HP12 := Kd.R_putn HO_5.out (x11_1 : Int) (wrap64 ((rd x5_1 x11_1) - (rd l1 x11_1)))
              rw [← Ny114.out] at HP12
              have HQ12 := Aside0.mk HP12
              clear HP12
              refine start_ (n := 11) (S := fun w' => w'.cell? ⟨go10, (x11_1).toNat, none⟩ = some (.int .i64 (rd x5_1 x11_1)) ∧ w'.cell? (ad113.add (x11_1).toNat) = some (.int .i64 (rd l1 x11_1))) (ds := [10]) #[false, false, false, false, false, false, false, false, false, false, false] (by kernel_rfl) rfl rfl ⟨hx112_0, ((HB.out.cell (World.block_lt_of_cell? w _ hw113_0)).trans hw113_0)⟩ (fun hHeld => ?_); refine with_tabW vector_Sub.tab5 vector_Sub.bits5 (fun HT_ HW_ => ?_)
              generalize wr.drew = w11 at HO_5 HB GG10 HQ12 hf10_0 hx10_0 hx112_0 hx113_0 hHeld ⊢
              refine pure_ (i := 0) (N := some 14) (v := ?_) (a' := ?_) #[true, false, false, false, false, false, false, false, false, false, false] rfl rfl (any_of HT_.out (by kernel_rfl)) (fun _ _ _ h => h) (Or.inl ⟨by rfl, ?_⟩) ?_ ?_
              rotate_left
              · intro w'
                go_simp
                with_reducible rfl
              rotate_left
              · simp only [Act.put, List.setIfInBounds_toArray, List.set_cons_zero, List.set_cons_succ, i64_w, i32_w]
                rfl
              refine pure_ (i := 1) (N := some 15) (v := ?_) (a' := ?_) #[true, true, false, false, false, false, false, false, false, false, false] rfl rfl (any_of HT_.out (by kernel_rfl)) (fun _ _ _ h => h) (Or.inl ⟨by rfl, ?_⟩) ?_ ?_
              rotate_left
              · intro w'
                go_simp
                with_reducible rfl
              rotate_left
              · simp only [Act.put, List.setIfInBounds_toArray, List.set_cons_zero, List.set_cons_succ, i64_w, i32_w]
                rfl
              refine pure_ (i := 2) (N := some 16) (v := ?_) (a' := ?_) #[true, true, true, false, false, false, false, false, false, false, false] rfl rfl (any_of HT_.out (by kernel_rfl)) (fun _ _ _ h => h) (Or.inl ⟨by rfl, ?_⟩) ?_ ?_
              rotate_left
              · intro w'
                go_simp
                with_reducible rfl
              rotate_left
              · simp only [Act.put, List.setIfInBounds_toArray, List.set_cons_zero, List.set_cons_succ, i64_w, i32_w]
                rfl
              refine pure_ (i := 4) (N := some 18) (v := ?_) (a' := ?_) #[true, true, true, false, true, false, false, false, false, false, false] rfl rfl (any_of HT_.out (by kernel_rfl)) (fun _ _ _ h => h) (Or.inl ⟨by rfl, ?_⟩) ?_ ?_
              rotate_left
              · intro w'
                go_simp
                with_reducible rfl
              rotate_left
              · simp only [Act.put, List.setIfInBounds_toArray, List.set_cons_zero, List.set_cons_succ, i64_w, i32_w]
                rfl
              refine pure_ (i := 5) (N := some 19) (v := ?_) (a' := ?_) #[true, true, true, false, true, true, false, false, false, false, false] rfl rfl (any_of HT_.out (by kernel_rfl)) (fun _ _ _ h => h) (Or.inl ⟨by rfl, ?_⟩) ?_ ?_
              rotate_left
              · intro w'
                go_simp
                with_reducible rfl
              rotate_left
              · simp only [Act.put, List.setIfInBounds_toArray, List.set_cons_zero, List.set_cons_succ, i64_w, i32_w]
                rfl
              refine pure_ (i := 6) (N := some 20) (v := ?_) (a' := ?_) #[true, true, true, false, true, true, true, false, false, false, false] rfl rfl (any_of HT_.out (by kernel_rfl)) (fun _ _ _ h => h) (Or.inl ⟨by rfl, ?_⟩) ?_ ?_
              rotate_left
              · intro w'
                go_simp
                with_reducible rfl
              rotate_left
              · simp only [Act.put, List.setIfInBounds_toArray, List.set_cons_zero, List.set_cons_succ, i64_w, i32_w]
                rfl
              refine take_ (i := 3) (N := some 17) (v := ?_) (a' := ?_) #[true, true, true, true, true, true, true, false, false, false, false] rfl rfl (take_ofW HT_.out HW_.out (by kernel_rfl)) (fun _ _ _ h => h) (Or.inl ⟨by rfl, ?_⟩) hHeld ?_ ?_
              rotate_left
              · rintro w' ⟨s0, s1⟩
                go_simp
                with_reducible rfl
              rotate_left
              · simp only [Act.put, List.setIfInBounds_toArray, List.set_cons_zero, List.set_cons_succ, i64_w, i32_w]
                rfl
              refine take_ (i := 7) (N := some 21) (v := ?_) (a' := ?_) #[true, true, true, true, true, true, true, true, false, false, false] rfl rfl (take_ofW HT_.out HW_.out (by kernel_rfl)) (fun _ _ _ h => h) (Or.inl ⟨by rfl, ?_⟩) hHeld ?_ ?_
              rotate_left
              · rintro w' ⟨s0, s1⟩
                go_simp
                with_reducible rfl
              rotate_left
              · simp only [Act.put, List.setIfInBounds_toArray, List.set_cons_zero, List.set_cons_succ, i64_w, i32_w]
                rfl
              refine pure_ (i := 8) (N := some 22) (v := ?_) (a' := ?_) #[true, true, true, true, true, true, true, true, true, false, false] rfl rfl (any_of HT_.out (by kernel_rfl)) (fun _ _ _ h => h) (Or.inl ⟨by rfl, ?_⟩) ?_ ?_
              rotate_left
              · intro w'
                go_simp
                with_reducible rfl
              rotate_left
              · simp only [Act.put, List.setIfInBounds_toArray, List.set_cons_zero, List.set_cons_succ, i64_w, i32_w]
                rfl
              refine pure_ (i := 9) (N := some 23) (v := ?_) (a' := ?_) #[true, true, true, true, true, true, true, true, true, true, false] rfl rfl (any_of HT_.out (by kernel_rfl)) (fun _ _ _ h => h) (Or.inl ⟨by rfl, ?_⟩) ?_ ?_
              rotate_left
              · intro w'
                go_simp
                with_reducible rfl
              rotate_left
              · simp only [Act.put, List.setIfInBounds_toArray, List.set_cons_zero, List.set_cons_succ, i64_w, i32_w]
                rfl
              refine last_ (i := 10) (N := none) #[true, true, true, true, true, true, true, true, true, true, true] rfl rfl (one_of HT_.out (by kernel_rfl)) (by decide) (fun K hK => ?_)
              refine skip_ (w1 := ?_) (by rfl) rfl ?_ ?_
              rotate_left
              · go_simp
                rfl
              refine hK.out _ _ ?_
              clear hK K
              refine done_ (done_of HT_.out (by kernel_rfl)) ?_
              try go_wp2
              (try simp only [← hl5_1])
              go_roundg k1
              case measure => have := HK1.out; omega
              case rel => exact ⟨(y114), (wrap64 (x11_1 + 1)), (by first | rfl | (simp; done) | (simp [*]; done)), H', ⟨by have := HK1.out; omega⟩, ⟨by (try simp only [hl5_1]); (with_reducible repeat (first | apply Kd.R_alloc | apply Kd.R_drewN | apply Kd.R_drew)); exact HQ12.out⟩, ⟨by repeat (first | (with_reducible first | exact HB.out | apply below_alloc | apply pw_below_drewN | apply below_drew1 | refine below_set ?_ GB10.out) | exact HB.out)⟩⟩
            · rw [if_neg c9] at H
              exact absurd H (by simp)
          · rw [if_neg c8] at H
            exact absurd H (by simp)
        · rw [if_neg c7] at H
          exact absurd H (by simp)
      · rw [if_neg c6] at H
        have c6b0 : decide (x11_1 < (t109.length : Int)) = false := decide_eq_false c6
        clear c6
        (try simp only [hl5_1] at c6b0)
        obtain rfl := Option.some.inj H
        go_wp2
        go_ret
        exact ⟨_, by first | rfl | (simp [errW_none, errW_some] <;> rfl) | (simp [*, errW_none, errW_some] <;> rfl), by (with_reducible repeat (first | apply Kd.R_alloc | apply Kd.R_drewN | apply Kd.R_drew)); exact HO_5.out, by repeat (first | (with_reducible first | exact HB.out | apply below_alloc | apply pw_below_drewN | apply below_drew1) | exact HB.out)⟩
def vector_Key.f (k : Nat) (a0 : Int) (l1 : List Int) (l2 : List Int) : Option (Int) := (vector_Sub.f k l1 l2).bind fun t115 => ((vector_Norm.f a0 t115).bind fun t118 => (some t118))
theorem vector_Key.mono : ∀ a0 a1 a2 k, LeO (vector_Key.f k a0 a1 a2) (vector_Key.f (k + 1) a0 a1 a2) := by
  intro a0 a1 a2 k
  unfold vector_Key.f
  repeat' first
      | (with_reducible exact vector_Sub.mono _ _ _)
      | (with_reducible exact LeO.refl _)
      | (with_reducible exact LeO.none _)
      | (with_reducible refine LeO.ite ?_ ?_)
      | (with_reducible refine LeO.bind ?_ (fun _ => ?_))
      | exact vector_Sub.mono _ _ _
      | exact LeO.none _
      | refine LeO.ite ?_ ?_
      | refine LeO.bind ?_ (fun _ => ?_)
set_option maxHeartbeats 8000000 in
set_option maxRecDepth 100000 in
theorem vector_Key.calls (k : Nat) (a0 : Int) (A1 : Option Addr) (c1 : Nat) (l1 : List Int) (A2 : Option Addr) (c2 : Nat) (l2 : List Int) (r : Int) (w : World) (hr1 : Kd.C (Kd.int .i64) w A1 l1.length l1) (hc1 : l1.length ≤ c1) (hr2 : Kd.C (Kd.int .i64) w A2 l2.length l2) (hc2 : l2.length ≤ c2) (h : vector_Key.f k a0 l1 l2 = some r) :
    Calls Try.prog 27 #[.int .i64 a0, .slice A1 l1.length c1, .slice A2 l2.length c2] w fun e w' => e = .returned (.int .i64 r) ∧ Below w.heap.size w w' := by
  have HR1 := Aside0.mk hr1
  have HC1 := Aside0.mk hc1
  clear hr1 hc1
  have HR2 := Aside0.mk hr2
  have HC2 := Aside0.mk hc2
  clear hr2 hc2
  have HB := Aside0.mk (Below.refl w.heap.size w)
  have H : ((vector_Sub.f k l1 l2).bind fun t115 => ((vector_Norm.f a0 t115).bind fun t118 => (some t118))) = some r := h
  clear h
  replace H := Option.bind_eq_some_iff.mp H
  obtain ⟨t115, A40, H⟩ := H
  replace H : ((vector_Norm.f a0 t115).bind fun t118 => (some t118)) = some r := H
  have A4 := Aside0.mk A40
  clear A40
  replace H := Option.bind_eq_some_iff.mp H
  obtain ⟨t118, A50, H⟩ := H
  replace H : (some t118) = some r := H
  have A5 := Aside0.mk A50
  clear A50
  obtain rfl := Option.some.inj H
  go_enter Try.func27, Try.ntmps27
  go_wp2_with (first | ((with_reducible refine gate_callee (f := 64) rfl ?_); refine goesL_ (some 10) rfl rfl Try.func64 (by kernel_rfl) rfl #[.slice A1 l1.length c1, .slice A2 l2.length c2] rfl (by (try simp only [List.map_toArray, List.map_cons, List.map_nil]); first | done | rfl | (simp only [List.length_drop, List.length_take]; rfl)) ?_; (with_reducible refine (vector_Sub.calls k _ _ l1 _ _ l2 t115 _ ?side1 ?side2 ?side3 ?side4 A4.out).mono ?_); (case side1 => repeat (first | exact HR1.out | (with_reducible refine Kd.C_alloc ?_ _) | (with_reducible refine Kd.C_drewN ?_ _) | (with_reducible refine Kd.C_drew ?_))); (case side2 => exact HC1.out); (case side3 => repeat (first | exact HR2.out | (with_reducible refine Kd.C_alloc ?_ _) | (with_reducible refine Kd.C_drewN ?_ _) | (with_reducible refine Kd.C_drew ?_))); (case side4 => exact HC2.out); rintro e w6 ⟨v116, rfl, ho0, hb⟩; refine ⟨_, rfl, ?_⟩; have n0_ := Aside0.mk (Kd.R_lower ho0 (below_size (by repeat (first | (with_reducible first | exact HB.out | apply below_alloc | apply pw_below_drewN | apply below_drew1) | exact HB.out)))); have n1_ := Aside0.mk (below_step (by repeat (first | (with_reducible first | exact HB.out | apply below_alloc | apply pw_below_drewN | apply below_drew1) | exact HB.out)) hb); clear HB; have HO117 := n0_; have HB := n1_; clear n0_ n1_; (try clear hb); (try clear hb2); (try clear hk); (try clear hi); (try clear ho0); obtain ⟨Ao7, co7, eo7⟩ := Kd.R_slice HO117.out; subst eo7) | ((with_reducible refine gate_callee (f := 63) rfl ?_); refine goesL_ (some 11) rfl rfl Try.func63 (by kernel_rfl) rfl #[.int .i64 a0, .slice Ao7 t115.length co7] rfl (by (try simp only [List.map_toArray, List.map_cons, List.map_nil]); first | done | rfl | (simp only [List.length_drop, List.length_take]; rfl)) ?_; (with_reducible refine (vector_Norm.calls a0 _ _ t115 t118 _ ?side1 ?side2 A5.out).mono ?_); (case side1 => repeat (first | exact (Kd.R_reads' HO117.out).2.2 | (with_reducible refine Kd.C_alloc ?_ _) | (with_reducible refine Kd.C_drewN ?_ _) | (with_reducible refine Kd.C_drew ?_))); (case side2 => exact (Kd.R_reads' HO117.out).2.1); rintro e w8 ⟨rfl, hb⟩; refine ⟨_, rfl, ?_⟩; have n0_ := Aside0.mk (Kd.R_below (by (with_reducible repeat (first | apply Kd.R_alloc | apply Kd.R_drewN | apply Kd.R_drew)); exact HO117.out) hb); have n1_ := Aside0.mk (below_step (by repeat (first | (with_reducible first | exact HB.out | apply below_alloc | apply pw_below_drewN | apply below_drew1) | exact HB.out)) hb); clear HO117; clear HB; have HO117 := n0_; have HB := n1_; clear n0_ n1_; (try clear hb); (try clear hb2); (try clear hk); (try clear hi)))
  go_ret
  exact ⟨by first | rfl | (simp [errW_none, errW_some] <;> rfl) | (simp [*, errW_none, errW_some] <;> rfl), by repeat (first | (with_reducible first | exact HB.out | apply below_alloc | apply pw_below_drewN | apply below_drew1) | exact HB.out)⟩
end Go.Proofs.Ytoidpkpgeeeggaa.Q
end
section
namespace Go.Proofs.Ytoidpkpgeeeggaa.Q
open Go.RowKit Go.Proofs.YtoidpkpgeeeggaaW.PrintWords Go.Proofs.YtoidpkpgeeeggaaW.PrintLast Go.Proofs.YtoidpkpgeeeggaaW.PrintMore
attribute [local go_sem] max2_int min2_int max_two min_two max_three min_three max_four min_four   -- for this text's walks alone
set_option linter.unusedVariables false
set_option linter.unusedSimpArgs false
theorem eqA88 (d : Nat) (w : World) (x0 y0 : Int) (x1 y1 : Int) :
    (Op.equalIn (d + 2) 88 (.agg #[.int .i64 x0, .int .i64 x1]) (.agg #[.int .i64 y0, .int .i64 y1])).run Try.prog w = .ok (x0 == y0 && (x1 == y1)) w := by
  refine eqA_of Try.underlying88 (by kernel_rfl) ?_
  refine eqf_cons (by rfl) (by go_simp; rfl) (by go_simp; rfl) (by go_simp) ?_
  exact eqf_last (by rfl) (by go_simp; rfl) (by go_simp; rfl) (by go_simp)
end Go.Proofs.Ytoidpkpgeeeggaa.Q
end
section
namespace Go.Proofs.Ytoidpkpgeeeggaa.Q
open Go.RowKit Go.Proofs.YtoidpkpgeeeggaaW.PrintWords Go.Proofs.YtoidpkpgeeeggaaW.PrintLast Go.Proofs.YtoidpkpgeeeggaaW.PrintMore
attribute [local go_sem] max2_int min2_int max_two min_two max_three min_three max_four min_four   -- for this text's walks alone
set_option linter.unusedVariables false
set_option linter.unusedSimpArgs false
attribute [local go_sem high] eqA88
theorem vector_rd_mid (pre : List Int) (x : Int) (v : List Int) : rd (pre ++ x :: v) (pre.length : Int) = x := by unfold rd; simp
theorem vector_Sub.ev_l (p : List Int) : ∀ (q pre q0 : List Int), p.length = q.length → pre.length = q0.length → (pre ++ p).length ≤ 1000000 → (∀ x ∈ p, -1000 ≤ x ∧ x ≤ 1000) → (∀ x ∈ q, -1000 ≤ x ∧ x ≤ 1000) →
    Ev (fun k => vector_Sub.l0 k (q0 ++ q) (pre ++ p) ((pre ++ p).length : Int) (pre.length : Int)) (pre ++ Plain.diffs p q) := by
  induction p with
  | nil =>
    intro q pre q0 h1 h2 hl _ _
    obtain rfl : q = [] := List.eq_nil_of_length_eq_zero (by simpa using h1.symm)
    refine Plain.ev_succ ?_
    simp only [vector_Sub.l0, List.append_nil]
    refine Plain.ev_neg (by omega) (Plain.ev_some ?_)
    simp [Plain.diffs]
  | cons x p ih =>
    intro q pre q0 h1 h2 hl hp hq
    obtain ⟨y, q, rfl⟩ : ∃ y t, q = y :: t := by
      cases q with
      | nil => simp at h1
      | cons y t => exact ⟨y, t, rfl⟩
    have hlen : ((pre ++ x :: p).length : Int) = pre.length + 1 + p.length := by simp; omega
    have hlen2 : ((q0 ++ y :: q).length : Int) = q0.length + 1 + q.length := by simp; omega
    have h1' : p.length = q.length := by simpa using h1
    have hx := hp x List.mem_cons_self
    have hy := hq y List.mem_cons_self
    have hn := ih q (pre ++ [x - y]) (q0 ++ [y]) h1' (by simp [h2]) (by simpa using hl) (fun z hz => hp z (List.mem_cons_of_mem _ hz)) (fun z hz => hq z (List.mem_cons_of_mem _ hz))
    have hl' : (pre ++ x :: p).length ≤ 1000000 := hl
    rw [show ((pre ++ [x - y]).length : Int) = (pre.length : Int) + 1 by simp, show q0 ++ [y] ++ q = q0 ++ y :: q by simp, show ((pre ++ [x - y] ++ p).length : Int) = ((pre ++ x :: p).length : Int) by simp] at hn
    refine Plain.ev_succ ?_
    simp only [vector_Sub.l0]
    refine Plain.ev_pos (by omega) (Plain.ev_pos (by omega) (Plain.ev_pos (by omega) (Plain.ev_pos (by omega) ?_)))
    rw [vector_rd_mid, show (pre.length : Int) = (q0.length : Int) by omega, vector_rd_mid, ← show (pre.length : Int) = (q0.length : Int) by omega, Plain.w64 (by omega) (by omega), Plain.w64 (by omega) (by omega), Int.toNat_natCast,
      show (pre ++ x :: p).set pre.length (x - y) = pre ++ [x - y] ++ p by rw [List.set_append]; simp]
    refine Plain.ev_cast hn ?_
    simp [Plain.diffs]
theorem vector_Sub.ev {p q : List Int} (h : Plain.alike p q) : Ev (fun k => vector_Sub.f k p q) (Plain.diffs p q) := by
  have h0 : Ev (fun k => vector_Sub.l0 k q p (p.length : Int) 0) _ := vector_Sub.ev_l p q [] [] h.2.2 rfl (by have := h.1.2.2; simp; omega) h.1.1 h.2.1.1
  refine Plain.ev_ob (show slices_Clone_int_int.f p = some p from if_pos (by have := h.1.2.2; omega)) h0
theorem vector_Key.ev {m : Int} (hm : 1 ≤ m ∧ m ≤ 3) {p q : List Int} (h : Plain.alike p q) : Ev (fun k => vector_Key.f k m p q) (Plain.key m p q) := by
  refine Plain.ev_bind (vector_Sub.ev h) (Plain.ev_ob (show vector_Norm.f m (Plain.diffs p q) = some (Plain.key m p q) from if_pos ⟨hm, Plain.diffs_range _ _ h.1.1 h.2.1.1, ?_⟩) (Plain.ev_some rfl))
  rw [Plain.diffs_length _ _ h.2.2]
  have := h.1.2.2
  omega
/-- the least keys behind i vectors -/
def takeN (xs : List Int) (key : Nat → Int) : Nat → List Int
  | 0 => xs
  | i + 1 => (takeN xs key i).set i (mn (rd (takeN xs key i) (i : Int)) (key i))
theorem takeN_length (xs : List Int) (key : Nat → Int) (i : Nat) : (takeN xs key i).length = xs.length := by
  induction i with
  | zero => rfl
  | succ i ih => simp [takeN, ih]
theorem grown_below {w w' : World} (h : Below w.heap.size w w') (row : Option Nat) : w.grownBy w' row := ⟨h.os, h.tape, h.output, h.size, fun k hk _ => h.block k hk⟩
theorem grown_trans {a b c : World} {row : Option Nat} (h : a.grownBy b row) (k : b.grownBy c row) : a.grownBy c row :=
  ⟨k.os.trans h.os, k.tape.trans h.tape, k.output.trans h.output, Nat.le_trans h.size k.size, fun i hi hne => (k.block i (Nat.lt_of_lt_of_le hi h.size) hne).trans (h.block i hi hne)⟩
theorem grown_refl (w : World) (row : Option Nat) : w.grownBy w row := ⟨rfl, rfl, rfl, Nat.le_refl _, fun _ _ _ => rfl⟩
theorem grown_drew {a b : World} {row : Option Nat} (h : a.grownBy b row) : a.grownBy b.drew row := grown_trans h (grown_below (below_drew (Below.refl _ _)) row)
theorem grown_step {a b c : World} {row : Option Nat} (h : a.grownBy b row) (k : Below b.heap.size b c) : a.grownBy c row := grown_trans h (grown_below k row)
theorem grown_cell {a b : World} {row : Option Nat} (h : a.grownBy b row) {p : Addr} {u : Value} (hp : a.cell? p = some u) (hne : some p.block ≠ row) : b.cell? p = some u :=
  (World.cell?_of_block (h.block _ (World.block_lt_of_cell? _ _ hp) hne)).trans hp
def pivot_take.T3 : Bool × List (List Nat × List Nat) := (true, [([], []), ([0], [0]), ([1], [1]), ([2], [2]), ([], []), ([], []), ([5], [5]), ([6], [6]), ([7], [7]), ([], []), ([8, 9], [8, 9]), ([10], [10]), ([], []), ([12], [12]), ([13], [13]), ([14], [14]), ([], []), ([16], [16]), ([17], [17]), ([18], [18]), ([], []), ([19, 20], [19, 20]), ([21], [21]), ([], []), ([15, 22, 23], [15, 22, 23]), ([11, 24], [11, 24]), ([3, 4, 0, 1, 2, 3, 4, 5, 6, 7, 8, 9, 10, 11, 12, 13, 14, 15, 16, 17, 18, 19, 20, 21, 22, 23, 24, 25], [3, 4]), ([26, 25, 24, 0, 1, 2, 3, 4, 5, 6, 7, 8, 9, 10, 11, 12, 13, 14, 15, 16, 17, 18, 19, 20, 21, 22, 23, 24, 25], [25, 26])])
def pivot_take.B3 : List Nat := [0, 1, 3, 7, 0, 0, 32, 96, 224, 0, 992, 2016, 0, 4096, 12288, 28672, 0, 65536, 196608, 458752, 0, 2031616, 4128768, 0, 16773120, 33554400, 67108863, 134217727]
theorem pivot_take.tab3 : rtab .any (opsOf Try.f45 3) = pivot_take.T3 := by kernel_rfl
theorem pivot_take.bits3 : waitsOk pivot_take.T3.2 pivot_take.B3 = true := by kernel_rfl
set_option maxHeartbeats 4000000 in
set_option maxRecDepth 100000 in
theorem pivot_take.calls (w0 : World) (m : Int) (hm : 1 ≤ m ∧ m ≤ 3) (A : Option Addr) (c : Nat) (l : List (List Int)) (hr : Kd.C (Kd.slice 3 (Kd.int .i64)) w0 A l.length l) (hl : l.length ≤ 4096) (hal : ∀ v ∈ l, Plain.alike (rowOf l 0) v)
    (cb g cap : Nat) (hne : cb ≠ g) (hg : w0.heap.size ≤ g) (xs : List Int) (hlen : xs.length = l.length) (at_ : Nat) (hat : at_ < l.length) (w : World) (HB : Below w0.heap.size w0 w)
    (h0 : w.cell? ⟨cb, 0, none⟩ = some (.int .i64 m)) (h1 : w.cell? ⟨cb, 1, none⟩ = some (.slice A l.length c)) (h2 : w.cell? ⟨cb, 2, none⟩ = some (.slice (some ⟨g, 0, none⟩) xs.length cap))
    (hx : Kd.R (Kd.int .i64) 3 w w0.heap.size (fun _ => True) (.slice (some ⟨g, 0, none⟩) xs.length cap) xs) :
    Calls Try.prog 45 #[.pointer (some ⟨cb, 0, none⟩), .int .i64 at_] w fun e w' => e = .returned (.tuple #[]) ∧
      w'.cell? ⟨cb, 0, none⟩ = some (.int .i64 m) ∧ w'.cell? ⟨cb, 1, none⟩ = some (.slice A l.length c) ∧ w'.cell? ⟨cb, 2, none⟩ = some (.slice (some ⟨g, 0, none⟩) xs.length cap) ∧
      Kd.R (Kd.int .i64) 3 w' w0.heap.size (fun _ => True) (.slice (some ⟨g, 0, none⟩) xs.length cap) (takeN xs (fun i => Plain.key m (rowOf l at_) (rowOf l i)) l.length) ∧ w.grownBy w' (some g) := by
  obtain ⟨key, hkey⟩ : ∃ key, (fun i => Plain.key m (rowOf l at_) (rowOf l i)) = key := ⟨_, rfl⟩
  have HK : Aside0 (∀ i, i < l.length → ∃ k, vector_Key.f k m (rowOf l at_) (rowOf l i) = some (key i)) := ⟨fun i hi => by
    have ha : Plain.alike (rowOf l at_) (rowOf l i) := Plain.alike_trans (Plain.alike_symm (hal _ (rowOf_mem hat))) (hal _ (rowOf_mem hi))
    obtain ⟨k, hk⟩ := Plain.ev_ex (vector_Key.ev hm ha)
    exact ⟨k, hk.trans (by rw [← hkey])⟩⟩
  rw [hkey]
  clear hkey hal
  obtain ⟨ad, A0, c0, eA, ha0, hc0, hR0⟩ := rows_at hr at_ hat
  have HR := Aside0.mk hr
  have HR0 := Aside0.mk hR0
  have HA0 := Aside0.mk ha0
  have HC0 := Aside0.mk hc0
  have HX := Aside0.mk hx
  have HBof : Aside0 (∀ W, w.grownBy W (some g) → Below w0.heap.size w0 W) := ⟨fun W h => HB.grown h HB.size (fun k hk => by cases hk; exact hg)⟩
  have HB0 := Aside0.mk (grown_refl w (some g))
  have H0 := Aside0.mk h0
  have H1 := Aside0.mk h1
  have H2 := Aside0.mk h2
  have HG := Aside0.mk hg
  have HNE := Aside0.mk hne
  have hu := Try.underlying78
  subst eA
  clear hr hR0 ha0 hc0 hx HB h0 h2 hg
  go_enter Try.func45, Try.ntmps45
  go_wp2_with fail
  clear h1
  go_loopw [11] (fun v wr => ∃ i : Nat, v = .int .i64 i ∧ i ≤ l.length ∧ Aside0 (wr.cell? ⟨cb, 0, none⟩ = some (.int .i64 m)) ∧ Aside0 (wr.cell? ⟨cb, 1, none⟩ = some (.slice (some ad) l.length c)) ∧ Aside0 (wr.cell? ⟨cb, 2, none⟩ = some (.slice (some ⟨g, 0, none⟩) xs.length cap)) ∧
    Aside0 (Kd.R (Kd.int .i64) 3 wr w0.heap.size (fun _ => True) (.slice (some ⟨g, 0, none⟩) xs.length cap) (takeN xs key i)) ∧ Aside0 (w.grownBy wr (some g))) (fun v _ => l.length - (intOf v).toNat)
  case atStart => exact ⟨0, rfl, Nat.zero_le _, H0, H1, H2, HX, HB0⟩
  case round =>
    clear H0 H1 H2 HX HB0
    obtain ⟨i, rfl, hi, H0, H1, H2, HX, HB⟩ := hrel
    by_cases hlt : i < l.length
    · obtain ⟨ad1, A1, c1, e1, ha1, hc1, hR1⟩ := rows_at HR.out i hlt
      cases e1
      have p1 : (0 : Int) ≤ (i : Int) := by omega
      have q1 : (i : Int) < (l.length : Int) := by omega
      obtain ⟨k, hk⟩ := HK.out i hlt
      have HC := Aside0.mk (fun (W : World) (hG : w.grownBy W (some g)) (hW : Below w0.heap.size w0 W) => vector_Key.calls k m A0 c0 (rowOf l at_) A1 c1 (rowOf l i) (key i) W (Kd.C_below HR0.out hW) HC0.out (Kd.C_below hR1 hW) hc1 hk)
      have hA1 : wr.cell? (ad.add i) = some (.slice A1 (rowOf l i).length c1) := ((HBof.out _ HB.out).cell (World.block_lt_of_cell? _ _ ha1)).trans ha1
      have hA0 : wr.cell? (ad.add at_) = some (.slice A0 (rowOf l at_).length c0) := ((HBof.out _ HB.out).cell (World.block_lt_of_cell? _ _ HA0.out)).trans HA0.out
      have hl2 : (takeN xs key i).length = xs.length := takeN_length _ _ _
      obtain ⟨ys, hys⟩ : ∃ ys, takeN xs key i = ys := ⟨_, rfl⟩
      have hstep : takeN xs key (i + 1) = ys.set i (mn (rd ys (i : Int)) (key i)) := by rw [← hys]; rfl
      rw [hys] at HX hl2
      have q2 : (i : Int) < (xs.length : Int) := by omega
      have p3 : (0 : Int) ≤ (at_ : Int) := by omega
      have q3 : (at_ : Int) < (l.length : Int) := by omega
      obtain ⟨hx1, hf1⟩ := Kd.R_celln 0 HX.out (i : Int) p1 q2
      rw [Int.toNat_natCast] at hx1 hf1
      replace hx1 : wr.cell? ⟨g, i, none⟩ = some (.int .i64 (rd ys (i : Int))) := hx1
      obtain ⟨y, hy⟩ : ∃ y, mn (rd ys (i : Int)) (key i) = y := ⟨_, rfl⟩
      have HST := Aside0.mk (hstep.trans (by rw [hy]))
      have HNE2 := HNE.out
      unfold mn at hy
      generalize rowOf l i = v1 at *
      generalize rowOf l at_ = v0 at *
      generalize rd ys (i : Int) = y0 at *
      generalize key i = ki at *
      clear hk hys hstep
      go_wp2_with fail
      refine start_ (n := 28) (S := fun w' => w'.cell? ⟨cb, 2, none⟩ = some (.slice (some ⟨g, 0, none⟩) xs.length cap) ∧ w'.cell? ⟨g, i, none⟩ = some (.int .i64 y0) ∧ w'.cell? ⟨cb, 0, none⟩ = some (.int .i64 m) ∧ w'.cell? ⟨cb, 1, none⟩ = some (.slice (some ad) l.length c) ∧ w'.cell? (ad.add at_) = some (.slice A0 v0.length c0) ∧ w.grownBy w' (some g)) (ds := [27]) #[false, false, false, false, false, false, false, false, false, false, false, false, false, false, false, false, false, false, false, false, false, false, false, false, false, false, false, false] (by kernel_rfl) rfl rfl ⟨H2.out, hx1, H0.out, H1.out, hA0, (grown_drew HB.out)⟩ (fun hHeld => ?_)
      refine with_tabW pivot_take.tab3 pivot_take.bits3 (fun HT_ HW_ => ?_)
      refine pure_ (i := 0) (N := some 16) (v := ?_) (a' := ?_) #[true, false, false, false, false, false, false, false, false, false, false, false, false, false, false, false, false, false, false, false, false, false, false, false, false, false, false, false] rfl rfl (any_of HT_.out (by kernel_rfl)) (fun _ _ _ h => h) (Or.inl ⟨by rfl, ?_⟩) ?_ ?_
      rotate_left
      · intro w'
        go_simp
        with_reducible rfl
      rotate_left
      · simp only [Act.put, List.setIfInBounds_toArray, List.set_cons_zero, List.set_cons_succ, i64_w, i32_w]
        rfl
      refine pure_ (i := 1) (N := some 17) (v := ?_) (a' := ?_) #[true, true, false, false, false, false, false, false, false, false, false, false, false, false, false, false, false, false, false, false, false, false, false, false, false, false, false, false] rfl rfl (any_of HT_.out (by kernel_rfl)) (fun _ _ _ h => h) (Or.inl ⟨by rfl, ?_⟩) ?_ ?_
      rotate_left
      · intro w'
        go_simp
        with_reducible rfl
      rotate_left
      · simp only [Act.put, List.setIfInBounds_toArray, List.set_cons_zero, List.set_cons_succ, i64_w, i32_w]
        rfl
      refine pure_ (i := 2) (N := some 18) (v := ?_) (a' := ?_) #[true, true, true, false, false, false, false, false, false, false, false, false, false, false, false, false, false, false, false, false, false, false, false, false, false, false, false, false] rfl rfl (any_of HT_.out (by kernel_rfl)) (fun _ _ _ h => h) (Or.inl ⟨by rfl, ?_⟩) ?_ ?_
      rotate_left
      · intro w'
        go_simp
        with_reducible rfl
      rotate_left
      · simp only [Act.put, List.setIfInBounds_toArray, List.set_cons_zero, List.set_cons_succ, i64_w, i32_w]
        rfl
      refine pure_ (i := 4) (N := some 20) (v := ?_) (a' := ?_) #[true, true, true, false, true, false, false, false, false, false, false, false, false, false, false, false, false, false, false, false, false, false, false, false, false, false, false, false] rfl rfl (any_of HT_.out (by kernel_rfl)) (fun _ _ _ h => h) (Or.inl ⟨by rfl, ?_⟩) ?_ ?_
      rotate_left
      · intro w'
        go_simp
        with_reducible rfl
      rotate_left
      · simp only [Act.put, List.setIfInBounds_toArray, List.set_cons_zero, List.set_cons_succ, i64_w, i32_w]
        rfl
      refine pure_ (i := 5) (N := some 21) (v := ?_) (a' := ?_) #[true, true, true, false, true, true, false, false, false, false, false, false, false, false, false, false, false, false, false, false, false, false, false, false, false, false, false, false] rfl rfl (any_of HT_.out (by kernel_rfl)) (fun _ _ _ h => h) (Or.inl ⟨by rfl, ?_⟩) ?_ ?_
      rotate_left
      · intro w'
        go_simp
        with_reducible rfl
      rotate_left
      · simp only [Act.put, List.setIfInBounds_toArray, List.set_cons_zero, List.set_cons_succ, i64_w, i32_w]
        rfl
      refine pure_ (i := 6) (N := some 22) (v := ?_) (a' := ?_) #[true, true, true, false, true, true, true, false, false, false, false, false, false, false, false, false, false, false, false, false, false, false, false, false, false, false, false, false] rfl rfl (any_of HT_.out (by kernel_rfl)) (fun _ _ _ h => h) (Or.inl ⟨by rfl, ?_⟩) ?_ ?_
      rotate_left
      · intro w'
        go_simp
        with_reducible rfl
      rotate_left
      · simp only [Act.put, List.setIfInBounds_toArray, List.set_cons_zero, List.set_cons_succ, i64_w, i32_w]
        rfl
      refine pure_ (i := 7) (N := some 23) (v := ?_) (a' := ?_) #[true, true, true, false, true, true, true, true, false, false, false, false, false, false, false, false, false, false, false, false, false, false, false, false, false, false, false, false] rfl rfl (any_of HT_.out (by kernel_rfl)) (fun _ _ _ h => h) (Or.inl ⟨by rfl, ?_⟩) ?_ ?_
      rotate_left
      · intro w'
        go_simp
        with_reducible rfl
      rotate_left
      · simp only [Act.put, List.setIfInBounds_toArray, List.set_cons_zero, List.set_cons_succ, i64_w, i32_w]
        rfl
      refine pure_ (i := 9) (N := some 25) (v := ?_) (a' := ?_) #[true, true, true, false, true, true, true, true, false, true, false, false, false, false, false, false, false, false, false, false, false, false, false, false, false, false, false, false] rfl rfl (any_of HT_.out (by kernel_rfl)) (fun _ _ _ h => h) (Or.inl ⟨by rfl, ?_⟩) ?_ ?_
      rotate_left
      · intro w'
        go_simp
        with_reducible rfl
      rotate_left
      · simp only [Act.put, List.setIfInBounds_toArray, List.set_cons_zero, List.set_cons_succ, i64_w, i32_w]
        rfl
      refine pure_ (i := 12) (N := some 28) (v := ?_) (a' := ?_) #[true, true, true, false, true, true, true, true, false, true, false, false, true, false, false, false, false, false, false, false, false, false, false, false, false, false, false, false] rfl rfl (any_of HT_.out (by kernel_rfl)) (fun _ _ _ h => h) (Or.inl ⟨by rfl, ?_⟩) ?_ ?_
      rotate_left
      · intro w'
        go_simp
        with_reducible rfl
      rotate_left
      · simp only [Act.put, List.setIfInBounds_toArray, List.set_cons_zero, List.set_cons_succ, i64_w, i32_w]
        rfl
      refine pure_ (i := 13) (N := some 29) (v := ?_) (a' := ?_) #[true, true, true, false, true, true, true, true, false, true, false, false, true, true, false, false, false, false, false, false, false, false, false, false, false, false, false, false] rfl rfl (any_of HT_.out (by kernel_rfl)) (fun _ _ _ h => h) (Or.inl ⟨by rfl, ?_⟩) ?_ ?_
      rotate_left
      · intro w'
        go_simp
        with_reducible rfl
      rotate_left
      · simp only [Act.put, List.setIfInBounds_toArray, List.set_cons_zero, List.set_cons_succ, i64_w, i32_w]
        rfl
      refine pure_ (i := 14) (N := some 30) (v := ?_) (a' := ?_) #[true, true, true, false, true, true, true, true, false, true, false, false, true, true, true, false, false, false, false, false, false, false, false, false, false, false, false, false] rfl rfl (any_of HT_.out (by kernel_rfl)) (fun _ _ _ h => h) (Or.inl ⟨by rfl, ?_⟩) ?_ ?_
      rotate_left
      · intro w'
        go_simp
        with_reducible rfl
      rotate_left
      · simp only [Act.put, List.setIfInBounds_toArray, List.set_cons_zero, List.set_cons_succ, i64_w, i32_w]
        rfl
      refine pure_ (i := 16) (N := some 32) (v := ?_) (a' := ?_) #[true, true, true, false, true, true, true, true, false, true, false, false, true, true, true, false, true, false, false, false, false, false, false, false, false, false, false, false] rfl rfl (any_of HT_.out (by kernel_rfl)) (fun _ _ _ h => h) (Or.inl ⟨by rfl, ?_⟩) ?_ ?_
      rotate_left
      · intro w'
        go_simp
        with_reducible rfl
      rotate_left
      · simp only [Act.put, List.setIfInBounds_toArray, List.set_cons_zero, List.set_cons_succ, i64_w, i32_w]
        rfl
      refine pure_ (i := 17) (N := some 33) (v := ?_) (a' := ?_) #[true, true, true, false, true, true, true, true, false, true, false, false, true, true, true, false, true, true, false, false, false, false, false, false, false, false, false, false] rfl rfl (any_of HT_.out (by kernel_rfl)) (fun _ _ _ h => h) (Or.inl ⟨by rfl, ?_⟩) ?_ ?_
      rotate_left
      · intro w'
        go_simp
        with_reducible rfl
      rotate_left
      · simp only [Act.put, List.setIfInBounds_toArray, List.set_cons_zero, List.set_cons_succ, i64_w, i32_w]
        rfl
      refine pure_ (i := 18) (N := some 34) (v := ?_) (a' := ?_) #[true, true, true, false, true, true, true, true, false, true, false, false, true, true, true, false, true, true, true, false, false, false, false, false, false, false, false, false] rfl rfl (any_of HT_.out (by kernel_rfl)) (fun _ _ _ h => h) (Or.inl ⟨by rfl, ?_⟩) ?_ ?_
      rotate_left
      · intro w'
        go_simp
        with_reducible rfl
      rotate_left
      · simp only [Act.put, List.setIfInBounds_toArray, List.set_cons_zero, List.set_cons_succ, i64_w, i32_w]
        rfl
      refine pure_ (i := 20) (N := some 36) (v := ?_) (a' := ?_) #[true, true, true, false, true, true, true, true, false, true, false, false, true, true, true, false, true, true, true, false, true, false, false, false, false, false, false, false] rfl rfl (any_of HT_.out (by kernel_rfl)) (fun _ _ _ h => h) (Or.inl ⟨by rfl, ?_⟩) ?_ ?_
      rotate_left
      · intro w'
        go_simp
        with_reducible rfl
      rotate_left
      · simp only [Act.put, List.setIfInBounds_toArray, List.set_cons_zero, List.set_cons_succ, i64_w, i32_w]
        rfl
      refine pure_ (i := 23) (N := some 39) (v := ?_) (a' := ?_) #[true, true, true, false, true, true, true, true, false, true, false, false, true, true, true, false, true, true, true, false, true, false, false, true, false, false, false, false] rfl rfl (any_of HT_.out (by kernel_rfl)) (fun _ _ _ h => h) (Or.inl ⟨by rfl, ?_⟩) ?_ ?_
      rotate_left
      · intro w'
        go_simp
        with_reducible rfl
      rotate_left
      · simp only [Act.put, List.setIfInBounds_toArray, List.set_cons_zero, List.set_cons_succ, i64_w, i32_w]
        rfl
      refine take_ (i := 3) (N := some 19) (v := ?_) (a' := ?_) #[true, true, true, true, true, true, true, true, false, true, false, false, true, true, true, false, true, true, true, false, true, false, false, true, false, false, false, false] rfl rfl (take_ofW HT_.out HW_.out (by kernel_rfl)) (fun _ _ _ h => h) (Or.inl ⟨by rfl, ?_⟩) hHeld ?_ ?_
      rotate_left
      · rintro w' ⟨s0, s1, s2, s3, s4, s5⟩
        go_simp
        with_reducible rfl
      rotate_left
      · simp only [Act.put, List.setIfInBounds_toArray, List.set_cons_zero, List.set_cons_succ, i64_w, i32_w]
        rfl
      refine take_ (i := 8) (N := some 24) (v := ?_) (a' := ?_) #[true, true, true, true, true, true, true, true, true, true, false, false, true, true, true, false, true, true, true, false, true, false, false, true, false, false, false, false] rfl rfl (take_ofW HT_.out HW_.out (by kernel_rfl)) (fun _ _ _ h => h) (Or.inl ⟨by rfl, ?_⟩) hHeld ?_ ?_
      rotate_left
      · rintro w' ⟨s0, s1, s2, s3, s4, s5⟩
        go_simp
        with_reducible rfl
      rotate_left
      · simp only [Act.put, List.setIfInBounds_toArray, List.set_cons_zero, List.set_cons_succ, i64_w, i32_w]
        rfl
      refine pure_ (i := 10) (N := some 26) (v := ?_) (a' := ?_) #[true, true, true, true, true, true, true, true, true, true, true, false, true, true, true, false, true, true, true, false, true, false, false, true, false, false, false, false] rfl rfl (any_of HT_.out (by kernel_rfl)) (fun _ _ _ h => h) (Or.inl ⟨by rfl, ?_⟩) ?_ ?_
      rotate_left
      · intro w'
        go_simp
        with_reducible rfl
      rotate_left
      · simp only [Act.put, List.setIfInBounds_toArray, List.set_cons_zero, List.set_cons_succ, i64_w, i32_w]
        rfl
      refine take_ (i := 11) (N := some 27) (v := ?_) (a' := ?_) #[true, true, true, true, true, true, true, true, true, true, true, true, true, true, true, false, true, true, true, false, true, false, false, true, false, false, false, false] rfl rfl (take_ofW HT_.out HW_.out (by kernel_rfl)) (fun _ _ _ h => h) (Or.inl ⟨by rfl, ?_⟩) hHeld ?_ ?_
      rotate_left
      · rintro w' ⟨s0, s1, s2, s3, s4, s5⟩
        go_simp
        with_reducible rfl
      rotate_left
      · simp only [Act.put, List.setIfInBounds_toArray, List.set_cons_zero, List.set_cons_succ, i64_w, i32_w]
        rfl
      refine take_ (i := 15) (N := some 31) (v := ?_) (a' := ?_) #[true, true, true, true, true, true, true, true, true, true, true, true, true, true, true, true, true, true, true, false, true, false, false, true, false, false, false, false] rfl rfl (take_ofW HT_.out HW_.out (by kernel_rfl)) (fun _ _ _ h => h) (Or.inl ⟨by rfl, ?_⟩) hHeld ?_ ?_
      rotate_left
      · rintro w' ⟨s0, s1, s2, s3, s4, s5⟩
        go_simp
        with_reducible rfl
      rotate_left
      · simp only [Act.put, List.setIfInBounds_toArray, List.set_cons_zero, List.set_cons_succ, i64_w, i32_w]
        rfl
      refine take_ (i := 19) (N := some 35) (v := ?_) (a' := ?_) #[true, true, true, true, true, true, true, true, true, true, true, true, true, true, true, true, true, true, true, true, true, false, false, true, false, false, false, false] rfl rfl (take_ofW HT_.out HW_.out (by kernel_rfl)) (fun _ _ _ h => h) (Or.inl ⟨by rfl, ?_⟩) hHeld ?_ ?_
      rotate_left
      · rintro w' ⟨s0, s1, s2, s3, s4, s5⟩
        go_simp
        with_reducible rfl
      rotate_left
      · simp only [Act.put, List.setIfInBounds_toArray, List.set_cons_zero, List.set_cons_succ, i64_w, i32_w]
        rfl
      refine pure_ (i := 21) (N := some 37) (v := ?_) (a' := ?_) #[true, true, true, true, true, true, true, true, true, true, true, true, true, true, true, true, true, true, true, true, true, true, false, true, false, false, false, false] rfl rfl (any_of HT_.out (by kernel_rfl)) (fun _ _ _ h => h) (Or.inl ⟨by rfl, ?_⟩) ?_ ?_
      rotate_left
      · intro w'
        go_simp
        with_reducible rfl
      rotate_left
      · simp only [Act.put, List.setIfInBounds_toArray, List.set_cons_zero, List.set_cons_succ, i64_w, i32_w]
        rfl
      refine take_ (i := 22) (N := some 38) (v := ?_) (a' := ?_) #[true, true, true, true, true, true, true, true, true, true, true, true, true, true, true, true, true, true, true, true, true, true, true, true, false, false, false, false] rfl rfl (take_ofW HT_.out HW_.out (by kernel_rfl)) (fun _ _ _ h => h) (Or.inl ⟨by rfl, ?_⟩) hHeld ?_ ?_
      rotate_left
      · rintro w' ⟨s0, s1, s2, s3, s4, s5⟩
        go_simp
        with_reducible rfl
      rotate_left
      · simp only [Act.put, List.setIfInBounds_toArray, List.set_cons_zero, List.set_cons_succ, i64_w, i32_w]
        rfl
      refine one_ (i := 24) (N := some 40) #[true, true, true, true, true, true, true, true, true, true, true, true, true, true, true, true, true, true, true, true, true, true, true, true, true, false, false, false] rfl rfl (one_of HT_.out (by kernel_rfl)) (by decide) (fun K hK => ?_)
      refine goes_ Try.func27 (by kernel_rfl) rfl #[.int .i64 m, .slice A0 v0.length c0, .slice A1 v1.length c1] (by rfl) rfl rfl (by simp only [List.map_toArray, List.map_cons, List.map_nil]; rfl) ?_
      with_reducible refine (HC.out _ hHeld.2.2.2.2.2 (HBof.out _ hHeld.2.2.2.2.2)).mono ?_
      rintro e w3 ⟨rfl, hb⟩
      refine ⟨_, rfl, ?_⟩
      have HX3 := Aside0.mk (Kd.R_below (Kd.R_drew HX.out) hb)
      have hx3 := pw_cell_below hb hHeld.2.1
      have hf3 := (Kd.R_celln 0 HX3.out (i : Int) p1 q2).2
      rw [Int.toNat_natCast] at hf3
      have hh0' := pw_cell_below hb hHeld.2.2.1
      have hh1' := pw_cell_below hb hHeld.2.2.2.1
      have hh2' := pw_cell_below hb hHeld.1
      have hhb' := grown_step hHeld.2.2.2.2.2 hb
      refine hK.out _ _ ⟨(pw_cell_below hb hHeld.1), (pw_cell_below hb hHeld.2.1), (pw_cell_below hb hHeld.2.2.1), (pw_cell_below hb hHeld.2.2.2.1), (pw_cell_below hb hHeld.2.2.2.2.1), (grown_step hHeld.2.2.2.2.2 hb)⟩ (fun hHeld => ?_)
      clear hK K
      refine norm_ (a' := ?_) ?_ ?_
      rotate_left
      · show Act.put _ (some 40) _ = _
        simp only [Act.put, List.setIfInBounds_toArray, List.set_cons_zero, List.set_cons_succ, i64_w, i32_w]
        rfl
      refine pure_ (i := 25) (N := some 41) (v := ?_) (a' := ?_) #[true, true, true, true, true, true, true, true, true, true, true, true, true, true, true, true, true, true, true, true, true, true, true, true, true, true, false, false] rfl rfl (any_of HT_.out (by kernel_rfl)) (fun _ _ _ h => h) (Or.inl ⟨by rfl, ?_⟩) ?_ ?_
      rotate_left
      · intro w'
        go_simp
        with_reducible rfl
      rotate_left
      · simp only [Act.put, List.setIfInBounds_toArray, List.set_cons_zero, List.set_cons_succ, i64_w, i32_w]
        rfl
      refine pure_ (i := 26) (N := some 42) (v := ?_) (a' := ?_) #[true, true, true, true, true, true, true, true, true, true, true, true, true, true, true, true, true, true, true, true, true, true, true, true, true, true, true, false] rfl rfl (any_of HT_.out (by kernel_rfl)) (fun _ _ _ h => h) (Or.inl ⟨by rfl, ?_⟩) ?_ ?_
      rotate_left
      · intro w'
        go_simp
        with_reducible rfl
      rotate_left
      · simp only [Act.put, List.setIfInBounds_toArray, List.set_cons_zero, List.set_cons_succ, i64_w, i32_w]
        rfl
      refine last_ (i := 27) (N := none) #[true, true, true, true, true, true, true, true, true, true, true, true, true, true, true, true, true, true, true, true, true, true, true, true, true, true, true, true] rfl rfl (one_of HT_.out (by kernel_rfl)) (by decide) (fun K hK => ?_)
      refine skip_ (w1 := ?_) (by rfl) rfl ?_ ?_
      rotate_left
      · go_simp
        rfl
      have hh0 : (w3.setCell ⟨g, i, none⟩ (.int .i64 y)).cell? ⟨cb, 0, none⟩ = some (.int .i64 m) := (World.cell?_setCell_far _ _ _ _ (Ne.symm HNE2)).trans hh0'
      have hh1 : (w3.setCell ⟨g, i, none⟩ (.int .i64 y)).cell? ⟨cb, 1, none⟩ = some (.slice (some ad) l.length c) := (World.cell?_setCell_far _ _ _ _ (Ne.symm HNE2)).trans hh1'
      have hh2 : (w3.setCell ⟨g, i, none⟩ (.int .i64 y)).cell? ⟨cb, 2, none⟩ = some (.slice (some ⟨g, 0, none⟩) xs.length cap) := (World.cell?_setCell_far _ _ _ _ (Ne.symm HNE2)).trans hh2'
      have hhx := Kd.R_putn HX3.out (i : Int) y
      rw [Int.toNat_natCast] at hhx
      have hhb : w.grownBy (w3.setCell ⟨g, i, none⟩ (.int .i64 y)) (some g) := grown_trans hhb' (by have h := (Kd.R_putg HX3.out (i : Int) y).2; rw [Int.toNat_natCast] at h; exact h)
      clear hh0' hh1' hh2' hhb' hx3 hf3
      generalize w3.setCell ⟨g, i, none⟩ (.int .i64 y) = w5 at *
      refine hK.out _ _ ?_
      clear hK K
      refine done_ (done_of HT_.out (by kernel_rfl)) ?_
      clear hy
      go_wp2
      go_roundw
      case rel => exact ⟨i + 1, by go_num, hlt, ⟨hh0⟩, ⟨hh1⟩, ⟨hh2⟩, ⟨by rw [HST.out]; exact hhx⟩, ⟨hhb⟩⟩
      case measure => simp [intOf]; omega
    · obtain rfl : i = l.length := by omega
      go_wp2
      (try simp only [Exit.inBlock, Exit.then])
      first | (refine bodyPost_ret (results_none rfl _ _ _) rfl ?_) | (refine bodyPost_end (results_none rfl _ _ _) rfl ?_)
      exact ⟨rfl, H0.out, H1.out, H2.out, HX.out, HB.out⟩
def pivot_all.f  : Option (Int × Int) := some (0, 134217728)
set_option maxHeartbeats 8000000 in
set_option maxRecDepth 100000 in
theorem pivot_all.calls  (r1 : Int) (r2 : Int) (w : World) (h : pivot_all.f  = some (r1, r2)) :
    Calls Try.prog 56 #[] w fun e w' => e = .returned (.agg #[.int .i64 r1, .int .i64 r2]) ∧ Below w.heap.size w w' := by
  have hu88 := Try.underlying88
  have HB := Aside0.mk (Below.refl w.heap.size w)
  have H : (some (0, 134217728)) = some (r1, r2) := h
  clear h
  simp only [Option.some.injEq, Prod.mk.injEq] at H
  obtain ⟨rfl, rfl⟩ := H
  go_enter Try.func56, Try.ntmps56
  go_wp2_with (first | ((with_reducible refine gate_dst (N := 0) rfl ?_); refine box_event ?hg (N := 0) ?hd (cs := #[.int .i64 0, .int .i64 0]) (t := 88) ?hr ?_; (case hd => rfl); (case hg => rfl); (case hr => first | (go_simp; done) | (go_simp; rfl)); intro gb119 hg w1 hbox hb; have n0_ := Aside0.mk (below_step (by repeat (first | (with_reducible first | exact HB.out | apply below_alloc | apply pw_below_drewN | apply below_drew1) | exact HB.out)) hb); have n1_ := Aside0.mk (hbox); have n2_ := Aside0.mk ((by rw [hg]; exact (below_size (by repeat (first | (with_reducible first | exact HB.out | apply below_alloc | apply pw_below_drewN | apply below_drew1) | exact HB.out))) : w.heap.size ≤ gb119)); have n3_ := Aside0.mk ((by rw [hg]; exact (below_size (by repeat (first | (with_reducible first | exact HB.out | apply below_alloc | apply pw_below_drewN | apply below_drew1) | exact HB.out))) : w.heap.size ≤ gb119)); clear HB; have HB := n0_; have BK119 := n1_; have GW119 := n2_; have GE119 := n3_; clear n0_ n1_ n2_ n3_; clear hb hbox hg; have hcz2_0 : w1.cell? ⟨gb119, 0, none⟩ = some (.int .i64 0) := (blk_cell BK119.out 0).trans rfl; have hcz2_1 : w1.cell? ⟨gb119, 1, none⟩ = some (.int .i64 0) := (blk_cell BK119.out 1).trans rfl; have hfz2_0 := blk_frozen BK119.out 0; have hfz2_1 := blk_frozen BK119.out 1))
  refine bodyPost_ret (results_cell_row rfl _ _ gb119 88 #[.int .i64 0, .int .i64 134217728] (0, 0) _ rfl (by (with_reducible repeat (first | refine blk_drewN ?_ _ | refine blk_drew ?_ | refine blk_alloc ?_ _)); refine blk_put (cs := #[.int .i64 0, .int .i64 0]) ?_ 1 _ rfl; (with_reducible repeat (first | refine blk_drewN ?_ _ | refine blk_drew ?_ | refine blk_alloc ?_ _)); refine blk_put (cs := #[.int .i64 0, .int .i64 0]) ?_ 0 _ rfl; (with_reducible repeat (first | refine blk_drewN ?_ _ | refine blk_drew ?_ | refine blk_alloc ?_ _)); exact BK119.out) Try.underlying88 rfl (by kernel_rfl)) rfl ?_
  exact ⟨by first | rfl | (simp [errW_none, errW_some] <;> rfl) | (simp [*, errW_none, errW_some] <;> rfl), by repeat (first | (with_reducible first | exact HB.out | apply below_alloc | apply pw_below_drewN | apply below_drew1 | refine below_set ?_ GE119.out) | exact HB.out)⟩
def pivot_pair_int_with.f (a0_0 : Int) (a0_1 : Int) (a1 : Int) : Option (Int × Int) := some (mn a0_0 a1, mx a0_1 a1)
set_option maxHeartbeats 8000000 in
set_option maxRecDepth 100000 in
theorem pivot_pair_int_with.calls (a0_0 : Int) (a0_1 : Int) (a1 : Int) (r1 : Int) (r2 : Int) (w : World) (h : pivot_pair_int_with.f a0_0 a0_1 a1 = some (r1, r2)) :
    Calls Try.prog 55 #[.agg #[.int .i64 a0_0, .int .i64 a0_1], .int .i64 a1] w fun e w' => e = .returned (.agg #[.int .i64 r1, .int .i64 r2]) ∧ Below w.heap.size w w' := by
  have hu88 := Try.underlying88
  have HB := Aside0.mk (Below.refl w.heap.size w)
  have H : (some (mn a0_0 a1, mx a0_1 a1)) = some (r1, r2) := h
  clear h
  obtain ⟨ji3, hji3⟩ : ∃ j_ : Int, (mn a0_0 a1) = j_ := ⟨_, rfl⟩
  replace H : (some (ji3, mx a0_1 a1)) = some (r1, r2) := by first | (rw [hji3] at H; exact H) | (simp only [hji3] at H ⊢; exact H)
  have hji3_ : (if a1 < a0_0 then a1 else a0_0) = ji3 := hji3
  obtain ⟨ji4, hji4⟩ : ∃ j_ : Int, (mx a0_1 a1) = j_ := ⟨_, rfl⟩
  replace H : (some (ji3, ji4)) = some (r1, r2) := by first | (rw [hji4] at H; exact H) | (simp only [hji4] at H ⊢; exact H)
  have hji4_ : (if a0_1 < a1 then a1 else a0_1) = ji4 := hji4
  simp only [Option.some.injEq, Prod.mk.injEq] at H
  obtain ⟨rfl, rfl⟩ := H
  go_enter Try.func55, Try.ntmps55
  go_wp2_with (first | ((with_reducible refine gate_dst (N := 2) rfl ?_); refine box_event ?hg (N := 2) ?hd (cs := #[.int .i64 a0_0, .int .i64 a0_1]) (t := 88) ?hr ?_; (case hd => rfl); (case hg => rfl); (case hr => first | (go_simp; done) | (go_simp; rfl)); intro gb120 hg w5 hbox hb; have n0_ := Aside0.mk (below_step (by repeat (first | (with_reducible first | exact HB.out | apply below_alloc | apply pw_below_drewN | apply below_drew1) | exact HB.out)) hb); have n1_ := Aside0.mk (hbox); have n2_ := Aside0.mk ((by rw [hg]; exact (below_size (by repeat (first | (with_reducible first | exact HB.out | apply below_alloc | apply pw_below_drewN | apply below_drew1) | exact HB.out))) : w.heap.size ≤ gb120)); have n3_ := Aside0.mk ((by rw [hg]; exact (below_size (by repeat (first | (with_reducible first | exact HB.out | apply below_alloc | apply pw_below_drewN | apply below_drew1) | exact HB.out))) : w.heap.size ≤ gb120)); clear HB; have HB := n0_; have BK120 := n1_; have GW120 := n2_; have GE120 := n3_; clear n0_ n1_ n2_ n3_; clear hb hbox hg) | ((with_reducible refine gate_dst (N := 4) rfl ?_); refine box_event ?hg (N := 4) ?hd (cs := #[.int .i64 0, .int .i64 0]) (t := 88) ?hr ?_; (case hd => rfl); (case hg => rfl); (case hr => first | (go_simp; done) | (go_simp; rfl)); intro gb121 hg w6 hbox hb; have n0_ := Aside0.mk (blk_below (g := gb120) (o := .cells #[.int .i64 a0_0, .int .i64 a0_1] 88 (0, 0)) (by (with_reducible repeat (first | refine blk_drewN ?_ _ | refine blk_drew ?_ | refine blk_alloc ?_ _)); exact BK120.out) hb); have n1_ := Aside0.mk (below_step (by repeat (first | (with_reducible first | exact HB.out | apply below_alloc | apply pw_below_drewN | apply below_drew1 | refine below_set ?_ GE120.out) | exact HB.out)) hb); have n2_ := Aside0.mk (hbox); have n3_ := Aside0.mk ((by rw [hg]; exact (below_size (by repeat (first | (with_reducible first | exact HB.out | apply below_alloc | apply pw_below_drewN | apply below_drew1 | refine below_set ?_ GE120.out) | exact HB.out))) : w.heap.size ≤ gb121)); have n4_ := Aside0.mk ((by rw [hg]; exact (below_size (by repeat (first | (with_reducible first | exact HB.out | apply below_alloc | apply pw_below_drewN | apply below_drew1 | refine below_set ?_ GE120.out) | exact HB.out))) : w.heap.size ≤ gb121)); have n5_ := Aside0.mk ((by rw [hg]; exact Nat.ne_of_lt (blk_lt (g := gb120) (o := .cells #[.int .i64 a0_0, .int .i64 a0_1] 88 (0, 0)) (by (with_reducible repeat (first | refine blk_drewN ?_ _ | refine blk_drew ?_ | refine blk_alloc ?_ _)); exact BK120.out)) : gb120 ≠ gb121)); have n6_ := Aside0.mk ((by rw [hg]; exact Nat.ne_of_gt (blk_lt (g := gb120) (o := .cells #[.int .i64 a0_0, .int .i64 a0_1] 88 (0, 0)) (by (with_reducible repeat (first | refine blk_drewN ?_ _ | refine blk_drew ?_ | refine blk_alloc ?_ _)); exact BK120.out)) : gb121 ≠ gb120)); clear BK120; clear HB; have BK120 := n0_; have HB := n1_; have BK121 := n2_; have GW121 := n3_; have GE121 := n4_; have NB120_121 := n5_; have NB121_120 := n6_; clear n0_ n1_ n2_ n3_ n4_ n5_ n6_; clear hb hbox hg; have hnb7 := NB120_121.out; have hnc7 := NB121_120.out; have hcz8_0 : w6.cell? ⟨gb120, 0, none⟩ = some (.int .i64 a0_0) := (blk_cell BK120.out 0).trans rfl; have hcz8_1 : w6.cell? ⟨gb120, 1, none⟩ = some (.int .i64 a0_1) := (blk_cell BK120.out 1).trans rfl; have hfz8_0 := blk_frozen BK120.out 0; have hfz8_1 := blk_frozen BK120.out 1; have hcz9_0 : w6.cell? ⟨gb121, 0, none⟩ = some (.int .i64 0) := (blk_cell BK121.out 0).trans rfl; have hcz9_1 : w6.cell? ⟨gb121, 1, none⟩ = some (.int .i64 0) := (blk_cell BK121.out 1).trans rfl; have hfz9_0 := blk_frozen BK121.out 0; have hfz9_1 := blk_frozen BK121.out 1))
  refine bodyPost_ret (results_cell_row rfl _ _ gb121 88 #[.int .i64 ji3, .int .i64 ji4] (0, 0) _ rfl (by (with_reducible repeat (first | refine blk_drewN ?_ _ | refine blk_drew ?_ | refine blk_alloc ?_ _)); refine blk_put (cs := #[.int .i64 ji3, .int .i64 0]) ?_ 1 _ rfl; (with_reducible repeat (first | refine blk_drewN ?_ _ | refine blk_drew ?_ | refine blk_alloc ?_ _)); refine blk_put (cs := #[.int .i64 0, .int .i64 0]) ?_ 0 _ rfl; (with_reducible repeat (first | refine blk_drewN ?_ _ | refine blk_drew ?_ | refine blk_alloc ?_ _)); exact BK121.out) Try.underlying88 rfl (by kernel_rfl)) rfl ?_
  exact ⟨by first | rfl | (simp [errW_none, errW_some] <;> rfl) | (simp only [← hji3, ← hji4]; first | rfl | (simp [errW_none, errW_some] <;> rfl)) | (simp [*, errW_none, errW_some] <;> rfl), by repeat (first | (with_reducible first | exact HB.out | apply below_alloc | apply pw_below_drewN | apply below_drew1 | refine below_set ?_ GE120.out | refine below_set ?_ GE121.out) | exact HB.out)⟩
def pivot_pair_int_has.f (a0_0 : Int) (a0_1 : Int) (a1 : Int) : Option (Bool) := (pivot_pair_int_with.f a0_0 a0_1 a1).bind fun bt123 => (some (a0_0 == bt123.1 && (a0_1 == bt123.2)))
set_option maxHeartbeats 8000000 in
set_option maxRecDepth 100000 in
theorem pivot_pair_int_has.calls (a0_0 : Int) (a0_1 : Int) (a1 : Int) (r : Bool) (w : World) (h : pivot_pair_int_has.f a0_0 a0_1 a1 = some r) :
    Calls Try.prog 57 #[.agg #[.int .i64 a0_0, .int .i64 a0_1], .int .i64 a1] w fun e w' => e = .returned (.bool r) ∧ Below w.heap.size w w' := by
  have hu88 := Try.underlying88
  have HB := Aside0.mk (Below.refl w.heap.size w)
  have H : ((pivot_pair_int_with.f a0_0 a0_1 a1).bind fun bt123 => (some (a0_0 == bt123.1 && (a0_1 == bt123.2)))) = some r := h
  clear h
  replace H := Option.bind_eq_some_iff.mp H
  obtain ⟨⟨t123, t124⟩, A30, H⟩ := H
  replace H : (some (a0_0 == t123 && (a0_1 == t124))) = some r := H
  have A3 := Aside0.mk A30
  clear A30
  obtain rfl := Option.some.inj H
  go_enter Try.func57, Try.ntmps57
  try go_wp2_with (first | ((with_reducible refine gate_dst (N := 2) rfl ?_); refine box_event ?hg (N := 2) ?hd (cs := #[.int .i64 a0_0, .int .i64 a0_1]) (t := 88) ?hr ?_; (case hd => rfl); (case hg => rfl); (case hr => first | (go_simp; done) | (go_simp; rfl)); intro gb122 hg w4 hbox hb; have n0_ := Aside0.mk (below_step (by repeat (first | (with_reducible first | exact HB.out | apply below_alloc | apply pw_below_drewN | apply below_drew1) | exact HB.out)) hb); have n1_ := Aside0.mk (hbox); have n2_ := Aside0.mk ((by rw [hg]; exact (below_size (by repeat (first | (with_reducible first | exact HB.out | apply below_alloc | apply pw_below_drewN | apply below_drew1) | exact HB.out))) : w.heap.size ≤ gb122)); have n3_ := Aside0.mk ((by rw [hg]; exact (below_size (by repeat (first | (with_reducible first | exact HB.out | apply below_alloc | apply pw_below_drewN | apply below_drew1) | exact HB.out))) : w.heap.size ≤ gb122)); clear HB; have HB := n0_; have BK122 := n1_; have GW122 := n2_; have GE122 := n3_; clear n0_ n1_ n2_ n3_; clear hb hbox hg))
  have n0_ := Aside0.mk (blk_drew BK122.out)
  have n1_ := Aside0.mk (below_drew1 HB.out)
  clear BK122
  clear HB
  have BK122 := n0_
  have HB := n1_
  clear n0_ n1_
  refine start_ (n := 6) (S := fun w' => w'.cell? ⟨gb122, 0, none⟩ = some (.int .i64 a0_0) ∧ w'.cell? ⟨gb122, 1, none⟩ = some (.int .i64 a0_1)) (ds := []) #[false, false, false, false, false, false] (by kernel_rfl) rfl rfl ⟨(blk_cell BK122.out 0).trans rfl, (blk_cell BK122.out 1).trans rfl⟩ (fun hHeld => ?_)
  generalize w4.drew = w5 at BK122 HB hHeld ⊢
  refine pure_ (i := 2) (N := some 7) (v := ?_) (a' := ?_) #[false, false, true, false, false, false] rfl rfl (by kernel_rfl) (fun _ _ _ h => h) (Or.inl ⟨by rfl, ?_⟩) ?_ ?_
  rotate_left
  · intro w'
    go_simp
    with_reducible rfl
  rotate_left
  · simp only [Act.put, List.setIfInBounds_toArray, List.set_cons_zero, List.set_cons_succ, i64_w, i32_w]
    rfl
  refine take_ (i := 0) (N := some 5) (v := ?_) (a' := ?_) #[true, false, true, false, false, false] rfl rfl (by kernel_rfl) (fun _ _ _ h => h) (Or.inl ⟨by rfl, ?_⟩) hHeld ?_ ?_
  rotate_left
  · rintro w' ⟨s0, s1⟩
    go_simp
    with_reducible rfl
  rotate_left
  · simp only [Act.put, List.setIfInBounds_toArray, List.set_cons_zero, List.set_cons_succ, i64_w, i32_w]
    rfl
  refine take_ (i := 1) (N := some 6) (v := ?_) (a' := ?_) #[true, true, true, false, false, false] rfl rfl (by kernel_rfl) (fun _ _ _ h => h) (Or.inl ⟨by rfl, ?_⟩) hHeld ?_ ?_
  rotate_left
  · rintro w' ⟨s0, s1⟩
    go_simp
    with_reducible rfl
  rotate_left
  · simp only [Act.put, List.setIfInBounds_toArray, List.set_cons_zero, List.set_cons_succ, i64_w, i32_w]
    rfl
  refine one_ (i := 3) (N := some 8) #[true, true, true, true, false, false] rfl rfl (by kernel_rfl) (by decide) (fun K hK => ?_)
  refine goes_ Try.func55 (by kernel_rfl) rfl #[.agg #[.int .i64 a0_0, .int .i64 a0_1], .int .i64 a1] (by rfl) rfl rfl (by (try simp only [List.map_toArray, List.map_cons, List.map_nil]); first | done | rfl | (simp only [List.length_drop, List.length_take]; rfl)) ?_
  with_reducible refine (pivot_pair_int_with.calls a0_0 a0_1 a1 t123 t124 _ A3.out).mono ?_
  rintro e w6 ⟨rfl, hb⟩
  refine ⟨_, rfl, ?_⟩
  have n0_ := Aside0.mk (blk_below (g := gb122) (o := .cells #[.int .i64 a0_0, .int .i64 a0_1] 88 (0, 0)) (by (with_reducible repeat (first | refine blk_drewN ?_ _ | refine blk_drew ?_ | refine blk_alloc ?_ _)); exact BK122.out) hb)
  have n1_ := Aside0.mk (below_step (by repeat (first | (with_reducible first | exact HB.out | apply below_alloc | apply pw_below_drewN | apply below_drew1 | refine below_set ?_ GE122.out) | exact HB.out)) hb)
  clear BK122
  clear HB
  have BK122 := n0_
  have HB := n1_
  clear n0_ n1_
  (try clear hb)
  (try clear hb2)
  (try clear hk)
  (try clear hi)
  refine hK.out _ _ ⟨(blk_cell BK122.out 0).trans rfl, (blk_cell BK122.out 1).trans rfl⟩ (fun hHeld => ?_)
  clear hK K
  refine norm_ (a' := ?_) ?_ ?_
  rotate_left
  · show Act.put _ (some 8) _ = _
    simp only [Act.put, List.setIfInBounds_toArray, List.set_cons_zero, List.set_cons_succ, i64_w, i32_w]
    rfl
  refine pure_ (i := 4) (N := some 9) (v := ?_) (a' := ?_) #[true, true, true, true, true, false] rfl rfl (by kernel_rfl) (fun _ _ _ h => h) (Or.inl ⟨by rfl, ?_⟩) ?_ ?_
  rotate_left
  · intro w'
    go_simp
    with_reducible rfl
  rotate_left
  · simp only [Act.put, List.setIfInBounds_toArray, List.set_cons_zero, List.set_cons_succ, i64_w, i32_w]
    rfl
  refine pure_ (i := 5) (N := some 4) (v := ?_) (a' := ?_) #[true, true, true, true, true, true] rfl rfl (by kernel_rfl) (fun _ _ _ h => h) (Or.inl ⟨by rfl, ?_⟩) ?_ ?_
  rotate_left
  · intro w'
    go_simp
    with_reducible rfl
  rotate_left
  · simp only [Act.put, List.setIfInBounds_toArray, List.set_cons_zero, List.set_cons_succ, i64_w, i32_w]
    rfl
  refine done_ (by kernel_rfl) ?_
  try go_wp2
  go_ret
  exact ⟨by first | rfl | (simp [errW_none, errW_some] <;> rfl) | (simp [*, errW_none, errW_some] <;> rfl), by repeat (first | (with_reducible first | exact HB.out | apply below_alloc | apply pw_below_drewN | apply below_drew1 | refine below_set ?_ GE122.out) | exact HB.out)⟩
end Go.Proofs.Ytoidpkpgeeeggaa.Q
end
section
namespace Go.Proofs.Ytoidpkpgeeeggaa.Q
open Go.RowKit Go.Proofs.YtoidpkpgeeeggaaW.PrintWords Go.Proofs.YtoidpkpgeeeggaaW.PrintLast Go.Proofs.YtoidpkpgeeeggaaW.PrintMore
attribute [local go_sem] max2_int min2_int max_two min_two max_three min_three max_four min_four   -- for this text's walks alone
set_option linter.unusedVariables false
set_option linter.unusedSimpArgs false
def pivot_Valid.l0 : Nat → List (S57) → List (S57) → Int → Int → Option (Bool)
  | 0, _, _, _, _ => none
  | k + 1, x0, x5, x6, x7 => if x7 < x6 then (if 0 ≤ x7 then (if x7 < (x5.length : Int) then (if ((rd_T57 x5 x7).f0) > ((rd_T57 x5 x7).f1) then (some false) else ((pivot_all.f).bind fun bt127 => ((pivot_pair_int_has.f bt127.1 bt127.2 ((rd_T57 x5 x7).f0)).bind fun t129 => (if t129 = true then ((pivot_all.f).bind fun bt130 => ((pivot_pair_int_has.f bt130.1 bt130.2 ((rd_T57 x5 x7).f1)).bind fun t132 => (if t132 = true then (pivot_Valid.l0 k x0 x5 x6 (wrap64 (x7 + 1))) else (some false)))) else (some false))))) else (none)) else (none)) else (some (decide ((x0.length : Int) ≤ 8)))
def pivot_Valid.f (k : Nat) (l0 : List (S57)) : Option (Bool) := pivot_Valid.l0 k l0 l0 (l0.length : Int) 0
theorem pivot_Valid.mono_l : ∀ k, (∀ y0 y1 y2 y3, LeO (pivot_Valid.l0 k y0 y1 y2 y3) (pivot_Valid.l0 (k + 1) y0 y1 y2 y3))
  | 0 => fun _ _ _ _ r h => by simp [pivot_Valid.l0] at h
  | k + 1 => by
    have ih0 := pivot_Valid.mono_l k
    · intro y0 y1 y2 y3
      unfold pivot_Valid.l0
      repeat' first
      | (with_reducible exact ih0 _ _ _ _)
      | (with_reducible exact LeO.refl _)
      | (with_reducible exact LeO.none _)
      | (with_reducible refine LeO.ite ?_ ?_)
      | (with_reducible refine LeO.bind ?_ (fun _ => ?_))
      | exact ih0 _ _ _ _
      | exact LeO.none _
      | refine LeO.ite ?_ ?_
      | refine LeO.bind ?_ (fun _ => ?_)
theorem pivot_Valid.mono : ∀ a0 k, LeO (pivot_Valid.f k a0) (pivot_Valid.f (k + 1) a0) := by
  intro a0 k
  have ih0 := pivot_Valid.mono_l k
  unfold pivot_Valid.f
  repeat' first
      | (with_reducible exact ih0 _ _ _ _)
      | (with_reducible exact LeO.refl _)
      | (with_reducible exact LeO.none _)
      | (with_reducible refine LeO.ite ?_ ?_)
      | (with_reducible refine LeO.bind ?_ (fun _ => ?_))
      | exact ih0 _ _ _ _
      | exact LeO.none _
      | refine LeO.ite ?_ ?_
      | refine LeO.bind ?_ (fun _ => ?_)
def pivot_Valid.T4 : Bool × List (List Nat × List Nat) := (true, [([], []), ([0], [0]), ([], []), ([2], [2]), ([1, 3], [1, 3]), ([4], [4]), ([5, 5], [5]), ([5], [5]), ([7, 5], [5, 7]), ([6, 8, 6, 5], [5, 6, 8]), ([9, 5], [5, 9]), ([5, 10], [5, 10]), ([11, 9], [11]), ([12, 12], [12]), ([12], [12]), ([14, 12], [12, 14]), ([13, 15, 13, 12], [12, 13, 15]), ([16, 12], [12, 16]), ([12, 17], [12, 17])])
def pivot_Valid.B4 : List Nat := [0, 1, 0, 4, 15, 31, 63, 63, 191, 511, 1023, 2047, 4095, 8191, 8191, 24575, 65535, 131071, 262143]
theorem pivot_Valid.tab4 : rtab .any (opsOf Try.f24 4) = pivot_Valid.T4 := by kernel_rfl
theorem pivot_Valid.bits4 : waitsOk pivot_Valid.T4.2 pivot_Valid.B4 = true := by kernel_rfl
set_option maxHeartbeats 8000000 in
set_option maxRecDepth 100000 in
theorem pivot_Valid.calls (k : Nat) (A0 : Option Addr) (c0 : Nat) (l0 : List (S57)) (r : Bool) (w : World) (hr0 : Kd.C k57 w A0 l0.length l0) (hc0 : l0.length ≤ c0) (h : pivot_Valid.f k l0 = some r) :
    Calls Try.prog 24 #[.slice A0 l0.length c0] w fun e w' => e = .returned (.bool r) ∧ Below w.heap.size w w' := by
  have hu57 := Try.underlying57
  have HR0 := Aside0.mk hr0
  have HC0 := Aside0.mk hc0
  clear hr0 hc0
  have HB := Aside0.mk (Below.refl w.heap.size w)
  have H : (pivot_Valid.l0 k l0 l0 (l0.length : Int) 0) = some r := h
  clear h
  have H' := Aside0.mk H
  clear H
  go_enter Try.func24, Try.ntmps24
  go_wp2
  go_loopg [7] k (fun kq v7 w' => ∃ (x7_1 : Int), v7 = .int .i64 x7_1 ∧ Aside0 (pivot_Valid.l0 kq l0 l0 (l0.length : Int) x7_1 = some r) ∧ Aside0 (kq ≤ k) ∧ Aside0 (Below w.heap.size w w'))
  case atStart => exact ⟨(0), (by first | rfl | (simp; done) | (simp [*]; done)), H', ⟨Nat.le_refl _⟩, ⟨by repeat (first | (with_reducible first | exact HB.out | apply below_alloc | apply pw_below_drewN | apply below_drew1) | exact HB.out)⟩⟩
  case round =>
    clear H'
    obtain ⟨x7_1, rfl, HA, HK1, HB⟩ := hrel
    cases gk with
    | zero => exact absurd HA.out (by simp [pivot_Valid.l0])
    | succ k1 =>
      have H := HA.out
      clear HA
      simp only [pivot_Valid.l0] at H
      by_cases c2 : x7_1 < (l0.length : Int)
      · rw [if_pos c2] at H
        have c2b0 : decide (x7_1 < (l0.length : Int)) = true := decide_eq_true c2
        clear c2
        by_cases c3 : 0 ≤ x7_1
        · rw [if_pos c3] at H
          have c3b0 : decide (0 ≤ x7_1) = true := decide_eq_true c3
          clear c3
          by_cases c4 : x7_1 < (l0.length : Int)
          · rw [if_pos c4] at H
            have c4b0 : decide (x7_1 < (l0.length : Int)) = true := decide_eq_true c4
            clear c4
            by_cases c5 : ((rd_T57 l0 x7_1).f0) > ((rd_T57 l0 x7_1).f1)
            · rw [if_pos c5] at H
              have c5b0 : decide (((rd_T57 l0 x7_1).f1) < ((rd_T57 l0 x7_1).f0)) = true := decide_eq_true c5
              clear c5
              obtain rfl := Option.some.inj H
              have p125 : 0 ≤ (x7_1 : Int) := of_decide_eq_true (by first | (with_reducible assumption) | assumption)
              have q125 : x7_1 < (l0.length : Int) := of_decide_eq_true (by first | (with_reducible assumption) | assumption)
              obtain ⟨ad125, e125, hx125_0, hx125_1⟩ := at_T57 HR0.out x7_1 p125 q125
              cases e125
              replace hx125_0 := (HB.out.cell (World.block_lt_of_cell? w _ hx125_0)).trans hx125_0
              replace hx125_1 := (HB.out.cell (World.block_lt_of_cell? w _ hx125_1)).trans hx125_1
              replace p125 := eq_true p125
              replace q125 := eq_true q125
              try go_wp2_with (first | ((with_reducible refine gate_dst (N := 4) rfl ?_); refine box_event ?hg (N := 4) ?hd (cs := #[.int .i64 0, .int .i64 0]) (t := 57) ?hr ?_; (case hd => rfl); (case hg => rfl); (case hr => first | (go_simp; done) | (go_simp; rfl)); intro gb126 hg w6 hbox hb; have n0_ := Aside0.mk (below_step (by repeat (first | (with_reducible first | exact HB.out | apply below_alloc | apply pw_below_drewN | apply below_drew1) | exact HB.out)) hb); have n1_ := Aside0.mk (hbox); have n2_ := Aside0.mk ((by rw [hg]; exact (below_size (by repeat (first | (with_reducible first | exact HB.out | apply below_alloc | apply pw_below_drewN | apply below_drew1) | exact HB.out))) : w.heap.size ≤ gb126)); have n3_ := Aside0.mk ((by rw [hg]; exact (below_size (by repeat (first | (with_reducible first | exact HB.out | apply below_alloc | apply pw_below_drewN | apply below_drew1) | exact HB.out))) : w.heap.size ≤ gb126)); clear HB; have HB := n0_; have BK126 := n1_; have GW126 := n2_; have GE126 := n3_; clear n0_ n1_ n2_ n3_; clear hb hbox hg; have hcz7_0 : w6.cell? ⟨gb126, 0, none⟩ = some (.int .i64 0) := (blk_cell BK126.out 0).trans rfl; have hcz7_1 : w6.cell? ⟨gb126, 1, none⟩ = some (.int .i64 0) := (blk_cell BK126.out 1).trans rfl; have hfz7_0 := blk_frozen BK126.out 0; have hfz7_1 := blk_frozen BK126.out 1))
              have n0_ : Aside0 (((w6.setCell ⟨gb126, 0, none⟩ (.int .i64 ((rd_T57 l0 x7_1).f0))).setCell ⟨gb126, 1, none⟩ (.int .i64 ((rd_T57 l0 x7_1).f1))).heap[gb126]? = some (.cells #[.int .i64 ((rd_T57 l0 x7_1).f0), .int .i64 ((rd_T57 l0 x7_1).f1)] 57 (0, 0))) := ⟨by (with_reducible repeat (first | refine blk_drewN ?_ _ | refine blk_drew ?_ | refine blk_alloc ?_ _)); refine blk_put (cs := #[.int .i64 ((rd_T57 l0 x7_1).f0), .int .i64 0]) ?_ 1 _ rfl; (with_reducible repeat (first | refine blk_drewN ?_ _ | refine blk_drew ?_ | refine blk_alloc ?_ _)); refine blk_put (cs := #[.int .i64 0, .int .i64 0]) ?_ 0 _ rfl; (with_reducible repeat (first | refine blk_drewN ?_ _ | refine blk_drew ?_ | refine blk_alloc ?_ _)); exact BK126.out⟩
              have n1_ : Aside0 (Below w.heap.size w ((w6.setCell ⟨gb126, 0, none⟩ (.int .i64 ((rd_T57 l0 x7_1).f0))).setCell ⟨gb126, 1, none⟩ (.int .i64 ((rd_T57 l0 x7_1).f1)))) := ⟨by repeat (first | (with_reducible first | exact HB.out | apply below_alloc | apply pw_below_drewN | apply below_drew1 | refine below_set ?_ GE126.out) | exact HB.out)⟩
              (try clear BK126)
              (try clear HB)
              generalize ((w6.setCell ⟨gb126, 0, none⟩ (.int .i64 ((rd_T57 l0 x7_1).f0))).setCell ⟨gb126, 1, none⟩ (.int .i64 ((rd_T57 l0 x7_1).f1))) = w8 at n0_ n1_ ⊢
              have BK126 := n0_
              have HB := n1_
              clear n0_ n1_
              have n0_ := Aside0.mk (blk_drew BK126.out)
              have n1_ := Aside0.mk (below_drew1 HB.out)
              clear BK126
              clear HB
              have BK126 := n0_
              have HB := n1_
              clear n0_ n1_
              refine start_ (n := 19) (S := fun w' => w'.cell? ⟨gb126, 0, none⟩ = some (.int .i64 ((rd_T57 l0 x7_1).f0)) ∧ w'.cell? ⟨gb126, 1, none⟩ = some (.int .i64 ((rd_T57 l0 x7_1).f1))) (ds := []) #[false, false, false, false, false, false, false, false, false, false, false, false, false, false, false, false, false, false, false] (by kernel_rfl) rfl rfl ⟨(blk_cell BK126.out 0).trans rfl, (blk_cell BK126.out 1).trans rfl⟩ (fun hHeld => ?_); refine with_tabW pivot_Valid.tab4 pivot_Valid.bits4 (fun HT_ HW_ => ?_)
              generalize w8.drew = w9 at BK126 HB hHeld ⊢
              refine pure_ (i := 0) (N := some 11) (v := ?_) (a' := ?_) #[true, false, false, false, false, false, false, false, false, false, false, false, false, false, false, false, false, false, false] rfl rfl (any_of HT_.out (by kernel_rfl)) (fun _ _ _ h => h) (Or.inl ⟨by rfl, ?_⟩) ?_ ?_
              rotate_left
              · intro w'
                go_simp
                with_reducible rfl
              rotate_left
              · simp only [Act.put, List.setIfInBounds_toArray, List.set_cons_zero, List.set_cons_succ, i64_w, i32_w]
                rfl
              refine pure_ (i := 2) (N := some 13) (v := ?_) (a' := ?_) #[true, false, true, false, false, false, false, false, false, false, false, false, false, false, false, false, false, false, false] rfl rfl (any_of HT_.out (by kernel_rfl)) (fun _ _ _ h => h) (Or.inl ⟨by rfl, ?_⟩) ?_ ?_
              rotate_left
              · intro w'
                go_simp
                with_reducible rfl
              rotate_left
              · simp only [Act.put, List.setIfInBounds_toArray, List.set_cons_zero, List.set_cons_succ, i64_w, i32_w]
                rfl
              refine take_ (i := 1) (N := some 12) (v := ?_) (a' := ?_) #[true, true, true, false, false, false, false, false, false, false, false, false, false, false, false, false, false, false, false] rfl rfl (take_ofW HT_.out HW_.out (by kernel_rfl)) (fun _ _ _ h => h) (Or.inl ⟨by rfl, ?_⟩) hHeld ?_ ?_
              rotate_left
              · rintro w' ⟨s0, s1⟩
                go_simp
                with_reducible rfl
              rotate_left
              · simp only [Act.put, List.setIfInBounds_toArray, List.set_cons_zero, List.set_cons_succ, i64_w, i32_w]
                rfl
              refine take_ (i := 3) (N := some 14) (v := ?_) (a' := ?_) #[true, true, true, true, false, false, false, false, false, false, false, false, false, false, false, false, false, false, false] rfl rfl (take_ofW HT_.out HW_.out (by kernel_rfl)) (fun _ _ _ h => h) (Or.inl ⟨by rfl, ?_⟩) hHeld ?_ ?_
              rotate_left
              · rintro w' ⟨s0, s1⟩
                go_simp
                with_reducible rfl
              rotate_left
              · simp only [Act.put, List.setIfInBounds_toArray, List.set_cons_zero, List.set_cons_succ, i64_w, i32_w]
                rfl
              refine pure_ (i := 4) (N := some 15) (v := ?_) (a' := ?_) #[true, true, true, true, true, false, false, false, false, false, false, false, false, false, false, false, false, false, false] rfl rfl (any_of HT_.out (by kernel_rfl)) (fun _ _ _ h => h) (Or.inl ⟨by rfl, ?_⟩) ?_ ?_
              rotate_left
              · intro w'
                go_simp
                with_reducible rfl
              rotate_left
              · simp only [Act.put, List.setIfInBounds_toArray, List.set_cons_zero, List.set_cons_succ, i64_w, i32_w]
                rfl
              refine pure_ (i := 5) (N := some 16) (v := ?_) (a' := ?_) #[true, true, true, true, true, true, false, false, false, false, false, false, false, false, false, false, false, false, false] rfl rfl (any_of HT_.out (by kernel_rfl)) (fun _ _ _ h => h) (Or.inl ⟨by rfl, ?_⟩) ?_ ?_
              rotate_left
              · intro w'
                go_simp
                with_reducible rfl
              rotate_left
              · simp only [Act.put, List.setIfInBounds_toArray, List.set_cons_zero, List.set_cons_succ, i64_w, i32_w]
                rfl
              refine pure_ (i := 6) (N := some 17) (v := undef) (a' := ?_) #[true, true, true, true, true, true, true, false, false, false, false, false, false, false, false, false, false, false, false] rfl rfl (any_of HT_.out (by kernel_rfl)) (fun _ _ _ h => h) (Or.inr ⟨by rfl, rfl⟩) ?_ ?_
              rotate_left
              · simp only [Act.put, List.setIfInBounds_toArray, List.set_cons_zero, List.set_cons_succ, i64_w, i32_w]
                rfl
              refine pure_ (i := 7) (N := some 18) (v := undef) (a' := ?_) #[true, true, true, true, true, true, true, true, false, false, false, false, false, false, false, false, false, false, false] rfl rfl (any_of HT_.out (by kernel_rfl)) (fun _ _ _ h => h) (Or.inr ⟨by rfl, rfl⟩) ?_ ?_
              rotate_left
              · simp only [Act.put, List.setIfInBounds_toArray, List.set_cons_zero, List.set_cons_succ, i64_w, i32_w]
                rfl
              refine pure_ (i := 8) (N := some 19) (v := undef) (a' := ?_) #[true, true, true, true, true, true, true, true, true, false, false, false, false, false, false, false, false, false, false] rfl rfl (any_of HT_.out (by kernel_rfl)) (fun _ _ _ h => h) (Or.inr ⟨by rfl, rfl⟩) ?_ ?_
              rotate_left
              · simp only [Act.put, List.setIfInBounds_toArray, List.set_cons_zero, List.set_cons_succ, i64_w, i32_w]
                rfl
              refine pure_ (i := 9) (N := some 20) (v := undef) (a' := ?_) #[true, true, true, true, true, true, true, true, true, true, false, false, false, false, false, false, false, false, false] rfl rfl (any_of HT_.out (by kernel_rfl)) (fun _ _ _ h => h) (Or.inr ⟨by rfl, rfl⟩) ?_ ?_
              rotate_left
              · simp only [Act.put, List.setIfInBounds_toArray, List.set_cons_zero, List.set_cons_succ, i64_w, i32_w]
                rfl
              refine pure_ (i := 10) (N := some 21) (v := undef) (a' := ?_) #[true, true, true, true, true, true, true, true, true, true, true, false, false, false, false, false, false, false, false] rfl rfl (any_of HT_.out (by kernel_rfl)) (fun _ _ _ h => h) (Or.inr ⟨by rfl, rfl⟩) ?_ ?_
              rotate_left
              · simp only [Act.put, List.setIfInBounds_toArray, List.set_cons_zero, List.set_cons_succ, i64_w, i32_w]
                rfl
              refine pure_ (i := 11) (N := some 22) (v := ?_) (a' := ?_) #[true, true, true, true, true, true, true, true, true, true, true, true, false, false, false, false, false, false, false] rfl rfl (any_of HT_.out (by kernel_rfl)) (fun _ _ _ h => h) (Or.inl ⟨by rfl, ?_⟩) ?_ ?_
              rotate_left
              · intro w'
                go_simp
                with_reducible rfl
              rotate_left
              · simp only [Act.put, List.setIfInBounds_toArray, List.set_cons_zero, List.set_cons_succ, i64_w, i32_w]
                rfl
              refine pure_ (i := 12) (N := some 23) (v := ?_) (a' := ?_) #[true, true, true, true, true, true, true, true, true, true, true, true, true, false, false, false, false, false, false] rfl rfl (any_of HT_.out (by kernel_rfl)) (fun _ _ _ h => h) (Or.inl ⟨by rfl, ?_⟩) ?_ ?_
              rotate_left
              · intro w'
                go_simp
                with_reducible rfl
              rotate_left
              · simp only [Act.put, List.setIfInBounds_toArray, List.set_cons_zero, List.set_cons_succ, i64_w, i32_w]
                rfl
              refine pure_ (i := 13) (N := some 24) (v := undef) (a' := ?_) #[true, true, true, true, true, true, true, true, true, true, true, true, true, true, false, false, false, false, false] rfl rfl (any_of HT_.out (by kernel_rfl)) (fun _ _ _ h => h) (Or.inr ⟨by rfl, rfl⟩) ?_ ?_
              rotate_left
              · simp only [Act.put, List.setIfInBounds_toArray, List.set_cons_zero, List.set_cons_succ, i64_w, i32_w]
                rfl
              refine pure_ (i := 14) (N := some 25) (v := undef) (a' := ?_) #[true, true, true, true, true, true, true, true, true, true, true, true, true, true, true, false, false, false, false] rfl rfl (any_of HT_.out (by kernel_rfl)) (fun _ _ _ h => h) (Or.inr ⟨by rfl, rfl⟩) ?_ ?_
              rotate_left
              · simp only [Act.put, List.setIfInBounds_toArray, List.set_cons_zero, List.set_cons_succ, i64_w, i32_w]
                rfl
              refine pure_ (i := 15) (N := some 26) (v := undef) (a' := ?_) #[true, true, true, true, true, true, true, true, true, true, true, true, true, true, true, true, false, false, false] rfl rfl (any_of HT_.out (by kernel_rfl)) (fun _ _ _ h => h) (Or.inr ⟨by rfl, rfl⟩) ?_ ?_
              rotate_left
              · simp only [Act.put, List.setIfInBounds_toArray, List.set_cons_zero, List.set_cons_succ, i64_w, i32_w]
                rfl
              refine pure_ (i := 16) (N := some 27) (v := undef) (a' := ?_) #[true, true, true, true, true, true, true, true, true, true, true, true, true, true, true, true, true, false, false] rfl rfl (any_of HT_.out (by kernel_rfl)) (fun _ _ _ h => h) (Or.inr ⟨by rfl, rfl⟩) ?_ ?_
              rotate_left
              · simp only [Act.put, List.setIfInBounds_toArray, List.set_cons_zero, List.set_cons_succ, i64_w, i32_w]
                rfl
              refine pure_ (i := 17) (N := some 28) (v := undef) (a' := ?_) #[true, true, true, true, true, true, true, true, true, true, true, true, true, true, true, true, true, true, false] rfl rfl (any_of HT_.out (by kernel_rfl)) (fun _ _ _ h => h) (Or.inr ⟨by rfl, rfl⟩) ?_ ?_
              rotate_left
              · simp only [Act.put, List.setIfInBounds_toArray, List.set_cons_zero, List.set_cons_succ, i64_w, i32_w]
                rfl
              refine pure_ (i := 18) (N := some 29) (v := ?_) (a' := ?_) #[true, true, true, true, true, true, true, true, true, true, true, true, true, true, true, true, true, true, true] rfl rfl (any_of HT_.out (by kernel_rfl)) (fun _ _ _ h => h) (Or.inl ⟨by rfl, ?_⟩) ?_ ?_
              rotate_left
              · intro w'
                go_simp
                with_reducible rfl
              rotate_left
              · simp only [Act.put, List.setIfInBounds_toArray, List.set_cons_zero, List.set_cons_succ, i64_w, i32_w]
                rfl
              refine done_ (done_of HT_.out (by kernel_rfl)) ?_
              try go_wp2
              go_ret
              exact ⟨by first | rfl | (simp [errW_none, errW_some] <;> rfl) | (simp [*, errW_none, errW_some] <;> rfl), by repeat (first | (with_reducible first | exact HB.out | apply below_alloc | apply pw_below_drewN | apply below_drew1 | refine below_set ?_ GE126.out) | exact HB.out)⟩
            · rw [if_neg c5] at H
              have c5b0 : decide (((rd_T57 l0 x7_1).f1) < ((rd_T57 l0 x7_1).f0)) = false := decide_eq_false c5
              clear c5
              replace H := Option.bind_eq_some_iff.mp H
              obtain ⟨⟨t127, t128⟩, A100, H⟩ := H
              replace H : ((pivot_pair_int_has.f t127 t128 ((rd_T57 l0 x7_1).f0)).bind fun t129 => (if t129 = true then ((pivot_all.f).bind fun bt130 => ((pivot_pair_int_has.f bt130.1 bt130.2 ((rd_T57 l0 x7_1).f1)).bind fun t132 => (if t132 = true then (pivot_Valid.l0 k1 l0 l0 (l0.length : Int) (wrap64 (x7_1 + 1))) else (some false)))) else (some false))) = some r := H
              have A10 := Aside0.mk A100
              clear A100
              replace H := Option.bind_eq_some_iff.mp H
              obtain ⟨t129, A110, H⟩ := H
              replace H : (if t129 = true then ((pivot_all.f).bind fun bt130 => ((pivot_pair_int_has.f bt130.1 bt130.2 ((rd_T57 l0 x7_1).f1)).bind fun t132 => (if t132 = true then (pivot_Valid.l0 k1 l0 l0 (l0.length : Int) (wrap64 (x7_1 + 1))) else (some false)))) else (some false)) = some r := H
              have A11 := Aside0.mk A110
              clear A110
              by_cases c12 : t129 = true
              · subst c12
                have H1 : ((pivot_all.f).bind fun bt130 => ((pivot_pair_int_has.f bt130.1 bt130.2 ((rd_T57 l0 x7_1).f1)).bind fun t132 => (if t132 = true then (pivot_Valid.l0 k1 l0 l0 (l0.length : Int) (wrap64 (x7_1 + 1))) else (some false)))) = some r := by rw [if_pos rfl] at H; exact H
                clear H
                have H := H1
                clear H1
                replace H := Option.bind_eq_some_iff.mp H
                obtain ⟨⟨t130, t131⟩, A130, H⟩ := H
                replace H : ((pivot_pair_int_has.f t130 t131 ((rd_T57 l0 x7_1).f1)).bind fun t132 => (if t132 = true then (pivot_Valid.l0 k1 l0 l0 (l0.length : Int) (wrap64 (x7_1 + 1))) else (some false))) = some r := H
                have A13 := Aside0.mk A130
                clear A130
                replace H := Option.bind_eq_some_iff.mp H
                obtain ⟨t132, A140, H⟩ := H
                replace H : (if t132 = true then (pivot_Valid.l0 k1 l0 l0 (l0.length : Int) (wrap64 (x7_1 + 1))) else (some false)) = some r := H
                have A14 := Aside0.mk A140
                clear A140
                by_cases c15 : t132 = true
                · subst c15
                  have H1 : (pivot_Valid.l0 k1 l0 l0 (l0.length : Int) (wrap64 (x7_1 + 1))) = some r := by rw [if_pos rfl] at H; exact H
                  clear H
                  have H := H1
                  clear H1
                  have H' := Aside0.mk H
                  clear H
                  have p125 : 0 ≤ (x7_1 : Int) := of_decide_eq_true (by first | (with_reducible assumption) | assumption)
                  have q125 : x7_1 < (l0.length : Int) := of_decide_eq_true (by first | (with_reducible assumption) | assumption)
                  obtain ⟨ad125, e125, hx125_0, hx125_1⟩ := at_T57 HR0.out x7_1 p125 q125
                  cases e125
                  replace hx125_0 := (HB.out.cell (World.block_lt_of_cell? w _ hx125_0)).trans hx125_0
                  replace hx125_1 := (HB.out.cell (World.block_lt_of_cell? w _ hx125_1)).trans hx125_1
                  replace p125 := eq_true p125
                  replace q125 := eq_true q125
                  try go_wp2_with (first | ((with_reducible refine gate_dst (N := 4) rfl ?_); refine box_event ?hg (N := 4) ?hd (cs := #[.int .i64 0, .int .i64 0]) (t := 57) ?hr ?_; (case hd => rfl); (case hg => rfl); (case hr => first | (go_simp; done) | (go_simp; rfl)); intro gb126 hg w16 hbox hb; have n0_ := Aside0.mk (below_step (by repeat (first | (with_reducible first | exact HB.out | apply below_alloc | apply pw_below_drewN | apply below_drew1) | exact HB.out)) hb); have n1_ := Aside0.mk (hbox); have n2_ := Aside0.mk ((by rw [hg]; exact (below_size (by repeat (first | (with_reducible first | exact HB.out | apply below_alloc | apply pw_below_drewN | apply below_drew1) | exact HB.out))) : w.heap.size ≤ gb126)); have n3_ := Aside0.mk ((by rw [hg]; exact (below_size (by repeat (first | (with_reducible first | exact HB.out | apply below_alloc | apply pw_below_drewN | apply below_drew1) | exact HB.out))) : w.heap.size ≤ gb126)); clear HB; have HB := n0_; have BK126 := n1_; have GW126 := n2_; have GE126 := n3_; clear n0_ n1_ n2_ n3_; clear hb hbox hg; have hcz17_0 : w16.cell? ⟨gb126, 0, none⟩ = some (.int .i64 0) := (blk_cell BK126.out 0).trans rfl; have hcz17_1 : w16.cell? ⟨gb126, 1, none⟩ = some (.int .i64 0) := (blk_cell BK126.out 1).trans rfl; have hfz17_0 := blk_frozen BK126.out 0; have hfz17_1 := blk_frozen BK126.out 1))
                  have n0_ : Aside0 (((w16.setCell ⟨gb126, 0, none⟩ (.int .i64 ((rd_T57 l0 x7_1).f0))).setCell ⟨gb126, 1, none⟩ (.int .i64 ((rd_T57 l0 x7_1).f1))).heap[gb126]? = some (.cells #[.int .i64 ((rd_T57 l0 x7_1).f0), .int .i64 ((rd_T57 l0 x7_1).f1)] 57 (0, 0))) := ⟨by (with_reducible repeat (first | refine blk_drewN ?_ _ | refine blk_drew ?_ | refine blk_alloc ?_ _)); refine blk_put (cs := #[.int .i64 ((rd_T57 l0 x7_1).f0), .int .i64 0]) ?_ 1 _ rfl; (with_reducible repeat (first | refine blk_drewN ?_ _ | refine blk_drew ?_ | refine blk_alloc ?_ _)); refine blk_put (cs := #[.int .i64 0, .int .i64 0]) ?_ 0 _ rfl; (with_reducible repeat (first | refine blk_drewN ?_ _ | refine blk_drew ?_ | refine blk_alloc ?_ _)); exact BK126.out⟩
                  have n1_ : Aside0 (Below w.heap.size w ((w16.setCell ⟨gb126, 0, none⟩ (.int .i64 ((rd_T57 l0 x7_1).f0))).setCell ⟨gb126, 1, none⟩ (.int .i64 ((rd_T57 l0 x7_1).f1)))) := ⟨by repeat (first | (with_reducible first | exact HB.out | apply below_alloc | apply pw_below_drewN | apply below_drew1 | refine below_set ?_ GE126.out) | exact HB.out)⟩
                  (try clear BK126)
                  (try clear HB)
                  generalize ((w16.setCell ⟨gb126, 0, none⟩ (.int .i64 ((rd_T57 l0 x7_1).f0))).setCell ⟨gb126, 1, none⟩ (.int .i64 ((rd_T57 l0 x7_1).f1))) = w18 at n0_ n1_ ⊢
                  have BK126 := n0_
                  have HB := n1_
                  clear n0_ n1_
                  have n0_ := Aside0.mk (blk_drew BK126.out)
                  have n1_ := Aside0.mk (below_drew1 HB.out)
                  clear BK126
                  clear HB
                  have BK126 := n0_
                  have HB := n1_
                  clear n0_ n1_
                  refine start_ (n := 19) (S := fun w' => w'.cell? ⟨gb126, 0, none⟩ = some (.int .i64 ((rd_T57 l0 x7_1).f0)) ∧ w'.cell? ⟨gb126, 1, none⟩ = some (.int .i64 ((rd_T57 l0 x7_1).f1))) (ds := []) #[false, false, false, false, false, false, false, false, false, false, false, false, false, false, false, false, false, false, false] (by kernel_rfl) rfl rfl ⟨(blk_cell BK126.out 0).trans rfl, (blk_cell BK126.out 1).trans rfl⟩ (fun hHeld => ?_); refine with_tabW pivot_Valid.tab4 pivot_Valid.bits4 (fun HT_ HW_ => ?_)
                  generalize w18.drew = w19 at BK126 HB hHeld ⊢
                  refine pure_ (i := 0) (N := some 11) (v := ?_) (a' := ?_) #[true, false, false, false, false, false, false, false, false, false, false, false, false, false, false, false, false, false, false] rfl rfl (any_of HT_.out (by kernel_rfl)) (fun _ _ _ h => h) (Or.inl ⟨by rfl, ?_⟩) ?_ ?_
                  rotate_left
                  · intro w'
                    go_simp
                    with_reducible rfl
                  rotate_left
                  · simp only [Act.put, List.setIfInBounds_toArray, List.set_cons_zero, List.set_cons_succ, i64_w, i32_w]
                    rfl
                  refine pure_ (i := 2) (N := some 13) (v := ?_) (a' := ?_) #[true, false, true, false, false, false, false, false, false, false, false, false, false, false, false, false, false, false, false] rfl rfl (any_of HT_.out (by kernel_rfl)) (fun _ _ _ h => h) (Or.inl ⟨by rfl, ?_⟩) ?_ ?_
                  rotate_left
                  · intro w'
                    go_simp
                    with_reducible rfl
                  rotate_left
                  · simp only [Act.put, List.setIfInBounds_toArray, List.set_cons_zero, List.set_cons_succ, i64_w, i32_w]
                    rfl
                  refine take_ (i := 1) (N := some 12) (v := ?_) (a' := ?_) #[true, true, true, false, false, false, false, false, false, false, false, false, false, false, false, false, false, false, false] rfl rfl (take_ofW HT_.out HW_.out (by kernel_rfl)) (fun _ _ _ h => h) (Or.inl ⟨by rfl, ?_⟩) hHeld ?_ ?_
                  rotate_left
                  · rintro w' ⟨s0, s1⟩
                    go_simp
                    with_reducible rfl
                  rotate_left
                  · simp only [Act.put, List.setIfInBounds_toArray, List.set_cons_zero, List.set_cons_succ, i64_w, i32_w]
                    rfl
                  refine take_ (i := 3) (N := some 14) (v := ?_) (a' := ?_) #[true, true, true, true, false, false, false, false, false, false, false, false, false, false, false, false, false, false, false] rfl rfl (take_ofW HT_.out HW_.out (by kernel_rfl)) (fun _ _ _ h => h) (Or.inl ⟨by rfl, ?_⟩) hHeld ?_ ?_
                  rotate_left
                  · rintro w' ⟨s0, s1⟩
                    go_simp
                    with_reducible rfl
                  rotate_left
                  · simp only [Act.put, List.setIfInBounds_toArray, List.set_cons_zero, List.set_cons_succ, i64_w, i32_w]
                    rfl
                  refine pure_ (i := 4) (N := some 15) (v := ?_) (a' := ?_) #[true, true, true, true, true, false, false, false, false, false, false, false, false, false, false, false, false, false, false] rfl rfl (any_of HT_.out (by kernel_rfl)) (fun _ _ _ h => h) (Or.inl ⟨by rfl, ?_⟩) ?_ ?_
                  rotate_left
                  · intro w'
                    go_simp
                    with_reducible rfl
                  rotate_left
                  · simp only [Act.put, List.setIfInBounds_toArray, List.set_cons_zero, List.set_cons_succ, i64_w, i32_w]
                    rfl
                  refine pure_ (i := 5) (N := some 16) (v := ?_) (a' := ?_) #[true, true, true, true, true, true, false, false, false, false, false, false, false, false, false, false, false, false, false] rfl rfl (any_of HT_.out (by kernel_rfl)) (fun _ _ _ h => h) (Or.inl ⟨by rfl, ?_⟩) ?_ ?_
                  rotate_left
                  · intro w'
                    go_simp
                    with_reducible rfl
                  rotate_left
                  · simp only [Act.put, List.setIfInBounds_toArray, List.set_cons_zero, List.set_cons_succ, i64_w, i32_w]
                    rfl
                  refine pure_ (i := 7) (N := some 18) (v := ?_) (a' := ?_) #[true, true, true, true, true, true, false, true, false, false, false, false, false, false, false, false, false, false, false] rfl rfl (any_of HT_.out (by kernel_rfl)) (fun _ _ _ h => h) (Or.inl ⟨by rfl, ?_⟩) ?_ ?_
                  rotate_left
                  · intro w'
                    go_simp
                    with_reducible rfl
                  rotate_left
                  · simp only [Act.put, List.setIfInBounds_toArray, List.set_cons_zero, List.set_cons_succ, i64_w, i32_w]
                    rfl
                  refine take_ (i := 8) (N := some 19) (v := ?_) (a' := ?_) #[true, true, true, true, true, true, false, true, true, false, false, false, false, false, false, false, false, false, false] rfl rfl (take_ofW HT_.out HW_.out (by kernel_rfl)) (fun _ _ _ h => h) (Or.inl ⟨by rfl, ?_⟩) hHeld ?_ ?_
                  rotate_left
                  · rintro w' ⟨s0, s1⟩
                    go_simp
                    with_reducible rfl
                  rotate_left
                  · simp only [Act.put, List.setIfInBounds_toArray, List.set_cons_zero, List.set_cons_succ, i64_w, i32_w]
                    rfl
                  refine one_ (i := 6) (N := some 17) #[true, true, true, true, true, true, true, true, true, false, false, false, false, false, false, false, false, false, false] rfl rfl (one_of HT_.out (by kernel_rfl)) (by decide) (fun K hK => ?_)
                  refine goes_ Try.func56 (by kernel_rfl) rfl #[] (by rfl) rfl rfl (by (try simp only [List.map_toArray, List.map_cons, List.map_nil]); first | done | rfl | (simp only [List.length_drop, List.length_take]; rfl)) ?_
                  with_reducible refine (pivot_all.calls  t127 t128 _ A10.out).mono ?_
                  rintro e w20 ⟨rfl, hb⟩
                  refine ⟨_, rfl, ?_⟩
                  have n0_ := Aside0.mk (blk_below (g := gb126) (o := .cells #[.int .i64 ((rd_T57 l0 x7_1).f0), .int .i64 ((rd_T57 l0 x7_1).f1)] 57 (0, 0)) (by (with_reducible repeat (first | refine blk_drewN ?_ _ | refine blk_drew ?_ | refine blk_alloc ?_ _)); exact BK126.out) hb)
                  have n1_ := Aside0.mk (below_step (by repeat (first | (with_reducible first | exact HB.out | apply below_alloc | apply pw_below_drewN | apply below_drew1 | refine below_set ?_ GE126.out) | exact HB.out)) hb)
                  clear BK126
                  clear HB
                  have BK126 := n0_
                  have HB := n1_
                  clear n0_ n1_
                  (try clear hb)
                  (try clear hb2)
                  (try clear hk)
                  (try clear hi)
                  refine hK.out _ _ ⟨(blk_cell BK126.out 0).trans rfl, (blk_cell BK126.out 1).trans rfl⟩ (fun hHeld => ?_)
                  clear hK K
                  refine norm_ (a' := ?_) ?_ ?_
                  rotate_left
                  · show Act.put _ (some 17) _ = _
                    simp only [Act.put, List.setIfInBounds_toArray, List.set_cons_zero, List.set_cons_succ, i64_w, i32_w]
                    rfl
                  refine one_ (i := 9) (N := some 20) #[true, true, true, true, true, true, true, true, true, true, false, false, false, false, false, false, false, false, false] rfl rfl (one_of HT_.out (by kernel_rfl)) (by decide) (fun K hK => ?_)
                  refine goes_ Try.func57 (by kernel_rfl) rfl #[.agg #[.int .i64 t127, .int .i64 t128], .int .i64 ((rd_T57 l0 x7_1).f0)] (by rfl) rfl rfl (by (try simp only [List.map_toArray, List.map_cons, List.map_nil]); first | done | rfl | (simp only [List.length_drop, List.length_take]; rfl)) ?_
                  with_reducible refine (pivot_pair_int_has.calls t127 t128 ((rd_T57 l0 x7_1).f0) true _ A11.out).mono ?_
                  rintro e w21 ⟨rfl, hb⟩
                  refine ⟨_, rfl, ?_⟩
                  have n0_ := Aside0.mk (blk_below (g := gb126) (o := .cells #[.int .i64 ((rd_T57 l0 x7_1).f0), .int .i64 ((rd_T57 l0 x7_1).f1)] 57 (0, 0)) (by (with_reducible repeat (first | refine blk_drewN ?_ _ | refine blk_drew ?_ | refine blk_alloc ?_ _)); exact BK126.out) hb)
                  have n1_ := Aside0.mk (below_step (by repeat (first | (with_reducible first | exact HB.out | apply below_alloc | apply pw_below_drewN | apply below_drew1 | refine below_set ?_ GE126.out) | exact HB.out)) hb)
                  clear BK126
                  clear HB
                  have BK126 := n0_
                  have HB := n1_
                  clear n0_ n1_
                  (try clear hb)
                  (try clear hb2)
                  (try clear hk)
                  (try clear hi)
                  refine hK.out _ _ ⟨(blk_cell BK126.out 0).trans rfl, (blk_cell BK126.out 1).trans rfl⟩ (fun hHeld => ?_)
                  clear hK K
                  refine norm_ (a' := ?_) ?_ ?_
                  rotate_left
                  · show Act.put _ (some 20) _ = _
                    simp only [Act.put, List.setIfInBounds_toArray, List.set_cons_zero, List.set_cons_succ, i64_w, i32_w]
                    rfl
                  refine pure_ (i := 10) (N := some 21) (v := ?_) (a' := ?_) #[true, true, true, true, true, true, true, true, true, true, true, false, false, false, false, false, false, false, false] rfl rfl (any_of HT_.out (by kernel_rfl)) (fun _ _ _ h => h) (Or.inl ⟨by rfl, ?_⟩) ?_ ?_
                  rotate_left
                  · intro w'
                    go_simp
                    with_reducible rfl
                  rotate_left
                  · simp only [Act.put, List.setIfInBounds_toArray, List.set_cons_zero, List.set_cons_succ, i64_w, i32_w]
                    rfl
                  refine pure_ (i := 11) (N := some 22) (v := ?_) (a' := ?_) #[true, true, true, true, true, true, true, true, true, true, true, true, false, false, false, false, false, false, false] rfl rfl (any_of HT_.out (by kernel_rfl)) (fun _ _ _ h => h) (Or.inl ⟨by rfl, ?_⟩) ?_ ?_
                  rotate_left
                  · intro w'
                    go_simp
                    with_reducible rfl
                  rotate_left
                  · simp only [Act.put, List.setIfInBounds_toArray, List.set_cons_zero, List.set_cons_succ, i64_w, i32_w]
                    rfl
                  refine pure_ (i := 12) (N := some 23) (v := ?_) (a' := ?_) #[true, true, true, true, true, true, true, true, true, true, true, true, true, false, false, false, false, false, false] rfl rfl (any_of HT_.out (by kernel_rfl)) (fun _ _ _ h => h) (Or.inl ⟨by rfl, ?_⟩) ?_ ?_
                  rotate_left
                  · intro w'
                    go_simp
                    with_reducible rfl
                  rotate_left
                  · simp only [Act.put, List.setIfInBounds_toArray, List.set_cons_zero, List.set_cons_succ, i64_w, i32_w]
                    rfl
                  refine pure_ (i := 14) (N := some 25) (v := ?_) (a' := ?_) #[true, true, true, true, true, true, true, true, true, true, true, true, true, false, true, false, false, false, false] rfl rfl (any_of HT_.out (by kernel_rfl)) (fun _ _ _ h => h) (Or.inl ⟨by rfl, ?_⟩) ?_ ?_
                  rotate_left
                  · intro w'
                    go_simp
                    with_reducible rfl
                  rotate_left
                  · simp only [Act.put, List.setIfInBounds_toArray, List.set_cons_zero, List.set_cons_succ, i64_w, i32_w]
                    rfl
                  refine take_ (i := 15) (N := some 26) (v := ?_) (a' := ?_) #[true, true, true, true, true, true, true, true, true, true, true, true, true, false, true, true, false, false, false] rfl rfl (take_ofW HT_.out HW_.out (by kernel_rfl)) (fun _ _ _ h => h) (Or.inl ⟨by rfl, ?_⟩) hHeld ?_ ?_
                  rotate_left
                  · rintro w' ⟨s0, s1⟩
                    go_simp
                    with_reducible rfl
                  rotate_left
                  · simp only [Act.put, List.setIfInBounds_toArray, List.set_cons_zero, List.set_cons_succ, i64_w, i32_w]
                    rfl
                  refine one_ (i := 13) (N := some 24) #[true, true, true, true, true, true, true, true, true, true, true, true, true, true, true, true, false, false, false] rfl rfl (one_of HT_.out (by kernel_rfl)) (by decide) (fun K hK => ?_)
                  refine goes_ Try.func56 (by kernel_rfl) rfl #[] (by rfl) rfl rfl (by (try simp only [List.map_toArray, List.map_cons, List.map_nil]); first | done | rfl | (simp only [List.length_drop, List.length_take]; rfl)) ?_
                  with_reducible refine (pivot_all.calls  t130 t131 _ A13.out).mono ?_
                  rintro e w22 ⟨rfl, hb⟩
                  refine ⟨_, rfl, ?_⟩
                  have n0_ := Aside0.mk (blk_below (g := gb126) (o := .cells #[.int .i64 ((rd_T57 l0 x7_1).f0), .int .i64 ((rd_T57 l0 x7_1).f1)] 57 (0, 0)) (by (with_reducible repeat (first | refine blk_drewN ?_ _ | refine blk_drew ?_ | refine blk_alloc ?_ _)); exact BK126.out) hb)
                  have n1_ := Aside0.mk (below_step (by repeat (first | (with_reducible first | exact HB.out | apply below_alloc | apply pw_below_drewN | apply below_drew1 | refine below_set ?_ GE126.out) | exact HB.out)) hb)
                  clear BK126
                  clear HB
                  have BK126 := n0_
                  have HB := n1_
                  clear n0_ n1_
                  (try clear hb)
                  (try clear hb2)
                  (try clear hk)
                  (try clear hi)
                  refine hK.out _ _ ⟨(blk_cell BK126.out 0).trans rfl, (blk_cell BK126.out 1).trans rfl⟩ (fun hHeld => ?_)
                  clear hK K
                  refine norm_ (a' := ?_) ?_ ?_
                  rotate_left
                  · show Act.put _ (some 24) _ = _
                    simp only [Act.put, List.setIfInBounds_toArray, List.set_cons_zero, List.set_cons_succ, i64_w, i32_w]
                    rfl
                  refine one_ (i := 16) (N := some 27) #[true, true, true, true, true, true, true, true, true, true, true, true, true, true, true, true, true, false, false] rfl rfl (one_of HT_.out (by kernel_rfl)) (by decide) (fun K hK => ?_)
                  refine goes_ Try.func57 (by kernel_rfl) rfl #[.agg #[.int .i64 t130, .int .i64 t131], .int .i64 ((rd_T57 l0 x7_1).f1)] (by rfl) rfl rfl (by (try simp only [List.map_toArray, List.map_cons, List.map_nil]); first | done | rfl | (simp only [List.length_drop, List.length_take]; rfl)) ?_
                  with_reducible refine (pivot_pair_int_has.calls t130 t131 ((rd_T57 l0 x7_1).f1) true _ A14.out).mono ?_
                  rintro e w23 ⟨rfl, hb⟩
                  refine ⟨_, rfl, ?_⟩
                  have n0_ := Aside0.mk (blk_below (g := gb126) (o := .cells #[.int .i64 ((rd_T57 l0 x7_1).f0), .int .i64 ((rd_T57 l0 x7_1).f1)] 57 (0, 0)) (by (with_reducible repeat (first | refine blk_drewN ?_ _ | refine blk_drew ?_ | refine blk_alloc ?_ _)); exact BK126.out) hb)
                  have n1_ := Aside0.mk (below_step (by repeat (first | (with_reducible first | exact HB.out | apply below_alloc | apply pw_below_drewN | apply below_drew1 | refine below_set ?_ GE126.out) | exact HB.out)) hb)
                  clear BK126
                  clear HB
                  have BK126 := n0_
                  have HB := n1_
                  clear n0_ n1_
                  (try clear hb)
                  (try clear hb2)
                  (try clear hk)
                  (try clear hi)
                  refine hK.out _ _ ⟨(blk_cell BK126.out 0).trans rfl, (blk_cell BK126.out 1).trans rfl⟩ (fun hHeld => ?_)
                  clear hK K
                  refine norm_ (a' := ?_) ?_ ?_
                  rotate_left
                  · show Act.put _ (some 27) _ = _
                    simp only [Act.put, List.setIfInBounds_toArray, List.set_cons_zero, List.set_cons_succ, i64_w, i32_w]
                    rfl
                  refine pure_ (i := 17) (N := some 28) (v := ?_) (a' := ?_) #[true, true, true, true, true, true, true, true, true, true, true, true, true, true, true, true, true, true, false] rfl rfl (any_of HT_.out (by kernel_rfl)) (fun _ _ _ h => h) (Or.inl ⟨by rfl, ?_⟩) ?_ ?_
                  rotate_left
                  · intro w'
                    go_simp
                    with_reducible rfl
                  rotate_left
                  · simp only [Act.put, List.setIfInBounds_toArray, List.set_cons_zero, List.set_cons_succ, i64_w, i32_w]
                    rfl
                  refine pure_ (i := 18) (N := some 29) (v := ?_) (a' := ?_) #[true, true, true, true, true, true, true, true, true, true, true, true, true, true, true, true, true, true, true] rfl rfl (any_of HT_.out (by kernel_rfl)) (fun _ _ _ h => h) (Or.inl ⟨by rfl, ?_⟩) ?_ ?_
                  rotate_left
                  · intro w'
                    go_simp
                    with_reducible rfl
                  rotate_left
                  · simp only [Act.put, List.setIfInBounds_toArray, List.set_cons_zero, List.set_cons_succ, i64_w, i32_w]
                    rfl
                  refine done_ (done_of HT_.out (by kernel_rfl)) ?_
                  try go_wp2
                  go_roundg k1
                  case measure => have := HK1.out; omega
                  case rel => exact ⟨(wrap64 (x7_1 + 1)), (by first | rfl | (simp; done) | (simp [*]; done)), H', ⟨by have := HK1.out; omega⟩, ⟨by repeat (first | (with_reducible first | exact HB.out | apply below_alloc | apply pw_below_drewN | apply below_drew1 | refine below_set ?_ GE126.out) | exact HB.out)⟩⟩
                · replace c15 := Bool.eq_false_iff.mpr c15
                  subst c15
                  have H1 : (some false) = some r := by rw [if_neg (show ¬ (false = true) by decide)] at H; exact H
                  clear H
                  have H := H1
                  clear H1
                  obtain rfl := Option.some.inj H
                  have p125 : 0 ≤ (x7_1 : Int) := of_decide_eq_true (by first | (with_reducible assumption) | assumption)
                  have q125 : x7_1 < (l0.length : Int) := of_decide_eq_true (by first | (with_reducible assumption) | assumption)
                  obtain ⟨ad125, e125, hx125_0, hx125_1⟩ := at_T57 HR0.out x7_1 p125 q125
                  cases e125
                  replace hx125_0 := (HB.out.cell (World.block_lt_of_cell? w _ hx125_0)).trans hx125_0
                  replace hx125_1 := (HB.out.cell (World.block_lt_of_cell? w _ hx125_1)).trans hx125_1
                  replace p125 := eq_true p125
                  replace q125 := eq_true q125
                  try go_wp2_with (first | ((with_reducible refine gate_dst (N := 4) rfl ?_); refine box_event ?hg (N := 4) ?hd (cs := #[.int .i64 0, .int .i64 0]) (t := 57) ?hr ?_; (case hd => rfl); (case hg => rfl); (case hr => first | (go_simp; done) | (go_simp; rfl)); intro gb126 hg w24 hbox hb; have n0_ := Aside0.mk (below_step (by repeat (first | (with_reducible first | exact HB.out | apply below_alloc | apply pw_below_drewN | apply below_drew1) | exact HB.out)) hb); have n1_ := Aside0.mk (hbox); have n2_ := Aside0.mk ((by rw [hg]; exact (below_size (by repeat (first | (with_reducible first | exact HB.out | apply below_alloc | apply pw_below_drewN | apply below_drew1) | exact HB.out))) : w.heap.size ≤ gb126)); have n3_ := Aside0.mk ((by rw [hg]; exact (below_size (by repeat (first | (with_reducible first | exact HB.out | apply below_alloc | apply pw_below_drewN | apply below_drew1) | exact HB.out))) : w.heap.size ≤ gb126)); clear HB; have HB := n0_; have BK126 := n1_; have GW126 := n2_; have GE126 := n3_; clear n0_ n1_ n2_ n3_; clear hb hbox hg; have hcz25_0 : w24.cell? ⟨gb126, 0, none⟩ = some (.int .i64 0) := (blk_cell BK126.out 0).trans rfl; have hcz25_1 : w24.cell? ⟨gb126, 1, none⟩ = some (.int .i64 0) := (blk_cell BK126.out 1).trans rfl; have hfz25_0 := blk_frozen BK126.out 0; have hfz25_1 := blk_frozen BK126.out 1))
                  have n0_ : Aside0 (((w24.setCell ⟨gb126, 0, none⟩ (.int .i64 ((rd_T57 l0 x7_1).f0))).setCell ⟨gb126, 1, none⟩ (.int .i64 ((rd_T57 l0 x7_1).f1))).heap[gb126]? = some (.cells #[.int .i64 ((rd_T57 l0 x7_1).f0), .int .i64 ((rd_T57 l0 x7_1).f1)] 57 (0, 0))) := ⟨by (with_reducible repeat (first | refine blk_drewN ?_ _ | refine blk_drew ?_ | refine blk_alloc ?_ _)); refine blk_put (cs := #[.int .i64 ((rd_T57 l0 x7_1).f0), .int .i64 0]) ?_ 1 _ rfl; (with_reducible repeat (first | refine blk_drewN ?_ _ | refine blk_drew ?_ | refine blk_alloc ?_ _)); refine blk_put (cs := #[.int .i64 0, .int .i64 0]) ?_ 0 _ rfl; (with_reducible repeat (first | refine blk_drewN ?_ _ | refine blk_drew ?_ | refine blk_alloc ?_ _)); exact BK126.out⟩
                  have n1_ : Aside0 (Below w.heap.size w ((w24.setCell ⟨gb126, 0, none⟩ (.int .i64 ((rd_T57 l0 x7_1).f0))).setCell ⟨gb126, 1, none⟩ (.int .i64 ((rd_T57 l0 x7_1).f1)))) := ⟨by repeat (first | (with_reducible first | exact HB.out | apply below_alloc | apply pw_below_drewN | apply below_drew1 | refine below_set ?_ GE126.out) | exact HB.out)⟩
                  (try clear BK126)
                  (try clear HB)
                  generalize ((w24.setCell ⟨gb126, 0, none⟩ (.int .i64 ((rd_T57 l0 x7_1).f0))).setCell ⟨gb126, 1, none⟩ (.int .i64 ((rd_T57 l0 x7_1).f1))) = w26 at n0_ n1_ ⊢
                  have BK126 := n0_
                  have HB := n1_
                  clear n0_ n1_
                  have n0_ := Aside0.mk (blk_drew BK126.out)
                  have n1_ := Aside0.mk (below_drew1 HB.out)
                  clear BK126
                  clear HB
                  have BK126 := n0_
                  have HB := n1_
                  clear n0_ n1_
                  refine start_ (n := 19) (S := fun w' => w'.cell? ⟨gb126, 0, none⟩ = some (.int .i64 ((rd_T57 l0 x7_1).f0)) ∧ w'.cell? ⟨gb126, 1, none⟩ = some (.int .i64 ((rd_T57 l0 x7_1).f1))) (ds := []) #[false, false, false, false, false, false, false, false, false, false, false, false, false, false, false, false, false, false, false] (by kernel_rfl) rfl rfl ⟨(blk_cell BK126.out 0).trans rfl, (blk_cell BK126.out 1).trans rfl⟩ (fun hHeld => ?_); refine with_tabW pivot_Valid.tab4 pivot_Valid.bits4 (fun HT_ HW_ => ?_)
                  generalize w26.drew = w27 at BK126 HB hHeld ⊢
                  refine pure_ (i := 0) (N := some 11) (v := ?_) (a' := ?_) #[true, false, false, false, false, false, false, false, false, false, false, false, false, false, false, false, false, false, false] rfl rfl (any_of HT_.out (by kernel_rfl)) (fun _ _ _ h => h) (Or.inl ⟨by rfl, ?_⟩) ?_ ?_
                  rotate_left
                  · intro w'
                    go_simp
                    with_reducible rfl
                  rotate_left
                  · simp only [Act.put, List.setIfInBounds_toArray, List.set_cons_zero, List.set_cons_succ, i64_w, i32_w]
                    rfl
                  refine pure_ (i := 2) (N := some 13) (v := ?_) (a' := ?_) #[true, false, true, false, false, false, false, false, false, false, false, false, false, false, false, false, false, false, false] rfl rfl (any_of HT_.out (by kernel_rfl)) (fun _ _ _ h => h) (Or.inl ⟨by rfl, ?_⟩) ?_ ?_
                  rotate_left
                  · intro w'
                    go_simp
                    with_reducible rfl
                  rotate_left
                  · simp only [Act.put, List.setIfInBounds_toArray, List.set_cons_zero, List.set_cons_succ, i64_w, i32_w]
                    rfl
                  refine take_ (i := 1) (N := some 12) (v := ?_) (a' := ?_) #[true, true, true, false, false, false, false, false, false, false, false, false, false, false, false, false, false, false, false] rfl rfl (take_ofW HT_.out HW_.out (by kernel_rfl)) (fun _ _ _ h => h) (Or.inl ⟨by rfl, ?_⟩) hHeld ?_ ?_
                  rotate_left
                  · rintro w' ⟨s0, s1⟩
                    go_simp
                    with_reducible rfl
                  rotate_left
                  · simp only [Act.put, List.setIfInBounds_toArray, List.set_cons_zero, List.set_cons_succ, i64_w, i32_w]
                    rfl
                  refine take_ (i := 3) (N := some 14) (v := ?_) (a' := ?_) #[true, true, true, true, false, false, false, false, false, false, false, false, false, false, false, false, false, false, false] rfl rfl (take_ofW HT_.out HW_.out (by kernel_rfl)) (fun _ _ _ h => h) (Or.inl ⟨by rfl, ?_⟩) hHeld ?_ ?_
                  rotate_left
                  · rintro w' ⟨s0, s1⟩
                    go_simp
                    with_reducible rfl
                  rotate_left
                  · simp only [Act.put, List.setIfInBounds_toArray, List.set_cons_zero, List.set_cons_succ, i64_w, i32_w]
                    rfl
                  refine pure_ (i := 4) (N := some 15) (v := ?_) (a' := ?_) #[true, true, true, true, true, false, false, false, false, false, false, false, false, false, false, false, false, false, false] rfl rfl (any_of HT_.out (by kernel_rfl)) (fun _ _ _ h => h) (Or.inl ⟨by rfl, ?_⟩) ?_ ?_
                  rotate_left
                  · intro w'
                    go_simp
                    with_reducible rfl
                  rotate_left
                  · simp only [Act.put, List.setIfInBounds_toArray, List.set_cons_zero, List.set_cons_succ, i64_w, i32_w]
                    rfl
                  refine pure_ (i := 5) (N := some 16) (v := ?_) (a' := ?_) #[true, true, true, true, true, true, false, false, false, false, false, false, false, false, false, false, false, false, false] rfl rfl (any_of HT_.out (by kernel_rfl)) (fun _ _ _ h => h) (Or.inl ⟨by rfl, ?_⟩) ?_ ?_
                  rotate_left
                  · intro w'
                    go_simp
                    with_reducible rfl
                  rotate_left
                  · simp only [Act.put, List.setIfInBounds_toArray, List.set_cons_zero, List.set_cons_succ, i64_w, i32_w]
                    rfl
                  refine pure_ (i := 7) (N := some 18) (v := ?_) (a' := ?_) #[true, true, true, true, true, true, false, true, false, false, false, false, false, false, false, false, false, false, false] rfl rfl (any_of HT_.out (by kernel_rfl)) (fun _ _ _ h => h) (Or.inl ⟨by rfl, ?_⟩) ?_ ?_
                  rotate_left
                  · intro w'
                    go_simp
                    with_reducible rfl
                  rotate_left
                  · simp only [Act.put, List.setIfInBounds_toArray, List.set_cons_zero, List.set_cons_succ, i64_w, i32_w]
                    rfl
                  refine take_ (i := 8) (N := some 19) (v := ?_) (a' := ?_) #[true, true, true, true, true, true, false, true, true, false, false, false, false, false, false, false, false, false, false] rfl rfl (take_ofW HT_.out HW_.out (by kernel_rfl)) (fun _ _ _ h => h) (Or.inl ⟨by rfl, ?_⟩) hHeld ?_ ?_
                  rotate_left
                  · rintro w' ⟨s0, s1⟩
                    go_simp
                    with_reducible rfl
                  rotate_left
                  · simp only [Act.put, List.setIfInBounds_toArray, List.set_cons_zero, List.set_cons_succ, i64_w, i32_w]
                    rfl
                  refine one_ (i := 6) (N := some 17) #[true, true, true, true, true, true, true, true, true, false, false, false, false, false, false, false, false, false, false] rfl rfl (one_of HT_.out (by kernel_rfl)) (by decide) (fun K hK => ?_)
                  refine goes_ Try.func56 (by kernel_rfl) rfl #[] (by rfl) rfl rfl (by (try simp only [List.map_toArray, List.map_cons, List.map_nil]); first | done | rfl | (simp only [List.length_drop, List.length_take]; rfl)) ?_
                  with_reducible refine (pivot_all.calls  t127 t128 _ A10.out).mono ?_
                  rintro e w28 ⟨rfl, hb⟩
                  refine ⟨_, rfl, ?_⟩
                  have n0_ := Aside0.mk (blk_below (g := gb126) (o := .cells #[.int .i64 ((rd_T57 l0 x7_1).f0), .int .i64 ((rd_T57 l0 x7_1).f1)] 57 (0, 0)) (by (with_reducible repeat (first | refine blk_drewN ?_ _ | refine blk_drew ?_ | refine blk_alloc ?_ _)); exact BK126.out) hb)
                  have n1_ := Aside0.mk (below_step (by repeat (first | (with_reducible first | exact HB.out | apply below_alloc | apply pw_below_drewN | apply below_drew1 | refine below_set ?_ GE126.out) | exact HB.out)) hb)
                  clear BK126
                  clear HB
                  have BK126 := n0_
                  have HB := n1_
                  clear n0_ n1_
                  (try clear hb)
                  (try clear hb2)
                  (try clear hk)
                  (try clear hi)
                  refine hK.out _ _ ⟨(blk_cell BK126.out 0).trans rfl, (blk_cell BK126.out 1).trans rfl⟩ (fun hHeld => ?_)
                  clear hK K
                  refine norm_ (a' := ?_) ?_ ?_
                  rotate_left
                  · show Act.put _ (some 17) _ = _
                    simp only [Act.put, List.setIfInBounds_toArray, List.set_cons_zero, List.set_cons_succ, i64_w, i32_w]
                    rfl
                  refine one_ (i := 9) (N := some 20) #[true, true, true, true, true, true, true, true, true, true, false, false, false, false, false, false, false, false, false] rfl rfl (one_of HT_.out (by kernel_rfl)) (by decide) (fun K hK => ?_)
                  refine goes_ Try.func57 (by kernel_rfl) rfl #[.agg #[.int .i64 t127, .int .i64 t128], .int .i64 ((rd_T57 l0 x7_1).f0)] (by rfl) rfl rfl (by (try simp only [List.map_toArray, List.map_cons, List.map_nil]); first | done | rfl | (simp only [List.length_drop, List.length_take]; rfl)) ?_
                  with_reducible refine (pivot_pair_int_has.calls t127 t128 ((rd_T57 l0 x7_1).f0) true _ A11.out).mono ?_
                  rintro e w29 ⟨rfl, hb⟩
                  refine ⟨_, rfl, ?_⟩
                  have n0_ := Aside0.mk (blk_below (g := gb126) (o := .cells #[.int .i64 ((rd_T57 l0 x7_1).f0), .int .i64 ((rd_T57 l0 x7_1).f1)] 57 (0, 0)) (by (with_reducible repeat (first | refine blk_drewN ?_ _ | refine blk_drew ?_ | refine blk_alloc ?_ _)); exact BK126.out) hb)
                  have n1_ := Aside0.mk (below_step (by repeat (first | (with_reducible first | exact HB.out | apply below_alloc | apply pw_below_drewN | apply below_drew1 | refine below_set ?_ GE126.out) | exact HB.out)) hb)
                  clear BK126
                  clear HB
                  have BK126 := n0_
                  have HB := n1_
                  clear n0_ n1_
                  (try clear hb)
                  (try clear hb2)
                  (try clear hk)
                  (try clear hi)
                  refine hK.out _ _ ⟨(blk_cell BK126.out 0).trans rfl, (blk_cell BK126.out 1).trans rfl⟩ (fun hHeld => ?_)
                  clear hK K
                  refine norm_ (a' := ?_) ?_ ?_
                  rotate_left
                  · show Act.put _ (some 20) _ = _
                    simp only [Act.put, List.setIfInBounds_toArray, List.set_cons_zero, List.set_cons_succ, i64_w, i32_w]
                    rfl
                  refine pure_ (i := 10) (N := some 21) (v := ?_) (a' := ?_) #[true, true, true, true, true, true, true, true, true, true, true, false, false, false, false, false, false, false, false] rfl rfl (any_of HT_.out (by kernel_rfl)) (fun _ _ _ h => h) (Or.inl ⟨by rfl, ?_⟩) ?_ ?_
                  rotate_left
                  · intro w'
                    go_simp
                    with_reducible rfl
                  rotate_left
                  · simp only [Act.put, List.setIfInBounds_toArray, List.set_cons_zero, List.set_cons_succ, i64_w, i32_w]
                    rfl
                  refine pure_ (i := 11) (N := some 22) (v := ?_) (a' := ?_) #[true, true, true, true, true, true, true, true, true, true, true, true, false, false, false, false, false, false, false] rfl rfl (any_of HT_.out (by kernel_rfl)) (fun _ _ _ h => h) (Or.inl ⟨by rfl, ?_⟩) ?_ ?_
                  rotate_left
                  · intro w'
                    go_simp
                    with_reducible rfl
                  rotate_left
                  · simp only [Act.put, List.setIfInBounds_toArray, List.set_cons_zero, List.set_cons_succ, i64_w, i32_w]
                    rfl
                  refine pure_ (i := 12) (N := some 23) (v := ?_) (a' := ?_) #[true, true, true, true, true, true, true, true, true, true, true, true, true, false, false, false, false, false, false] rfl rfl (any_of HT_.out (by kernel_rfl)) (fun _ _ _ h => h) (Or.inl ⟨by rfl, ?_⟩) ?_ ?_
                  rotate_left
                  · intro w'
                    go_simp
                    with_reducible rfl
                  rotate_left
                  · simp only [Act.put, List.setIfInBounds_toArray, List.set_cons_zero, List.set_cons_succ, i64_w, i32_w]
                    rfl
                  refine pure_ (i := 14) (N := some 25) (v := ?_) (a' := ?_) #[true, true, true, true, true, true, true, true, true, true, true, true, true, false, true, false, false, false, false] rfl rfl (any_of HT_.out (by kernel_rfl)) (fun _ _ _ h => h) (Or.inl ⟨by rfl, ?_⟩) ?_ ?_
                  rotate_left
                  · intro w'
                    go_simp
                    with_reducible rfl
                  rotate_left
                  · simp only [Act.put, List.setIfInBounds_toArray, List.set_cons_zero, List.set_cons_succ, i64_w, i32_w]
                    rfl
                  refine take_ (i := 15) (N := some 26) (v := ?_) (a' := ?_) #[true, true, true, true, true, true, true, true, true, true, true, true, true, false, true, true, false, false, false] rfl rfl (take_ofW HT_.out HW_.out (by kernel_rfl)) (fun _ _ _ h => h) (Or.inl ⟨by rfl, ?_⟩) hHeld ?_ ?_
                  rotate_left
                  · rintro w' ⟨s0, s1⟩
                    go_simp
                    with_reducible rfl
                  rotate_left
                  · simp only [Act.put, List.setIfInBounds_toArray, List.set_cons_zero, List.set_cons_succ, i64_w, i32_w]
                    rfl
                  refine one_ (i := 13) (N := some 24) #[true, true, true, true, true, true, true, true, true, true, true, true, true, true, true, true, false, false, false] rfl rfl (one_of HT_.out (by kernel_rfl)) (by decide) (fun K hK => ?_)
                  refine goes_ Try.func56 (by kernel_rfl) rfl #[] (by rfl) rfl rfl (by (try simp only [List.map_toArray, List.map_cons, List.map_nil]); first | done | rfl | (simp only [List.length_drop, List.length_take]; rfl)) ?_
                  with_reducible refine (pivot_all.calls  t130 t131 _ A13.out).mono ?_
                  rintro e w30 ⟨rfl, hb⟩
                  refine ⟨_, rfl, ?_⟩
                  have n0_ := Aside0.mk (blk_below (g := gb126) (o := .cells #[.int .i64 ((rd_T57 l0 x7_1).f0), .int .i64 ((rd_T57 l0 x7_1).f1)] 57 (0, 0)) (by (with_reducible repeat (first | refine blk_drewN ?_ _ | refine blk_drew ?_ | refine blk_alloc ?_ _)); exact BK126.out) hb)
                  have n1_ := Aside0.mk (below_step (by repeat (first | (with_reducible first | exact HB.out | apply below_alloc | apply pw_below_drewN | apply below_drew1 | refine below_set ?_ GE126.out) | exact HB.out)) hb)
                  clear BK126
                  clear HB
                  have BK126 := n0_
                  have HB := n1_
                  clear n0_ n1_
                  (try clear hb)
                  (try clear hb2)
                  (try clear hk)
                  (try clear hi)
                  refine hK.out _ _ ⟨(blk_cell BK126.out 0).trans rfl, (blk_cell BK126.out 1).trans rfl⟩ (fun hHeld => ?_)
                  clear hK K
                  refine norm_ (a' := ?_) ?_ ?_
                  rotate_left
                  · show Act.put _ (some 24) _ = _
                    simp only [Act.put, List.setIfInBounds_toArray, List.set_cons_zero, List.set_cons_succ, i64_w, i32_w]
                    rfl
                  refine one_ (i := 16) (N := some 27) #[true, true, true, true, true, true, true, true, true, true, true, true, true, true, true, true, true, false, false] rfl rfl (one_of HT_.out (by kernel_rfl)) (by decide) (fun K hK => ?_)
                  refine goes_ Try.func57 (by kernel_rfl) rfl #[.agg #[.int .i64 t130, .int .i64 t131], .int .i64 ((rd_T57 l0 x7_1).f1)] (by rfl) rfl rfl (by (try simp only [List.map_toArray, List.map_cons, List.map_nil]); first | done | rfl | (simp only [List.length_drop, List.length_take]; rfl)) ?_
                  with_reducible refine (pivot_pair_int_has.calls t130 t131 ((rd_T57 l0 x7_1).f1) false _ A14.out).mono ?_
                  rintro e w31 ⟨rfl, hb⟩
                  refine ⟨_, rfl, ?_⟩
                  have n0_ := Aside0.mk (blk_below (g := gb126) (o := .cells #[.int .i64 ((rd_T57 l0 x7_1).f0), .int .i64 ((rd_T57 l0 x7_1).f1)] 57 (0, 0)) (by (with_reducible repeat (first | refine blk_drewN ?_ _ | refine blk_drew ?_ | refine blk_alloc ?_ _)); exact BK126.out) hb)
                  have n1_ := Aside0.mk (below_step (by repeat (first | (with_reducible first | exact HB.out | apply below_alloc | apply pw_below_drewN | apply below_drew1 | refine below_set ?_ GE126.out) | exact HB.out)) hb)
                  clear BK126
                  clear HB
                  have BK126 := n0_
                  have HB := n1_
                  clear n0_ n1_
                  (try clear hb)
                  (try clear hb2)
                  (try clear hk)
                  (try clear hi)
                  refine hK.out _ _ ⟨(blk_cell BK126.out 0).trans rfl, (blk_cell BK126.out 1).trans rfl⟩ (fun hHeld => ?_)
                  clear hK K
                  refine norm_ (a' := ?_) ?_ ?_
                  rotate_left
                  · show Act.put _ (some 27) _ = _
                    simp only [Act.put, List.setIfInBounds_toArray, List.set_cons_zero, List.set_cons_succ, i64_w, i32_w]
                    rfl
                  refine pure_ (i := 17) (N := some 28) (v := ?_) (a' := ?_) #[true, true, true, true, true, true, true, true, true, true, true, true, true, true, true, true, true, true, false] rfl rfl (any_of HT_.out (by kernel_rfl)) (fun _ _ _ h => h) (Or.inl ⟨by rfl, ?_⟩) ?_ ?_
                  rotate_left
                  · intro w'
                    go_simp
                    with_reducible rfl
                  rotate_left
                  · simp only [Act.put, List.setIfInBounds_toArray, List.set_cons_zero, List.set_cons_succ, i64_w, i32_w]
                    rfl
                  refine pure_ (i := 18) (N := some 29) (v := ?_) (a' := ?_) #[true, true, true, true, true, true, true, true, true, true, true, true, true, true, true, true, true, true, true] rfl rfl (any_of HT_.out (by kernel_rfl)) (fun _ _ _ h => h) (Or.inl ⟨by rfl, ?_⟩) ?_ ?_
                  rotate_left
                  · intro w'
                    go_simp
                    with_reducible rfl
                  rotate_left
                  · simp only [Act.put, List.setIfInBounds_toArray, List.set_cons_zero, List.set_cons_succ, i64_w, i32_w]
                    rfl
                  refine done_ (done_of HT_.out (by kernel_rfl)) ?_
                  try go_wp2
                  go_ret
                  exact ⟨by first | rfl | (simp [errW_none, errW_some] <;> rfl) | (simp [*, errW_none, errW_some] <;> rfl), by repeat (first | (with_reducible first | exact HB.out | apply below_alloc | apply pw_below_drewN | apply below_drew1 | refine below_set ?_ GE126.out) | exact HB.out)⟩
              · replace c12 := Bool.eq_false_iff.mpr c12
                subst c12
                have H1 : (some false) = some r := by rw [if_neg (show ¬ (false = true) by decide)] at H; exact H
                clear H
                have H := H1
                clear H1
                obtain rfl := Option.some.inj H
                have p125 : 0 ≤ (x7_1 : Int) := of_decide_eq_true (by first | (with_reducible assumption) | assumption)
                have q125 : x7_1 < (l0.length : Int) := of_decide_eq_true (by first | (with_reducible assumption) | assumption)
                obtain ⟨ad125, e125, hx125_0, hx125_1⟩ := at_T57 HR0.out x7_1 p125 q125
                cases e125
                replace hx125_0 := (HB.out.cell (World.block_lt_of_cell? w _ hx125_0)).trans hx125_0
                replace hx125_1 := (HB.out.cell (World.block_lt_of_cell? w _ hx125_1)).trans hx125_1
                replace p125 := eq_true p125
                replace q125 := eq_true q125
                try go_wp2_with (first | ((with_reducible refine gate_dst (N := 4) rfl ?_); refine box_event ?hg (N := 4) ?hd (cs := #[.int .i64 0, .int .i64 0]) (t := 57) ?hr ?_; (case hd => rfl); (case hg => rfl); (case hr => first | (go_simp; done) | (go_simp; rfl)); intro gb126 hg w32 hbox hb; have n0_ := Aside0.mk (below_step (by repeat (first | (with_reducible first | exact HB.out | apply below_alloc | apply pw_below_drewN | apply below_drew1) | exact HB.out)) hb); have n1_ := Aside0.mk (hbox); have n2_ := Aside0.mk ((by rw [hg]; exact (below_size (by repeat (first | (with_reducible first | exact HB.out | apply below_alloc | apply pw_below_drewN | apply below_drew1) | exact HB.out))) : w.heap.size ≤ gb126)); have n3_ := Aside0.mk ((by rw [hg]; exact (below_size (by repeat (first | (with_reducible first | exact HB.out | apply below_alloc | apply pw_below_drewN | apply below_drew1) | exact HB.out))) : w.heap.size ≤ gb126)); clear HB; have HB := n0_; have BK126 := n1_; have GW126 := n2_; have GE126 := n3_; clear n0_ n1_ n2_ n3_; clear hb hbox hg; have hcz33_0 : w32.cell? ⟨gb126, 0, none⟩ = some (.int .i64 0) := (blk_cell BK126.out 0).trans rfl; have hcz33_1 : w32.cell? ⟨gb126, 1, none⟩ = some (.int .i64 0) := (blk_cell BK126.out 1).trans rfl; have hfz33_0 := blk_frozen BK126.out 0; have hfz33_1 := blk_frozen BK126.out 1))
                have n0_ : Aside0 (((w32.setCell ⟨gb126, 0, none⟩ (.int .i64 ((rd_T57 l0 x7_1).f0))).setCell ⟨gb126, 1, none⟩ (.int .i64 ((rd_T57 l0 x7_1).f1))).heap[gb126]? = some (.cells #[.int .i64 ((rd_T57 l0 x7_1).f0), .int .i64 ((rd_T57 l0 x7_1).f1)] 57 (0, 0))) := ⟨by (with_reducible repeat (first | refine blk_drewN ?_ _ | refine blk_drew ?_ | refine blk_alloc ?_ _)); refine blk_put (cs := #[.int .i64 ((rd_T57 l0 x7_1).f0), .int .i64 0]) ?_ 1 _ rfl; (with_reducible repeat (first | refine blk_drewN ?_ _ | refine blk_drew ?_ | refine blk_alloc ?_ _)); refine blk_put (cs := #[.int .i64 0, .int .i64 0]) ?_ 0 _ rfl; (with_reducible repeat (first | refine blk_drewN ?_ _ | refine blk_drew ?_ | refine blk_alloc ?_ _)); exact BK126.out⟩
                have n1_ : Aside0 (Below w.heap.size w ((w32.setCell ⟨gb126, 0, none⟩ (.int .i64 ((rd_T57 l0 x7_1).f0))).setCell ⟨gb126, 1, none⟩ (.int .i64 ((rd_T57 l0 x7_1).f1)))) := ⟨by repeat (first | (with_reducible first | exact HB.out | apply below_alloc | apply pw_below_drewN | apply below_drew1 | refine below_set ?_ GE126.out) | exact HB.out)⟩
                (try clear BK126)
                (try clear HB)
                generalize ((w32.setCell ⟨gb126, 0, none⟩ (.int .i64 ((rd_T57 l0 x7_1).f0))).setCell ⟨gb126, 1, none⟩ (.int .i64 ((rd_T57 l0 x7_1).f1))) = w34 at n0_ n1_ ⊢
                have BK126 := n0_
                have HB := n1_
                clear n0_ n1_
                have n0_ := Aside0.mk (blk_drew BK126.out)
                have n1_ := Aside0.mk (below_drew1 HB.out)
                clear BK126
                clear HB
                have BK126 := n0_
                have HB := n1_
                clear n0_ n1_
                refine start_ (n := 19) (S := fun w' => w'.cell? ⟨gb126, 0, none⟩ = some (.int .i64 ((rd_T57 l0 x7_1).f0)) ∧ w'.cell? ⟨gb126, 1, none⟩ = some (.int .i64 ((rd_T57 l0 x7_1).f1))) (ds := []) #[false, false, false, false, false, false, false, false, false, false, false, false, false, false, false, false, false, false, false] (by kernel_rfl) rfl rfl ⟨(blk_cell BK126.out 0).trans rfl, (blk_cell BK126.out 1).trans rfl⟩ (fun hHeld => ?_); refine with_tabW pivot_Valid.tab4 pivot_Valid.bits4 (fun HT_ HW_ => ?_)
                generalize w34.drew = w35 at BK126 HB hHeld ⊢
                refine pure_ (i := 0) (N := some 11) (v := ?_) (a' := ?_) #[true, false, false, false, false, false, false, false, false, false, false, false, false, false, false, false, false, false, false] rfl rfl (any_of HT_.out (by kernel_rfl)) (fun _ _ _ h => h) (Or.inl ⟨by rfl, ?_⟩) ?_ ?_
                rotate_left
                · intro w'
                  go_simp
                  with_reducible rfl
                rotate_left
                · simp only [Act.put, List.setIfInBounds_toArray, List.set_cons_zero, List.set_cons_succ, i64_w, i32_w]
                  rfl
                refine pure_ (i := 2) (N := some 13) (v := ?_) (a' := ?_) #[true, false, true, false, false, false, false, false, false, false, false, false, false, false, false, false, false, false, false] rfl rfl (any_of HT_.out (by kernel_rfl)) (fun _ _ _ h => h) (Or.inl ⟨by rfl, ?_⟩) ?_ ?_
                rotate_left
                · intro w'
                  go_simp
                  with_reducible rfl
                rotate_left
                · simp only [Act.put, List.setIfInBounds_toArray, List.set_cons_zero, List.set_cons_succ, i64_w, i32_w]
                  rfl
                refine take_ (i := 1) (N := some 12) (v := ?_) (a' := ?_) #[true, true, true, false, false, false, false, false, false, false, false, false, false, false, false, false, false, false, false] rfl rfl (take_ofW HT_.out HW_.out (by kernel_rfl)) (fun _ _ _ h => h) (Or.inl ⟨by rfl, ?_⟩) hHeld ?_ ?_
                rotate_left
                · rintro w' ⟨s0, s1⟩
                  go_simp
                  with_reducible rfl
                rotate_left
                · simp only [Act.put, List.setIfInBounds_toArray, List.set_cons_zero, List.set_cons_succ, i64_w, i32_w]
                  rfl
                refine take_ (i := 3) (N := some 14) (v := ?_) (a' := ?_) #[true, true, true, true, false, false, false, false, false, false, false, false, false, false, false, false, false, false, false] rfl rfl (take_ofW HT_.out HW_.out (by kernel_rfl)) (fun _ _ _ h => h) (Or.inl ⟨by rfl, ?_⟩) hHeld ?_ ?_
                rotate_left
                · rintro w' ⟨s0, s1⟩
                  go_simp
                  with_reducible rfl
                rotate_left
                · simp only [Act.put, List.setIfInBounds_toArray, List.set_cons_zero, List.set_cons_succ, i64_w, i32_w]
                  rfl
                refine pure_ (i := 4) (N := some 15) (v := ?_) (a' := ?_) #[true, true, true, true, true, false, false, false, false, false, false, false, false, false, false, false, false, false, false] rfl rfl (any_of HT_.out (by kernel_rfl)) (fun _ _ _ h => h) (Or.inl ⟨by rfl, ?_⟩) ?_ ?_
                rotate_left
                · intro w'
                  go_simp
                  with_reducible rfl
                rotate_left
                · simp only [Act.put, List.setIfInBounds_toArray, List.set_cons_zero, List.set_cons_succ, i64_w, i32_w]
                  rfl
                refine pure_ (i := 5) (N := some 16) (v := ?_) (a' := ?_) #[true, true, true, true, true, true, false, false, false, false, false, false, false, false, false, false, false, false, false] rfl rfl (any_of HT_.out (by kernel_rfl)) (fun _ _ _ h => h) (Or.inl ⟨by rfl, ?_⟩) ?_ ?_
                rotate_left
                · intro w'
                  go_simp
                  with_reducible rfl
                rotate_left
                · simp only [Act.put, List.setIfInBounds_toArray, List.set_cons_zero, List.set_cons_succ, i64_w, i32_w]
                  rfl
                refine pure_ (i := 7) (N := some 18) (v := ?_) (a' := ?_) #[true, true, true, true, true, true, false, true, false, false, false, false, false, false, false, false, false, false, false] rfl rfl (any_of HT_.out (by kernel_rfl)) (fun _ _ _ h => h) (Or.inl ⟨by rfl, ?_⟩) ?_ ?_
                rotate_left
                · intro w'
                  go_simp
                  with_reducible rfl
                rotate_left
                · simp only [Act.put, List.setIfInBounds_toArray, List.set_cons_zero, List.set_cons_succ, i64_w, i32_w]
                  rfl
                refine take_ (i := 8) (N := some 19) (v := ?_) (a' := ?_) #[true, true, true, true, true, true, false, true, true, false, false, false, false, false, false, false, false, false, false] rfl rfl (take_ofW HT_.out HW_.out (by kernel_rfl)) (fun _ _ _ h => h) (Or.inl ⟨by rfl, ?_⟩) hHeld ?_ ?_
                rotate_left
                · rintro w' ⟨s0, s1⟩
                  go_simp
                  with_reducible rfl
                rotate_left
                · simp only [Act.put, List.setIfInBounds_toArray, List.set_cons_zero, List.set_cons_succ, i64_w, i32_w]
                  rfl
                refine one_ (i := 6) (N := some 17) #[true, true, true, true, true, true, true, true, true, false, false, false, false, false, false, false, false, false, false] rfl rfl (one_of HT_.out (by kernel_rfl)) (by decide) (fun K hK => ?_)
                refine goes_ Try.func56 (by kernel_rfl) rfl #[] (by rfl) rfl rfl (by (try simp only [List.map_toArray, List.map_cons, List.map_nil]); first | done | rfl | (simp only [List.length_drop, List.length_take]; rfl)) ?_
                with_reducible refine (pivot_all.calls  t127 t128 _ A10.out).mono ?_
                rintro e w36 ⟨rfl, hb⟩
                refine ⟨_, rfl, ?_⟩
                have n0_ := Aside0.mk (blk_below (g := gb126) (o := .cells #[.int .i64 ((rd_T57 l0 x7_1).f0), .int .i64 ((rd_T57 l0 x7_1).f1)] 57 (0, 0)) (by (with_reducible repeat (first | refine blk_drewN ?_ _ | refine blk_drew ?_ | refine blk_alloc ?_ _)); exact BK126.out) hb)
                have n1_ := Aside0.mk (below_step (by repeat (first | (with_reducible first | exact HB.out | apply below_alloc | apply pw_below_drewN | apply below_drew1 | refine below_set ?_ GE126.out) | exact HB.out)) hb)
                clear BK126
                clear HB
                have BK126 := n0_
                have HB := n1_
                clear n0_ n1_
                (try clear hb)
                (try clear hb2)
                (try clear hk)
                (try clear hi)
                refine hK.out _ _ ⟨(blk_cell BK126.out 0).trans rfl, (blk_cell BK126.out 1).trans rfl⟩ (fun hHeld => ?_)
                clear hK K
                refine norm_ (a' := ?_) ?_ ?_
                rotate_left
                · show Act.put _ (some 17) _ = _
                  simp only [Act.put, List.setIfInBounds_toArray, List.set_cons_zero, List.set_cons_succ, i64_w, i32_w]
                  rfl
                refine one_ (i := 9) (N := some 20) #[true, true, true, true, true, true, true, true, true, true, false, false, false, false, false, false, false, false, false] rfl rfl (one_of HT_.out (by kernel_rfl)) (by decide) (fun K hK => ?_)
                refine goes_ Try.func57 (by kernel_rfl) rfl #[.agg #[.int .i64 t127, .int .i64 t128], .int .i64 ((rd_T57 l0 x7_1).f0)] (by rfl) rfl rfl (by (try simp only [List.map_toArray, List.map_cons, List.map_nil]); first | done | rfl | (simp only [List.length_drop, List.length_take]; rfl)) ?_
                with_reducible refine (pivot_pair_int_has.calls t127 t128 ((rd_T57 l0 x7_1).f0) false _ A11.out).mono ?_
                rintro e w37 ⟨rfl, hb⟩
                refine ⟨_, rfl, ?_⟩
                have n0_ := Aside0.mk (blk_below (g := gb126) (o := .cells #[.int .i64 ((rd_T57 l0 x7_1).f0), .int .i64 ((rd_T57 l0 x7_1).f1)] 57 (0, 0)) (by (with_reducible repeat (first | refine blk_drewN ?_ _ | refine blk_drew ?_ | refine blk_alloc ?_ _)); exact BK126.out) hb)
                have n1_ := Aside0.mk (below_step (by repeat (first | (with_reducible first | exact HB.out | apply below_alloc | apply pw_below_drewN | apply below_drew1 | refine below_set ?_ GE126.out) | exact HB.out)) hb)
                clear BK126
                clear HB
                have BK126 := n0_
                have HB := n1_
                clear n0_ n1_
                (try clear hb)
                (try clear hb2)
                (try clear hk)
                (try clear hi)
                refine hK.out _ _ ⟨(blk_cell BK126.out 0).trans rfl, (blk_cell BK126.out 1).trans rfl⟩ (fun hHeld => ?_)
                clear hK K
                refine norm_ (a' := ?_) ?_ ?_
                rotate_left
                · show Act.put _ (some 20) _ = _
                  simp only [Act.put, List.setIfInBounds_toArray, List.set_cons_zero, List.set_cons_succ, i64_w, i32_w]
                  rfl
                refine pure_ (i := 10) (N := some 21) (v := ?_) (a' := ?_) #[true, true, true, true, true, true, true, true, true, true, true, false, false, false, false, false, false, false, false] rfl rfl (any_of HT_.out (by kernel_rfl)) (fun _ _ _ h => h) (Or.inl ⟨by rfl, ?_⟩) ?_ ?_
                rotate_left
                · intro w'
                  go_simp
                  with_reducible rfl
                rotate_left
                · simp only [Act.put, List.setIfInBounds_toArray, List.set_cons_zero, List.set_cons_succ, i64_w, i32_w]
                  rfl
                refine pure_ (i := 11) (N := some 22) (v := ?_) (a' := ?_) #[true, true, true, true, true, true, true, true, true, true, true, true, false, false, false, false, false, false, false] rfl rfl (any_of HT_.out (by kernel_rfl)) (fun _ _ _ h => h) (Or.inl ⟨by rfl, ?_⟩) ?_ ?_
                rotate_left
                · intro w'
                  go_simp
                  with_reducible rfl
                rotate_left
                · simp only [Act.put, List.setIfInBounds_toArray, List.set_cons_zero, List.set_cons_succ, i64_w, i32_w]
                  rfl
                refine pure_ (i := 12) (N := some 23) (v := ?_) (a' := ?_) #[true, true, true, true, true, true, true, true, true, true, true, true, true, false, false, false, false, false, false] rfl rfl (any_of HT_.out (by kernel_rfl)) (fun _ _ _ h => h) (Or.inl ⟨by rfl, ?_⟩) ?_ ?_
                rotate_left
                · intro w'
                  go_simp
                  with_reducible rfl
                rotate_left
                · simp only [Act.put, List.setIfInBounds_toArray, List.set_cons_zero, List.set_cons_succ, i64_w, i32_w]
                  rfl
                refine pure_ (i := 13) (N := some 24) (v := undef) (a' := ?_) #[true, true, true, true, true, true, true, true, true, true, true, true, true, true, false, false, false, false, false] rfl rfl (any_of HT_.out (by kernel_rfl)) (fun _ _ _ h => h) (Or.inr ⟨by rfl, rfl⟩) ?_ ?_
                rotate_left
                · simp only [Act.put, List.setIfInBounds_toArray, List.set_cons_zero, List.set_cons_succ, i64_w, i32_w]
                  rfl
                refine pure_ (i := 14) (N := some 25) (v := undef) (a' := ?_) #[true, true, true, true, true, true, true, true, true, true, true, true, true, true, true, false, false, false, false] rfl rfl (any_of HT_.out (by kernel_rfl)) (fun _ _ _ h => h) (Or.inr ⟨by rfl, rfl⟩) ?_ ?_
                rotate_left
                · simp only [Act.put, List.setIfInBounds_toArray, List.set_cons_zero, List.set_cons_succ, i64_w, i32_w]
                  rfl
                refine pure_ (i := 15) (N := some 26) (v := undef) (a' := ?_) #[true, true, true, true, true, true, true, true, true, true, true, true, true, true, true, true, false, false, false] rfl rfl (any_of HT_.out (by kernel_rfl)) (fun _ _ _ h => h) (Or.inr ⟨by rfl, rfl⟩) ?_ ?_
                rotate_left
                · simp only [Act.put, List.setIfInBounds_toArray, List.set_cons_zero, List.set_cons_succ, i64_w, i32_w]
                  rfl
                refine pure_ (i := 16) (N := some 27) (v := undef) (a' := ?_) #[true, true, true, true, true, true, true, true, true, true, true, true, true, true, true, true, true, false, false] rfl rfl (any_of HT_.out (by kernel_rfl)) (fun _ _ _ h => h) (Or.inr ⟨by rfl, rfl⟩) ?_ ?_
                rotate_left
                · simp only [Act.put, List.setIfInBounds_toArray, List.set_cons_zero, List.set_cons_succ, i64_w, i32_w]
                  rfl
                refine pure_ (i := 17) (N := some 28) (v := undef) (a' := ?_) #[true, true, true, true, true, true, true, true, true, true, true, true, true, true, true, true, true, true, false] rfl rfl (any_of HT_.out (by kernel_rfl)) (fun _ _ _ h => h) (Or.inr ⟨by rfl, rfl⟩) ?_ ?_
                rotate_left
                · simp only [Act.put, List.setIfInBounds_toArray, List.set_cons_zero, List.set_cons_succ, i64_w, i32_w]
                  rfl
                refine pure_ (i := 18) (N := some 29) (v := ?_) (a' := ?_) #[true, true, true, true, true, true, true, true, true, true, true, true, true, true, true, true, true, true, true] rfl rfl (any_of HT_.out (by kernel_rfl)) (fun _ _ _ h => h) (Or.inl ⟨by rfl, ?_⟩) ?_ ?_
                rotate_left
                · intro w'
                  go_simp
                  with_reducible rfl
                rotate_left
                · simp only [Act.put, List.setIfInBounds_toArray, List.set_cons_zero, List.set_cons_succ, i64_w, i32_w]
                  rfl
                refine done_ (done_of HT_.out (by kernel_rfl)) ?_
                try go_wp2
                go_ret
                exact ⟨by first | rfl | (simp [errW_none, errW_some] <;> rfl) | (simp [*, errW_none, errW_some] <;> rfl), by repeat (first | (with_reducible first | exact HB.out | apply below_alloc | apply pw_below_drewN | apply below_drew1 | refine below_set ?_ GE126.out) | exact HB.out)⟩
          · rw [if_neg c4] at H
            exact absurd H (by simp)
        · rw [if_neg c3] at H
          exact absurd H (by simp)
      · rw [if_neg c2] at H
        have c2b0 : decide (x7_1 < (l0.length : Int)) = false := decide_eq_false c2
        clear c2
        obtain rfl := Option.some.inj H
        go_wp2
        go_ret
        exact ⟨by first | rfl | (simp [errW_none, errW_some] <;> rfl) | (simp [*, errW_none, errW_some] <;> rfl), by repeat (first | (with_reducible first | exact HB.out | apply below_alloc | apply pw_below_drewN | apply below_drew1) | exact HB.out)⟩
end Go.Proofs.Ytoidpkpgeeeggaa.Q
end
section
namespace Go.Proofs.Ytoidpkpgeeeggaa.Q
open Go.RowKit Go.Proofs.YtoidpkpgeeeggaaW.PrintWords Go.Proofs.YtoidpkpgeeeggaaW.PrintLast Go.Proofs.YtoidpkpgeeeggaaW.PrintMore
attribute [local go_sem] max2_int min2_int max_two min_two max_three min_three max_four min_four   -- for this text's walks alone
set_option linter.unusedVariables false
set_option linter.unusedSimpArgs false
def bits_Len.f (a0 : Int) : Option (Int) := if 0 ≤ a0 ∧ a0 ≤ 1152921504606846976 then some (Lib.bitLen a0.toNat : Int) else none
theorem bits_Len.calls (a0 : Int) (r : Int) (w : World) (h : bits_Len.f a0 = some r) :
    Calls Try.prog 102 #[.int .u64 a0] w fun e w' => e = .returned (.int .i64 r) ∧ Drawn0 w w' := by
  unfold bits_Len.f at h
  split at h
  · rename_i hk
    obtain rfl := Option.some.inj h
    refine (Go.Proofs.Try.bits_Len a0 w hk.1 (by omega)).mono ?_
    rintro e w' ⟨rfl, rfl⟩
    exact ⟨rfl, Drawn0.refl _⟩
  · cases h
def metric_Isqrt.l0 : Nat → Int → Int → Option (Int)
  | 0, _, _ => none
  | k + 1, x0, x3 => if x3 = 0 then (none) else (if (wrap64 (Int.tdiv (wrap64 (x3 + (wrap64 (Int.tdiv x0 x3)))) 2)) ≥ x3 then (some x3) else (metric_Isqrt.l0 k x0 (wrap64 (Int.tdiv (wrap64 (x3 + (wrap64 (Int.tdiv x0 x3)))) 2))))
def metric_Isqrt.f (k : Nat) (a0 : Int) : Option (Int) := (metric_clamp_int.f a0 0 1152921504606846976).bind fun t133 => (if t133 = 0 then (some 0) else ((bits_Len.f (IntKind.u64.wrap (t133))).bind fun t134 => (if 0 ≤ (wrap64 (Int.tdiv (wrap64 (t134 + 1)) 2)) then (metric_Isqrt.l0 k t133 (shl .i64 1 (wrap64 (Int.tdiv (wrap64 (t134 + 1)) 2)))) else (none))))
set_option maxHeartbeats 8000000 in
set_option maxRecDepth 100000 in
theorem metric_Isqrt.calls (k : Nat) (a0 : Int) (r : Int) (w : World) (h : metric_Isqrt.f k a0 = some r) :
    Calls Try.prog 97 #[.int .i64 a0] w fun e w' => e = .returned (.int .i64 r) ∧ Drawn0 w w' := by
  have H : ((metric_clamp_int.f a0 0 1152921504606846976).bind fun t133 => (if t133 = 0 then (some 0) else ((bits_Len.f (IntKind.u64.wrap (t133))).bind fun t134 => (if 0 ≤ (wrap64 (Int.tdiv (wrap64 (t134 + 1)) 2)) then (metric_Isqrt.l0 k t133 (shl .i64 1 (wrap64 (Int.tdiv (wrap64 (t134 + 1)) 2)))) else (none))))) = some r := h
  clear h
  replace H := Option.bind_eq_some_iff.mp H
  obtain ⟨t133, A20, H⟩ := H
  replace H : (if t133 = 0 then (some 0) else ((bits_Len.f (IntKind.u64.wrap (t133))).bind fun t134 => (if 0 ≤ (wrap64 (Int.tdiv (wrap64 (t134 + 1)) 2)) then (metric_Isqrt.l0 k t133 (shl .i64 1 (wrap64 (Int.tdiv (wrap64 (t134 + 1)) 2)))) else (none)))) = some r := H
  have A2 := Aside0.mk A20
  clear A20
  by_cases c3 : t133 = 0
  · rw [if_pos c3] at H
    have c3b0 : (t133 == 0) = true := beq_iff_eq.mpr c3
    have c3b1 : (t133 != 0) = false := bne_eq_false_iff_eq.mpr c3
    clear c3
    obtain rfl := Option.some.inj H
    go_enter Try.func97, Try.ntmps97
    go_wp2_with (first | ((with_reducible refine gate_callee (f := 80) rfl ?_); refine goesL_ (some 6) rfl rfl Try.func80 (by kernel_rfl) rfl #[.int .i64 a0, .int .i64 0, .int .i64 1152921504606846976] rfl (by (try simp only [List.map_toArray, List.map_cons, List.map_nil]); first | done | rfl | (simp only [List.length_drop, List.length_take]; rfl)) ?_; (with_reducible refine (metric_clamp_int.calls a0 0 1152921504606846976 t133 _ A2.out).mono ?_); rintro e w' ⟨rfl, ⟨nd, rfl⟩⟩; refine ⟨_, rfl, ?_⟩))
    go_ret
    exact ⟨by first | rfl | (simp; done) | (simp [*]; done), by repeat (first | exact Drawn0.refl _ | apply Drawn0.step)⟩
  · rw [if_neg c3] at H
    have c3b0 : (t133 == 0) = false := beq_eq_false_iff_ne.mpr c3
    have c3b1 : (t133 != 0) = true := bne_iff_ne.mpr c3
    replace H := Option.bind_eq_some_iff.mp H
    obtain ⟨t134, A40, H⟩ := H
    replace H : (if 0 ≤ (wrap64 (Int.tdiv (wrap64 (t134 + 1)) 2)) then (metric_Isqrt.l0 k t133 (shl .i64 1 (wrap64 (Int.tdiv (wrap64 (t134 + 1)) 2)))) else (none)) = some r := H
    have A4 := Aside0.mk A40
    clear A40
    obtain ⟨ji5, hji5⟩ : ∃ j_ : Int, (wrap64 (Int.tdiv (wrap64 (t134 + 1)) 2)) = j_ := ⟨_, rfl⟩
    replace H : (if 0 ≤ (ji5) then (metric_Isqrt.l0 k t133 (shl .i64 1 (ji5))) else (none)) = some r := by first | (rw [hji5] at H; exact H) | (simp only [hji5] at H ⊢; exact H)
    (try rw [hji5] at A2)
    (try rw [hji5] at A4)
    have hji5w : (IntKind.i64.wrap (Int.tdiv (wrap64 (t134 + 1)) 2)) = ji5 := (i64_w _).trans hji5
    by_cases c6 : 0 ≤ (ji5)
    · rw [if_pos c6] at H
      have c6b0 := eq_true c6
      have c6b1 : decide (0 ≤ (ji5)) = true := decide_eq_true c6
      clear c6
      obtain ⟨ji7, hji7⟩ : ∃ j_ : Int, (shl .i64 1 (ji5)) = j_ := ⟨_, rfl⟩
      replace H : (metric_Isqrt.l0 k t133 ji7) = some r := by first | (rw [hji7] at H; exact H) | (simp only [hji7] at H ⊢; exact H)
      (try rw [hji7] at A2)
      (try rw [hji7] at A4)
      have hji7_ : (IntKind.i64.wrap (1 * 2 ^ min (ji5).toNat 64)) = ji7 := hji7
      have hji7z : (ji5) ≤ 64 → (IntKind.i64.wrap (1 * 2 ^ (ji5).toNat)) = ji7 := shl_small hji7
      have hji7u : (IntKind.i64.wrap (2 ^ min (ji5).toNat 64)) = ji7 := by have h_ := hji7_; rw [Int.one_mul] at h_; exact h_
      have hji7v : (ji5) ≤ 64 → (IntKind.i64.wrap (2 ^ (ji5).toNat)) = ji7 := fun hle_ => by have h_ := hji7z hle_; rw [Int.one_mul] at h_; exact h_
      have hji7y : (wrap64 (1 * 2 ^ min (ji5).toNat 64)) = ji7 := (i64_w _).symm.trans hji7_
      have hji7x : (ji5) ≤ 64 → (wrap64 (1 * 2 ^ (ji5).toNat)) = ji7 := fun h_ => (i64_w _).symm.trans (hji7z h_)
      have H' := Aside0.mk H
      clear H
      go_enter Try.func97, Try.ntmps97
      go_wp2_with (first | ((with_reducible refine gate_callee (f := 80) rfl ?_); refine goesL_ (some 6) rfl rfl Try.func80 (by kernel_rfl) rfl #[.int .i64 a0, .int .i64 0, .int .i64 1152921504606846976] rfl (by (try simp only [List.map_toArray, List.map_cons, List.map_nil]); first | done | rfl | (simp only [List.length_drop, List.length_take]; rfl)) ?_; (with_reducible refine (metric_clamp_int.calls a0 0 1152921504606846976 t133 _ A2.out).mono ?_); rintro e w' ⟨rfl, ⟨nd, rfl⟩⟩; refine ⟨_, rfl, ?_⟩) | ((with_reducible refine gate_callee (f := 102) rfl ?_); refine goesL_ (some 11) rfl rfl Try.func102 (by kernel_rfl) rfl #[.int .u64 (IntKind.u64.wrap (t133))] rfl (by (try simp only [List.map_toArray, List.map_cons, List.map_nil]); first | done | rfl | (simp only [List.length_drop, List.length_take]; rfl)) ?_; (with_reducible refine (bits_Len.calls (IntKind.u64.wrap (t133)) t134 _ A4.out).mono ?_); rintro e w' ⟨rfl, ⟨nd, rfl⟩⟩; refine ⟨_, rfl, ?_⟩))
      go_loopg [3] k (fun kq v3 w' => ∃ (x3_1 : Int), v3 = .int .i64 x3_1 ∧ Aside0 (metric_Isqrt.l0 kq t133 x3_1 = some r) ∧ Aside0 (kq ≤ k) ∧ Drawn0 w w')
      case atStart => exact ⟨(ji7), (by first | rfl | (simp; done) | (simp only [← hji7] <;> (first | rfl | simp)) | (simp [*]; done)), H', ⟨Nat.le_refl _⟩, by repeat (first | exact Drawn0.refl _ | apply Drawn0.step)⟩
      case round =>
        clear H'
        try clear c1
        try clear p2
        try clear c3
        try clear c3b0
        try clear c3b1
        try clear c6
        try clear c6b0
        try clear c6b1
        try clear p6
        obtain ⟨x3_1, rfl, HA, HK1, ⟨m1, rfl⟩⟩ := hrel
        cases gk with
        | zero => exact absurd HA.out (by simp [metric_Isqrt.l0])
        | succ k1 =>
          have H := HA.out
          clear HA
          simp only [metric_Isqrt.l0] at H
          by_cases c8 : x3_1 = 0
          · rw [if_pos c8] at H
            exact absurd H (by simp)
          · rw [if_neg c8] at H
            have c8b0 : (x3_1 == 0) = false := beq_eq_false_iff_ne.mpr c8
            have c8b1 : (x3_1 != 0) = true := bne_iff_ne.mpr c8
            by_cases c9 : (wrap64 (Int.tdiv (wrap64 (x3_1 + (wrap64 (Int.tdiv t133 x3_1)))) 2)) ≥ x3_1
            · rw [if_pos c9] at H
              have c9b0 : decide (x3_1 ≤ (wrap64 (Int.tdiv (wrap64 (x3_1 + (wrap64 (Int.tdiv t133 x3_1)))) 2))) = true := decide_eq_true c9
              clear c9
              obtain rfl := Option.some.inj H
              go_wp2
              go_ret
              exact ⟨by first | rfl | (simp; done) | (simp only [← hji5, ← hji7] <;> (first | rfl | simp)) | (simp [*]; done), by repeat (first | exact Drawn0.refl _ | apply Drawn0.step)⟩
            · rw [if_neg c9] at H
              have c9b0 : decide (x3_1 ≤ (wrap64 (Int.tdiv (wrap64 (x3_1 + (wrap64 (Int.tdiv t133 x3_1)))) 2))) = false := decide_eq_false c9
              clear c9
              have H' := Aside0.mk H
              clear H
              go_wp2
              go_roundg k1
              case measure => have := HK1.out; omega
              case rel => exact ⟨(wrap64 (Int.tdiv (wrap64 (x3_1 + (wrap64 (Int.tdiv t133 x3_1)))) 2)), (by first | rfl | (simp; done) | (simp [*]; done)), H', ⟨by have := HK1.out; omega⟩, by repeat (first | exact Drawn0.refl _ | apply Drawn0.step)⟩
    · rw [if_neg c6] at H
      exact absurd H (by simp)
theorem metric_Isqrt.loop (n : Int) (hn1 : 1 ≤ n) (hn2 : n ≤ 1152921504606846976) (d : Nat) : ∀ (k : Nat) (x : Int), 1 ≤ x → x ≤ 2147483648 → n < (x + 1) * (x + 1) → x ≤ d → d < k → metric_Isqrt.l0 k n x = some (Plain.root n) := by
  induction d with
  | zero => intro k x h1 _ _ h2 _; omega
  | succ d ih =>
    intro k x h1 h2 h3 h4 h5
    obtain ⟨k, rfl⟩ : ∃ m, k = m + 1 := ⟨k - 1, by omega⟩
    simp only [metric_Isqrt.l0]
    rw [if_neg (by omega)]
    have hq0 : 0 ≤ n / x := Int.ediv_nonneg (by omega) (by omega)
    have hq1 : n / x ≤ n := Int.ediv_le_self _ (by omega)
    have hq2 : x * (n / x) ≤ n := Int.mul_ediv_self_le (by omega)
    have hq3 : n < x * (n / x + 1) := by
      have := Int.lt_mul_ediv_self_add (x := n) (k := x) (by omega)
      rw [Int.mul_add]
      omega
    have e1 : wrap64 (Int.tdiv n x) = n / x := by
      rw [Int.tdiv_eq_ediv_of_nonneg (by omega)]
      unfold wrap64
      omega
    have e2 : wrap64 (x + n / x) = x + n / x := by unfold wrap64; omega
    have e3 : wrap64 (Int.tdiv (x + n / x) 2) = (x + n / x) / 2 := by
      rw [Int.tdiv_eq_ediv_of_nonneg (by omega)]
      unfold wrap64
      omega
    rw [e1, e2, e3]
    generalize n / x = q at hq0 hq1 hq2 hq3
    by_cases hy : (x + q) / 2 ≥ x
    · rw [if_pos hy]
      congr 1
      symm
      refine Plain.root_unique (by omega) (by omega) ?_ h3
      have : x * x ≤ x * q := Int.mul_le_mul_of_nonneg_left (by omega) (by omega)
      omega
    · rw [if_neg hy]
      refine ih k _ ?_ (by omega) ?_ (by omega) (by omega)
      · by_cases hx : x = 1
        · subst hx
          omega
        · omega
      · have h6 : x + (q + 1) ≤ 2 * ((x + q) / 2 + 1) := by omega
        generalize (x + q) / 2 + 1 = y at h6
        have h7 := Plain.sq_le_sq (show (0 : Int) ≤ x + (q + 1) by omega) h6
        have h8 : 4 * (x * (q + 1)) ≤ (x + (q + 1)) * (x + (q + 1)) := by
          have h9 : (0 : Int) ≤ (x - (q + 1)) * (x - (q + 1)) := by
            rcases Int.le_total 0 (x - (q + 1)) with h | h
            · exact Int.mul_nonneg h h
            · exact Int.mul_nonneg_of_nonpos_of_nonpos h h
          generalize q + 1 = z at h9 ⊢
          have e4 : (x - z) * (x - z) = x * x - 2 * (x * z) + z * z := by
            rw [Int.sub_mul, Int.mul_sub, Int.mul_sub, Int.mul_comm z x]; omega
          have e5 : (x + z) * (x + z) = x * x + 2 * (x * z) + z * z := by
            rw [Int.add_mul, Int.mul_add, Int.mul_add, Int.mul_comm z x]; omega
          omega
        have e6 : 2 * y * (2 * y) = 4 * (y * y) := by
          rw [Int.mul_assoc, Int.mul_left_comm y 2 y, ← Int.mul_assoc]; rfl
        omega
theorem metric_clamp60 (n : Int) : metric_clamp_int.f n 0 1152921504606846976 = some (Plain.clamp60 n) := by
  unfold metric_clamp_int.f mx mn Plain.clamp60
  congr 1
  by_cases h : n < 0
  · rw [if_pos h, if_neg (show ¬ (1152921504606846976 < n) by omega), if_neg (by omega)]
  · rw [if_neg h]
    by_cases h2 : n > 1152921504606846976
    · rw [if_pos h2, if_pos (by omega)]
    · rw [if_neg h2]
      by_cases h3 : n = 0
      · rw [h3]; rfl
      · rw [if_pos (by omega)]
theorem metric_shl_pow (l : Nat) (h : l ≤ 31) : shl .i64 1 (l : Int) = ((2 ^ l : Nat) : Int) := by
  unfold shl
  rw [show min (l : Int).toNat IntKind.i64.bits = l by rw [show IntKind.i64.bits = 64 from rfl]; omega, Int.one_mul]
  have h1 : 2 ^ l ≤ 2 ^ 31 := Nat.pow_le_pow_right (by omega) h
  rw [IntKind.wrap_i64]
  have h2 : ((2 : Int) ^ l) = ((2 ^ l : Nat) : Int) := by push_cast; rfl
  rw [h2]
  generalize 2 ^ l = z at h1
  omega
theorem metric_Isqrt.start (m : Int) (l : Nat) (h0 : 1 ≤ m) (h1 : m ≤ 1152921504606846976) (hlt : m.toNat < 2 ^ l) (hle : l ≤ 61) : ∃ k, metric_Isqrt.l0 k m (shl .i64 1 (((l + 1) / 2 : Nat) : Int)) = some (Plain.root m) := by
  rw [metric_shl_pow _ (by omega)]
  have hp1 : 1 ≤ 2 ^ ((l + 1) / 2) := Nat.one_le_two_pow
  have hp2 : 2 ^ ((l + 1) / 2) ≤ 2 ^ 31 := Nat.pow_le_pow_right (by omega) (by omega)
  have hp3 : 2 ^ l ≤ 2 ^ ((l + 1) / 2) * 2 ^ ((l + 1) / 2) := by rw [← Nat.pow_add]; exact Nat.pow_le_pow_right (by omega) (by omega)
  have h3 : m.toNat < 2 ^ ((l + 1) / 2) * 2 ^ ((l + 1) / 2) := Nat.lt_of_lt_of_le hlt hp3
  clear hlt hp3
  generalize 2 ^ ((l + 1) / 2) = x at hp1 hp2 h3 ⊢
  refine ⟨x + 1, metric_Isqrt.loop m h0 h1 x (x + 1) x (by omega) (by omega) ?_ (by omega) (by omega)⟩
  have h4 : ((m.toNat : Nat) : Int) < ((x * x : Nat) : Int) := by omega
  rw [Int.natCast_mul] at h4
  have := Plain.sq_le_sq (a := (x : Int)) (b := (x : Int) + 1) (by omega) (by omega)
  omega
theorem bits_Len.is (m : Int) (h0 : 0 ≤ m) (h1 : m ≤ 1152921504606846976) : ∃ l : Nat, bits_Len.f m = some (l : Int) ∧ m.toNat < 2 ^ l ∧ l ≤ 61 :=
  ⟨Lib.bitLen m.toNat, if_pos ⟨h0, h1⟩, Plain.bitLen_lt m.toNat (by omega), Plain.bitLen_le m.toNat 60 (by omega)⟩
theorem metric_Isqrt.is (n : Int) : ∃ k, metric_Isqrt.f k n = some (Plain.root (Plain.clamp60 n)) := by
  obtain ⟨hm0, hm1⟩ := Plain.clamp60_range n
  have hc := metric_clamp60 n
  generalize Plain.clamp60 n = m at hm0 hm1 hc ⊢
  unfold metric_Isqrt.f
  by_cases h0 : m = 0
  · refine ⟨0, Plain.bind_of hc ?_⟩
    rw [if_pos h0, h0]
    exact congrArg some (Plain.root_sq (x := 0) (by omega)).symm
  · obtain ⟨l, hl, hlt, hle⟩ := bits_Len.is m hm0 hm1
    obtain ⟨k, hk⟩ := metric_Isqrt.start m l (by omega) hm1 hlt hle
    have hw : IntKind.u64.wrap m = m := by
      rw [IntKind.wrap_u64]
      omega
    have e1 : wrap64 ((l : Int) + 1) = ((l + 1 : Nat) : Int) := by unfold wrap64; omega
    have e2 : wrap64 (Int.tdiv ((l + 1 : Nat) : Int) 2) = (((l + 1) / 2 : Nat) : Int) := by
      rw [Int.tdiv_eq_ediv_of_nonneg (by omega)]
      unfold wrap64
      omega
    refine ⟨k, Plain.bind_of hc ?_⟩
    rw [if_neg h0, hw]
    refine Plain.bind_of hl ?_
    rw [e1, e2, if_pos (by omega)]
    exact hk
theorem metric_Isqrt.called (n : Int) (w : World) (h0 : 0 ≤ n) (h1 : n ≤ 1152921504606846976) :
    Calls Try.prog 97 #[.int .i64 n] w fun e w' => e = .returned (.int .i64 (Plain.root n)) ∧ ∃ k, w' = w.drewN k := by
  obtain ⟨k, hk⟩ := metric_Isqrt.is n
  rw [Plain.clamp60_in h0 h1] at hk
  exact (metric_Isqrt.calls k n _ w hk).mono fun e w' h => ⟨h.1, h.2.out⟩
theorem metric_side.calls (s : Int) (w : World) : Calls Try.prog 95 #[.int .i64 s] w fun e w' => e = .returned (.func (.func 96) #[] #[.pointer (some ⟨w.heap.size, 0, none⟩)]) ∧ w' = w.alloc (.cells #[.int .i64 s] 3) := by
  have hmf : ∀ (fn : Fn) (first cap : Array Value) (w : World), (Instr.makeFunc fn first cap).run Try.prog w = .ok (.func fn first cap) w := fun _ _ _ _ => rfl
  go_enter Try.func95, Try.ntmps95
  go_wp2
  go_ret
  exact ⟨rfl, rfl⟩
set_option maxHeartbeats 400000 in
theorem metric_side1.calls (s a b : Int) (ad : Addr) (w : World) (hc : w.cell? ad = some (.int .i64 s)) (hs0 : -1 ≤ s) (hs1 : s ≤ 1) (ha : 0 ≤ a) (ha' : a ≤ 134217728) (hb : 0 ≤ b) (hb' : b ≤ 134217728) :
    Calls Try.prog 96 #[.int .i64 a, .int .i64 b, .pointer (some ad)] w fun e w' => e = .returned (.int .i64 (a + b + s * Plain.root (4 * a * b))) ∧ Drawn0 w w' := by
  have hr0 := Plain.root_nonneg (4 * a * b)
  have hr1 := Plain.root4_le (a := a) (b := b) ⟨ha, ha'⟩ ⟨hb, hb'⟩
  have hab0 : 0 ≤ 4 * a * b := Int.mul_nonneg (by omega) hb
  have hab1 : 4 * a * b ≤ 72057594037927936 := by
    have := Int.mul_le_mul (a := 4 * a) (b := b) (c := 536870912) (d := 134217728) (by omega) hb' hb (by omega)
    omega
  have hm : -268435456 ≤ s * Plain.root (4 * a * b) ∧ s * Plain.root (4 * a * b) ≤ 268435456 := by
    rcases (show s = -1 ∨ s = 0 ∨ s = 1 by omega) with h | h | h <;> subst h <;> constructor <;> omega
  obtain ⟨hm0, hm1⟩ := hm
  have e1 : IntKind.i64.wrap (a + b) = a + b := IntWalk.i64_in _ (by omega)
  have e2 : IntKind.i64.wrap (4 * a) = 4 * a := IntWalk.i64_in _ (by omega)
  have e3 : IntKind.i64.wrap (4 * a * b) = 4 * a * b := IntWalk.i64_in _ (by omega)
  have e4 : IntKind.i64.wrap (s * Plain.root (4 * a * b)) = s * Plain.root (4 * a * b) := IntWalk.i64_in _ (by omega)
  have e5 : IntKind.i64.wrap (a + b + s * Plain.root (4 * a * b)) = a + b + s * Plain.root (4 * a * b) := IntWalk.i64_in _ (by omega)
  go_enter Try.func96, Try.ntmps96
  go_wp2
  go_quiet ((go_at_call 97; exact Calls.quiet_of (metric_Isqrt.called _ _ (by omega) (by omega))))
  go_wp2
  go_ret
  exact ⟨rfl, by repeat (first | exact Drawn0.refl _ | apply Drawn0.step)⟩
theorem metric_low_sum.calls (a b : Int) (w : World) (ha : 0 ≤ a) (ha' : a ≤ 134217728) (hb : 0 ≤ b) (hb' : b ≤ 134217728) :
    Calls Try.prog 98 #[.int .i64 a, .int .i64 b] w fun e w' => e = .returned (.int .i64 (mx a b - mn a b)) ∧ Drawn0 w w' := by
  obtain ⟨x, hx⟩ : ∃ x, mx a b = x := ⟨_, rfl⟩
  obtain ⟨y, hy⟩ : ∃ y, mn a b = y := ⟨_, rfl⟩
  have hx0 : 0 ≤ x ∧ x ≤ 134217728 := by rw [← hx]; unfold mx; omega
  have hy0 : 0 ≤ y ∧ y ≤ 134217728 := by rw [← hy]; unfold mn; omega
  obtain ⟨hx1, hx2⟩ := hx0
  obtain ⟨hy1, hy2⟩ := hy0
  rw [hx, hy]
  unfold mx at hx
  unfold mn at hy
  go_enter Try.func98, Try.ntmps98
  go_wp2
  go_ret
  exact ⟨rfl, Drawn0.refl _⟩
theorem metric_high_sum.calls (a b : Int) (w : World) (ha : 0 ≤ a) (ha' : a ≤ 134217728) (hb : 0 ≤ b) (hb' : b ≤ 134217728) :
    Calls Try.prog 99 #[.int .i64 a, .int .i64 b] w fun e w' => e = .returned (.int .i64 (a + b)) ∧ Drawn0 w w' := by
  go_enter Try.func99, Try.ntmps99
  go_wp2
  go_ret
  exact ⟨rfl, Drawn0.refl _⟩
/-- the two functions of a metric's rules, as values -/
def metric_isLow (m : Int) (v : Value) (w : World) : Prop := (m ≠ 2 ∧ v = .func (.func 98) #[] #[]) ∨ (m = 2 ∧ ∃ ad, v = .func (.func 96) #[] #[.pointer (some ad)] ∧ w.cell? ad = some (.int .i64 (-1)))
def metric_isHigh (m : Int) (v : Value) (w : World) : Prop := (m ≠ 2 ∧ v = .func (.func 99) #[] #[]) ∨ (m = 2 ∧ ∃ ad, v = .func (.func 96) #[] #[.pointer (some ad)] ∧ w.cell? ad = some (.int .i64 1))
theorem metric_sum.calls (w : World) : Calls Try.prog 87 #[] w fun e w' => e = .returned (.agg #[.func (.func 98) #[] #[], .func (.func 99) #[] #[]]) ∧ w' = w.alloc (.cells #[.func (.func 98) #[] #[], .func (.func 99) #[] #[]] 99) := by
  go_enter Try.func87, Try.ntmps87
  go_wp2
  exact bodyPost_ret (v := .agg #[.func (.func 98) #[] #[], .func (.func 99) #[] #[]]) (by simp [results, Try.results87, go_sem]) rfl ⟨rfl, rfl⟩
theorem metric_square.calls (w : World) : Calls Try.prog 86 #[] w fun e w' => e = .returned (.agg #[.func (.func 96) #[] #[.pointer (some ⟨w.heap.size + 1, 0, none⟩)], .func (.func 96) #[] #[.pointer (some ⟨w.heap.size + 1 + 1, 0, none⟩)]]) ∧
    w' = (((w.alloc (.cells #[.func (.func 96) #[] #[.pointer (some ⟨w.heap.size + 1, 0, none⟩)], .func (.func 96) #[] #[.pointer (some ⟨w.heap.size + 1 + 1, 0, none⟩)]] 99)).alloc (.cells #[.int .i64 (-1)] 3)).alloc (.cells #[.int .i64 1] 3)) := by
  go_enter Try.func86, Try.ntmps86
  go_wp2_with (go_at_call 95; refine (metric_side.calls _ _).mono ?_; rintro e w' ⟨rfl, rfl⟩)
  exact bodyPost_ret (v := .agg #[.func (.func 96) #[] #[.pointer (some ⟨w.heap.size + 1, 0, none⟩)], .func (.func 96) #[] #[.pointer (some ⟨w.heap.size + 1 + 1, 0, none⟩)]]) (by simp [results, Try.results86, go_sem]) rfl ⟨rfl, rfl⟩
/-- what of hands back -/
def metric_RulesPost (m : Int) (w : World) (e : Ending) (w' : World) : Prop := ∃ l h, e = .returned (.agg #[l, h]) ∧ metric_isLow m l w' ∧ metric_isHigh m h w' ∧ Below w.heap.size w w'
theorem metric_of.calls (m : Int) (w : World) : Calls Try.prog 67 #[.int .i64 m] w (metric_RulesPost m w) := by
  by_cases hm : m = 2
  · have hm1 : (m == 2) = true := beq_iff_eq.mpr hm
    obtain rfl := hm
    go_enter Try.func67, Try.ntmps67
    go_wp2_with (go_at_call 86; refine (metric_square.calls _).mono ?_; rintro e w' ⟨rfl, rfl⟩)
    refine bodyPost_ret (v := .agg #[.func (.func 96) #[] #[.pointer (some ⟨w.heap.size + 1 + 1, 0, none⟩)], .func (.func 96) #[] #[.pointer (some ⟨w.heap.size + 1 + 1 + 1, 0, none⟩)]]) (by simp [results, Try.results67, go_sem]) rfl ⟨_, _, rfl, .inr ⟨rfl, _, rfl, by simp [go_sem]⟩, .inr ⟨rfl, _, rfl, by simp [go_sem]⟩, ?_⟩
    repeat (first | exact Below.refl _ _ | apply below_alloc)
  · have hm1 : (m == 2) = false := beq_eq_false_iff_ne.mpr hm
    have Hm := Lib.hid hm
    clear hm
    go_enter Try.func67, Try.ntmps67
    go_wp2_with (go_at_call 87; refine (metric_sum.calls _).mono ?_; rintro e w' ⟨rfl, rfl⟩)
    refine bodyPost_ret (v := .agg #[.func (.func 98) #[] #[], .func (.func 99) #[] #[]]) (by simp [results, Try.results67, go_sem]) rfl ⟨_, _, rfl, .inl ⟨Hm.out, rfl⟩, .inl ⟨Hm.out, rfl⟩, ?_⟩
    repeat (first | exact Below.refl _ _ | apply below_alloc)
/-- the two functions, whichever the metric is -/
theorem metric_rules_cases {m : Int} {l h : Value} {w : World} (hl : metric_isLow m l w) (hh : metric_isHigh m h w) :
    (m ≠ 2 ∧ l = .func (.func 98) #[] #[] ∧ h = .func (.func 99) #[] #[]) ∨
    (m = 2 ∧ ∃ ad ad2, l = .func (.func 96) #[] #[.pointer (some ad)] ∧ h = .func (.func 96) #[] #[.pointer (some ad2)] ∧ w.cell? ad = some (.int .i64 (-1)) ∧ w.cell? ad2 = some (.int .i64 1)) := by
  rcases hl with ⟨h1, h2⟩ | ⟨h1, ad, h2, h3⟩
  · rcases hh with ⟨_, h4⟩ | ⟨h4, _⟩
    · exact .inl ⟨h1, h2, h4⟩
    · exact absurd h4 h1
  · rcases hh with ⟨h4, _⟩ | ⟨_, ad2, h4, h5⟩
    · exact absurd h1 h4
    · exact .inr ⟨h1, ad, ad2, h2, h4, h3, h5⟩
def metric_Low.f (a0 a1 a2 : Int) : Option Int := if Plain.isKey a1 ∧ Plain.isKey a2 then some (Plain.low a0 a1 a2) else none
theorem metric_Low.calls (a0 a1 a2 r : Int) (w : World) (h : metric_Low.f a0 a1 a2 = some r) :
    Calls Try.prog 79 #[.int .i64 a0, .int .i64 a1, .int .i64 a2] w fun e w' => e = .returned (.int .i64 r) ∧ Below w.heap.size w w' := by
  unfold metric_Low.f at h
  by_cases hk : Plain.isKey a1 ∧ Plain.isKey a2
  · rw [if_pos hk] at h
    obtain rfl := Option.some.inj h
    clear h
    obtain ⟨⟨h10, h11⟩, ⟨h20, h21⟩⟩ := hk
    go_enter Try.func79, Try.ntmps79
    go_wp2_with fail
    refine (metric_of.calls _ _).mono ?_
    rintro e w1 ⟨l, h, rfl, hl, hh, hb⟩
    rcases metric_rules_cases hl hh with ⟨hm, rfl, rfl⟩ | ⟨rfl, ad, ad2, rfl, rfl, hc, hc2⟩
    · have Hv : Hid (Plain.low a0 a1 a2 = mx a1 a2 - mn a1 a2) := by unfold Plain.low; rw [if_neg hm]; unfold mx mn; show _ = _; split <;> omega
      clear hm hl hh
      have hf : ∀ w, (Instr.field 99 (.agg #[.func (.func 98) #[] #[], .func (.func 99) #[] #[]]) 0).run Try.prog w = .ok (.func (.func 98) #[] #[]) w := fun _ => by kernel_rfl
      go_wp2_with fail
      refine (metric_low_sum.calls _ _ _ h10 h11 h20 h21).mono ?_
      rintro e w2 ⟨rfl, hd⟩
      go_wp2
      go_ret
      exact ⟨by rw [Hv.out]; rfl, below_step hb hd.below⟩
    · clear hl hh hc2
      have hf : ∀ w, (Instr.field 99 (.agg #[.func (.func 96) #[] #[.pointer (some ad)], .func (.func 96) #[] #[.pointer (some ad2)]]) 0).run Try.prog w = .ok (.func (.func 96) #[] #[.pointer (some ad)]) w := fun _ => by kernel_rfl
      go_wp2_with fail
      refine (metric_side1.calls _ _ _ _ _ hc (by omega) (by omega) h10 h11 h20 h21).mono ?_
      rintro e w2 ⟨rfl, hd⟩
      go_wp2
      go_ret
      exact ⟨by unfold Plain.low; rw [if_pos rfl]; simp; omega, below_step hb hd.below⟩
  · rw [if_neg hk] at h; cases h
def metric_Gap.f (a0 : Int) (a1 : Int) (a2 : Int) (a3 : Int) : Option (Int) := (metric_clamp_int.f a3 a1 a2).bind fun t135 => ((metric_Low.f a0 a3 t135).bind fun t136 => (some t136))
set_option maxHeartbeats 8000000 in
set_option maxRecDepth 100000 in
theorem metric_Gap.calls (a0 : Int) (a1 : Int) (a2 : Int) (a3 : Int) (r : Int) (w : World) (h : metric_Gap.f a0 a1 a2 a3 = some r) :
    Calls Try.prog 60 #[.int .i64 a0, .int .i64 a1, .int .i64 a2, .int .i64 a3] w fun e w' => e = .returned (.int .i64 r) ∧ Below w.heap.size w w' := by
  have HB := Aside0.mk (Below.refl w.heap.size w)
  have H : ((metric_clamp_int.f a3 a1 a2).bind fun t135 => ((metric_Low.f a0 a3 t135).bind fun t136 => (some t136))) = some r := h
  clear h
  replace H := Option.bind_eq_some_iff.mp H
  obtain ⟨t135, A50, H⟩ := H
  replace H : ((metric_Low.f a0 a3 t135).bind fun t136 => (some t136)) = some r := H
  have A5 := Aside0.mk A50
  clear A50
  replace H := Option.bind_eq_some_iff.mp H
  obtain ⟨t136, A60, H⟩ := H
  replace H : (some t136) = some r := H
  have A6 := Aside0.mk A60
  clear A60
  obtain rfl := Option.some.inj H
  go_enter Try.func60, Try.ntmps60
  go_wp2_with (first | ((with_reducible refine gate_callee (f := 80) rfl ?_); refine goesL_ (some 14) rfl rfl Try.func80 (by kernel_rfl) rfl #[.int .i64 a3, .int .i64 a1, .int .i64 a2] rfl (by (try simp only [List.map_toArray, List.map_cons, List.map_nil]); first | done | rfl | (simp only [List.length_drop, List.length_take]; rfl)) ?_; (with_reducible refine (metric_clamp_int.calls a3 a1 a2 t135 _ A5.out).mono ?_); rintro e w' ⟨rfl, ⟨nd, rfl⟩⟩; refine ⟨_, rfl, ?_⟩) | ((with_reducible refine gate_callee (f := 79) rfl ?_); refine goesL_ (some 15) rfl rfl Try.func79 (by kernel_rfl) rfl #[.int .i64 a0, .int .i64 a3, .int .i64 t135] rfl (by (try simp only [List.map_toArray, List.map_cons, List.map_nil]); first | done | rfl | (simp only [List.length_drop, List.length_take]; rfl)) ?_; (with_reducible refine (metric_Low.calls a0 a3 t135 t136 _ A6.out).mono ?_); rintro e w7 ⟨rfl, hb⟩; refine ⟨_, rfl, ?_⟩; have n0_ := Aside0.mk (below_step (by repeat (first | (with_reducible first | exact HB.out | apply below_alloc | apply pw_below_drewN | apply below_drew1) | exact HB.out)) hb); clear HB; have HB := n0_; clear n0_; (try clear hb); (try clear hb2); (try clear hk); (try clear hi)))
  go_ret
  exact ⟨by first | rfl | (simp [errW_none, errW_some] <;> rfl) | (simp [*, errW_none, errW_some] <;> rfl), by repeat (first | (with_reducible first | exact HB.out | apply below_alloc | apply pw_below_drewN | apply below_drew1) | exact HB.out)⟩
def metric_High.f (a0 a1 a2 : Int) : Option Int := if Plain.isKey a1 ∧ Plain.isKey a2 then some (Plain.high a0 a1 a2) else none
theorem metric_High.calls (a0 a1 a2 r : Int) (w : World) (h : metric_High.f a0 a1 a2 = some r) :
    Calls Try.prog 32 #[.int .i64 a0, .int .i64 a1, .int .i64 a2] w fun e w' => e = .returned (.int .i64 r) ∧ Below w.heap.size w w' := by
  unfold metric_High.f at h
  by_cases hk : Plain.isKey a1 ∧ Plain.isKey a2
  · rw [if_pos hk] at h
    obtain rfl := Option.some.inj h
    clear h
    obtain ⟨⟨h10, h11⟩, ⟨h20, h21⟩⟩ := hk
    go_enter Try.func32, Try.ntmps32
    go_wp2_with fail
    refine (metric_of.calls _ _).mono ?_
    rintro e w1 ⟨l, h, rfl, hl, hh, hb⟩
    rcases metric_rules_cases hl hh with ⟨hm, rfl, rfl⟩ | ⟨rfl, ad, ad2, rfl, rfl, hc, hc2⟩
    · have Hv : Hid (Plain.high a0 a1 a2 = mn (a1 + a2) 134217728) := by unfold Plain.high; rw [if_neg hm]; unfold mn; exact rfl
      clear hm hl hh
      have hf : ∀ w, (Instr.field 99 (.agg #[.func (.func 98) #[] #[], .func (.func 99) #[] #[]]) 1).run Try.prog w = .ok (.func (.func 99) #[] #[]) w := fun _ => by kernel_rfl
      go_wp2_with fail
      refine (metric_high_sum.calls _ _ _ h10 h11 h20 h21).mono ?_
      rintro e w2 ⟨rfl, hd⟩
      obtain ⟨x, hx⟩ : ∃ x, mn (a1 + a2) 134217728 = x := ⟨_, rfl⟩
      rw [hx] at Hv
      unfold mn at hx
      go_wp2
      go_ret
      exact ⟨by rw [Hv.out]; rfl, below_step hb hd.below⟩
    · clear hl hh hc
      have Hv : Hid (Plain.high 2 a1 a2 = mn (a1 + a2 + 1 * Plain.root (4 * a1 * a2)) 134217728) := by unfold Plain.high; rw [if_pos rfl]; unfold mn; rw [Int.one_mul]; exact rfl
      have hf : ∀ w, (Instr.field 99 (.agg #[.func (.func 96) #[] #[.pointer (some ad)], .func (.func 96) #[] #[.pointer (some ad2)]]) 1).run Try.prog w = .ok (.func (.func 96) #[] #[.pointer (some ad2)]) w := fun _ => by kernel_rfl
      go_wp2_with fail
      refine (metric_side1.calls _ _ _ _ _ hc2 (by omega) (by omega) h10 h11 h20 h21).mono ?_
      rintro e w2 ⟨rfl, hd⟩
      obtain ⟨y, hy⟩ : ∃ y, a1 + a2 + 1 * Plain.root (4 * a1 * a2) = y := ⟨_, rfl⟩
      obtain ⟨x, hx⟩ : ∃ x, mn y 134217728 = x := ⟨_, rfl⟩
      rw [hy] at Hv ⊢
      rw [hx] at Hv
      clear hy
      unfold mn at hx
      go_wp2
      go_ret
      exact ⟨by rw [Hv.out]; rfl, below_step hb hd.below⟩
  · rw [if_neg hk] at h; cases h
def metric_Reach.f (a0 : Int) (a1 : Int) (a2 : Int) (a3 : Int) : Option (Int) := (metric_High.f a0 a3 a2).bind fun t137 => (some t137)
set_option maxHeartbeats 8000000 in
set_option maxRecDepth 100000 in
theorem metric_Reach.calls (a0 : Int) (a1 : Int) (a2 : Int) (a3 : Int) (r : Int) (w : World) (h : metric_Reach.f a0 a1 a2 a3 = some r) :
    Calls Try.prog 62 #[.int .i64 a0, .int .i64 a1, .int .i64 a2, .int .i64 a3] w fun e w' => e = .returned (.int .i64 r) ∧ Below w.heap.size w w' := by
  have HB := Aside0.mk (Below.refl w.heap.size w)
  have H : ((metric_High.f a0 a3 a2).bind fun t137 => (some t137)) = some r := h
  clear h
  replace H := Option.bind_eq_some_iff.mp H
  obtain ⟨t137, A50, H⟩ := H
  replace H : (some t137) = some r := H
  have A5 := Aside0.mk A50
  clear A50
  obtain rfl := Option.some.inj H
  go_enter Try.func62, Try.ntmps62
  go_wp2_with (first | ((with_reducible refine gate_callee (f := 32) rfl ?_); refine goesL_ (some 12) rfl rfl Try.func32 (by kernel_rfl) rfl #[.int .i64 a0, .int .i64 a3, .int .i64 a2] rfl (by (try simp only [List.map_toArray, List.map_cons, List.map_nil]); first | done | rfl | (simp only [List.length_drop, List.length_take]; rfl)) ?_; (with_reducible refine (metric_High.calls a0 a3 a2 t137 _ A5.out).mono ?_); rintro e w6 ⟨rfl, hb⟩; refine ⟨_, rfl, ?_⟩; have n0_ := Aside0.mk (below_step (by repeat (first | (with_reducible first | exact HB.out | apply below_alloc | apply pw_below_drewN | apply below_drew1) | exact HB.out)) hb); clear HB; have HB := n0_; clear n0_; (try clear hb); (try clear hb2); (try clear hk); (try clear hi)))
  go_ret
  exact ⟨by first | rfl | (simp [errW_none, errW_some] <;> rfl) | (simp [*, errW_none, errW_some] <;> rfl), by repeat (first | (with_reducible first | exact HB.out | apply below_alloc | apply pw_below_drewN | apply below_drew1) | exact HB.out)⟩
end Go.Proofs.Ytoidpkpgeeeggaa.Q
end
