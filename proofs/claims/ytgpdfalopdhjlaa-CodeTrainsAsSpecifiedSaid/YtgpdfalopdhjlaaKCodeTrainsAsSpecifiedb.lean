/- A part of the proof of CodeTrainsAsSpecified: what the row's text reaches (packed by a program of this claim out of its texts). -/
import Derived.Test.YtgpdfalopdhjlaaKCodeTrainsAsSpecifieda
import Derived.Shelf.Small.Bits
import Derived.Shelf.Strconv.Itoa0
import Derived.Ground.Names2Prog
import Derived.Shelf.Slices.Clone
import Derived.Test.YtgpdfalopdhjlaaProg
import Derived.Below
import Derived.Deep.Draws
import Derived.Deep.AppendLies
import Derived.Maps.AppendAt
import Derived.OwnWalk
import Derived.Laws.BytesArg
import Derived.Laws.MakeOwn
import Derived.Laws.OwnMore
import Derived.Deep.OwnRows
import Derived.Tactics
import Derived.Lib.ConvBytes
import Derived.Laws.Slices
import Derived.WalkKit
import Derived.KernelRfl
import Derived.RowKit3
import Derived.Deep.LoopGhost
import Derived.Deep.QuietTactic
import Derived.BigQuiet
import Derived.WideLaws
import Derived.Deep.DeepCutAuto
import Derived.Deep.CutBlock
import Derived.Deep.RegionHeld3
import Derived.Laws.Rows
import Derived.Lib.AppendStr
import Derived.ArgAppend
import Derived.Laws.IdiomCopy
import Derived.OrdersHeld
import Derived.Laws.BitsLemmas
import Derived.RowKit
import Derived.IntWalk
import Derived.Lib.Hide
import Derived.Laws.EntriesVeiled
section
namespace Go.Proofs
open Go.Shelf
def Try.lays125_ren : Go.Shelf.Ren := ⟨fun | 125 => 87 | 128 => 88 | 129 => 89 | n => n, fun | 46 => 95 | 3 => 3 | 51 => 97 | 53 => 99 | 4 => 4 | 5 => 5 | 9 => 9 | n => n, fun | n => n⟩
theorem Try.lays125 : Go.Proofs.Lays.n125 Try.prog Try.lays125_ren := {
  mixed := by kernel_rfl
  f125 := Try.func87.trans (congrArg some (by kernel_rfl))
  f128 := Try.func88.trans (congrArg some (by kernel_rfl))
  f129 := Try.func89.trans (congrArg some (by kernel_rfl))
  t3 := Try.underlying3
  a3 := Try.isAgg3
  z3 := Try.sizeOf3
  v3 := Try.zeroValue3
  t4 := Try.underlying4
  a4 := Try.isAgg4
  z4 := Try.sizeOf4
  v4 := Try.zeroValue4
  t5 := Try.underlying5
  a5 := Try.isAgg5
  z5 := Try.sizeOf5
  v5 := Try.zeroValue5
  t9 := Try.underlying9
  a9 := Try.isAgg9
  z9 := Try.sizeOf9
  v9 := Try.zeroValue9
  t46 := Try.underlying95
  a46 := Try.isAgg95
  z46 := Try.sizeOf95
  v46 := Try.zeroValue95
  t51 := Try.underlying97
  a51 := Try.isAgg97
  z51 := Try.sizeOf97
  v51 := Try.zeroValue97
  t53 := Try.underlying99
  a53 := Try.isAgg99
  z53 := Try.sizeOf99
  v53 := Try.zeroValue99 }
/-- bits.Len: "Len returns the minimum number of bits required to represent x; the result is 0 for x == 0.": IT RETURNS 'Lib.bitLen x'; the world is as it was. (A uint has 64 bits in the model.) ITS CALLEE bits.Len64 IS MET BY ITS OWN CONTRACT OFF THE SHELF (lay that first). (LAID: no walk: one application.) -/
theorem Try.bits_Len (x : Int) (w : World) (h0 : 0 ≤ x) (h1 : x ≤ 18446744073709551615) :
    Calls Try.prog 87 #[.int .u64 x] w fun e w' => e = .returned (.int .i64 (Lib.bitLen x.toNat)) ∧ w' = w := Any.bits_Len Try.lays125 x w h0 h1
def Try.laysNm215_ren : Go.Shelf.Ren := ⟨fun | 15 => 60 | n => n, fun | 22 => 22 | 3 => 3 | 4 => 4 | n => n, fun | n => n⟩
theorem Try.laysNm215 : Go.Proofs.Lays2.n15 Try.prog Try.laysNm215_ren := {
  mixed := by kernel_rfl
  f15 := Try.func60.trans (congrArg some (by kernel_rfl))
  t3 := Try.underlying3
  a3 := Try.isAgg3
  z3 := Try.sizeOf3
  v3 := Try.zeroValue3
  t4 := Try.underlying4
  a4 := Try.isAgg4
  z4 := Try.sizeOf4
  v4 := Try.zeroValue4
  t22 := Try.underlying22
  a22 := Try.isAgg22
  z22 := Try.sizeOf22
  v22 := Try.zeroValue22
  i3 := by kernel_rfl }
open Go.RowKit Go.Lib in
/-- slices.Clone at []int: "Clone returns a copy of the slice. The elements are copied using assignment, so this is a shallow clone. The result may have additional unused capacity. The result preserves the nilness of s.": OF A SLICE THAT IS NOT nil IT RETURNS A SLICE THAT IS NOT nil, OF THE SAME ELEMENTS, IN MEMORY OF THE CALL's OWN: in the how-to's words (6f): 'w'.ownsRow B e 1 v' n cells': v' begins at the head of a row among the blocks from B on (B: the heap's size at the call), not frozen, whose first cells are the elements · 'Below B w w'': below B all is as it was. The capacity is whatever the run-time gives. 'zs': what the cells behind the slice's address hold; 'zs.take n': its elements. (LAID: no walk: one application.) -/
theorem Try.slices_Clone_int (b off n c : Nat) (zs : List Int) (w : World) (hz : n ≤ zs.length) (hbig : n * 8 ≤ 140737488355328) (hc : ∀ j, j < zs.length → w.cell? ⟨b, off + j, none⟩ = some (.int .i64 (zs.getD j 0))) :
    Calls Try.prog 60 #[.slice (some ⟨b, off, none⟩) n c] w fun e w' => ∃ v', e = .returned v' ∧ w'.ownsRow w.heap.size 3 1 v' n ((zs.take n).map (Value.int .i64)) ∧ v' ≠ .slice none 0 0 ∧ Below w.heap.size w w' := Any.slices_Clone_int Try.laysNm215 b off n c zs w hz hbig hc
open Go.RowKit Go.Lib in
/-- The same at nil: nil comes back; the world is as it was. (LAID: no walk: one application.) -/
theorem Try.slices_Clone_int_nil (n c : Nat) (w : World) :
    Calls Try.prog 60 #[.slice none n c] w fun e w' => e = .returned (.slice none 0 0) ∧ w' = w := Any.slices_Clone_int_nil Try.laysNm215 n c w
open Go.RowKit Go.Lib in
/-- The same at a slice of length 0 that is not nil, WHATEVER ITS ADDRESS (no cell is asked for): a slice that is not nil and owns nothing comes back. (LAID: no walk: one application.) -/
theorem Try.slices_Clone_int_zero (a : Addr) (c : Nat) (w : World) :
    Calls Try.prog 60 #[.slice (some a) 0 c] w fun e w' => ∃ v', e = .returned v' ∧ w'.ownsRow w.heap.size 3 1 v' 0 [] ∧ v' ≠ .slice none 0 0 ∧ Below w.heap.size w w' := Any.slices_Clone_int_zero Try.laysNm215 a c w
end Go.Proofs
end
section
namespace Go.Proofs.Ytgpdfalopdhjlaa.Q
open Go.RowKit Go.Proofs.YtgpdfalopdhjlaaW.PrintWords Go.Proofs.YtgpdfalopdhjlaaW.PrintLast Go.Proofs.YtgpdfalopdhjlaaW.PrintMore
attribute [local go_sem] max2_int min2_int max_two min_two max_three min_three max_four min_four   -- for this text's walks alone
set_option linter.unusedVariables false
set_option linter.unusedSimpArgs false
def errW : Option Int → Value
 | none => .nilIface
 | some c => .iface 0 (.int .i64 c)
theorem errW_none : errW none = .nilIface := rfl
theorem errW_some (c : Int) : errW (some c) = .iface 0 (.int .i64 c) := rfl
theorem info3 : (Try.prog.info? 3).map (fun i => (i.zero, i.size, i.bytes)) = some (some (.int .i64 0), 1, 8) := by kernel_rfl
theorem info22 : (Try.prog.info? 22).map (fun i => (i.zero, i.size, i.bytes)) = some (some (.slice none 0 0), 1, 24) := by kernel_rfl
theorem info39 : (Try.prog.info? 39).map (fun i => (i.zero, i.size, i.bytes)) = some (some (.slice none 0 0), 1, 24) := by kernel_rfl
-- the values' own types
def rd_L1 (xs : List (List Int)) (i : Int) : (List Int) := xs.getD i.toNat ([] : List Int)
theorem at_L1 {w : World} {A : Option Addr} {n : Nat} {xs : List (List Int)} (h : Kd.C (Kd.slice 3 (Kd.int .i64)) w A n xs) (i : Int) (h0 : 0 ≤ i) (h1 : i < n) : ∃ ad A0 c0, A = some ad ∧ w.cell? (ad.add i.toNat) = some (.slice A0 (rd_L1 xs i).length c0) ∧ (rd_L1 xs i).length ≤ c0 ∧ (Kd.int .i64).C w A0 (rd_L1 xs i).length (rd_L1 xs i) := by
 obtain ⟨ad, c, e, _, hK, hc0⟩ := Kd.C_get h ([] : List Int) i h0 h1
 have hc : ∀ j u, c[j]? = some u → w.cell? (ad.add (i.toNat * 1 + j)) = some u := hc0
 obtain ⟨A0, c0, rfl, l0, g0⟩ := hK
 exact ⟨ad, A0, c0, e, by have hq := hc 0 _ rfl; rwa [Nat.mul_one, Nat.add_zero] at hq, l0, g0⟩
def rd_L2 (xs : List (List (List Int))) (i : Int) : (List (List Int)) := xs.getD i.toNat ([] : List (List Int))
theorem at_L2 {w : World} {A : Option Addr} {n : Nat} {xs : List (List (List Int))} (h : Kd.C (Kd.slice 22 (Kd.slice 3 (Kd.int .i64))) w A n xs) (i : Int) (h0 : 0 ≤ i) (h1 : i < n) : ∃ ad A0 c0, A = some ad ∧ w.cell? (ad.add i.toNat) = some (.slice A0 (rd_L2 xs i).length c0) ∧ (rd_L2 xs i).length ≤ c0 ∧ (Kd.slice 3 (Kd.int .i64)).C w A0 (rd_L2 xs i).length (rd_L2 xs i) := by
 obtain ⟨ad, c, e, _, hK, hc0⟩ := Kd.C_get h ([] : List (List Int)) i h0 h1
 have hc : ∀ j u, c[j]? = some u → w.cell? (ad.add (i.toNat * 1 + j)) = some u := hc0
 obtain ⟨A0, c0, rfl, l0, g0⟩ := hK
 exact ⟨ad, A0, c0, e, by have hq := hc 0 _ rfl; rwa [Nat.mul_one, Nat.add_zero] at hq, l0, g0⟩
end Go.Proofs.Ytgpdfalopdhjlaa.Q
end
section
namespace Go.Proofs.Ytgpdfalopdhjlaa.Q
open Go.RowKit Go.Proofs.YtgpdfalopdhjlaaW.PrintWords Go.Proofs.YtgpdfalopdhjlaaW.PrintLast Go.Proofs.YtgpdfalopdhjlaaW.PrintMore
attribute [local go_sem] max2_int min2_int max_two min_two max_three min_three max_four min_four   -- for this text's walks alone
set_option linter.unusedVariables false
set_option linter.unusedSimpArgs false
theorem vector_norm_1.calls (n x : Int) (w : World) (hn0 : 0 ≤ n) (hn1 : n ≤ 1152921504606846976) (hx0 : -2000 ≤ x) (hx1 : x ≤ 2000) : Calls Try.prog 77 #[.int .i64 n, .int .i64 x] w fun e w' => e = .returned (.int .i64 (Plain.join 1 n (Plain.ptl 1 x))) ∧ Drawn0 w w' := by
 have e : Plain.join 1 n (Plain.ptl 1 x) = n + mx x (-x) := by unfold Plain.join Plain.ptl Plain.mag mx; rw [if_pos (.inl rfl), if_neg (by decide)]; split <;> split <;> omega
 obtain ⟨y, hy⟩ : ∃ y, mx x (-x) = y := ⟨_, rfl⟩
 have hy0 : 0 ≤ y ∧ y ≤ 2000 := by rw [← hy]; unfold mx; split <;> omega
 obtain ⟨hy1, hy2⟩ := hy0
 rw [hy] at e
 rw [e]
 clear e
 unfold mx at hy
 go_enter Try.func77, Try.ntmps77
 go_wp2
 go_ret
 exact ⟨rfl, Drawn0.refl _⟩
set_option maxHeartbeats 400000 in
set_option maxRecDepth 100000 in
theorem vector_fold_int1.calls (g : Int → Int → Int) (ok : Nat → Int → Prop) (A : Option Addr) (c : Nat) (l : List Int) (b : Int) (w : World) (hr : Kd.C (Kd.int .i64) w A l.length l) (hl : l.length ≤ 4611686018427387904)
  (h0 : ok 0 b) (hs : ∀ k acc, k < l.length → ok k acc → ok (k + 1) (g acc (rd l (k : Int))))
  (hK : ∀ (k : Nat) (acc : Int) (w : World), k < l.length → ok k acc → Calls Try.prog 77 #[.int .i64 acc, .int .i64 (rd l (k : Int))] w fun e w' => e = .returned (.int .i64 (g acc (rd l (k : Int)))) ∧ Drawn0 w w') :
  Calls Try.prog 80 #[.slice A l.length c, .int .i64 b, .func (.func 77) #[] #[]] w fun e w' => e = .returned (.int .i64 (l.foldl g b)) ∧ Drawn0 w w' := by
 have HR := Aside0.mk hr
 have HK := Aside0.mk hK
 have HS := Aside0.mk hs
 have H0 := Aside0.mk h0
 clear hr hK hs h0
 go_enter Try.func80, Try.ntmps80
 go_wp2
 go_loopw [1, 11] (fun v i wr => ∃ (k : Nat) (acc : Int), k ≤ l.length ∧ i = .int .i64 k ∧ v = .int .i64 acc ∧ Aside0 (acc = (l.take k).foldl g b) ∧ Aside0 (ok k acc) ∧ Drawn0 w wr) (fun _ i _ => l.length - (intOf i).toNat)
 case atStart => exact ⟨0, b, Nat.zero_le _, rfl, rfl, ⟨rfl⟩, H0, Drawn0.refl _⟩
 case round =>
  obtain ⟨k, acc, hk, rfl, rfl, hacc, hok, hd⟩ := hrel
  by_cases hlt : k < l.length
  ·have HC := Aside0.mk (HK.out k acc · hlt hok.out)
   have HO := Aside0.mk (HS.out k acc hlt hok.out)
   have p1 : (0 : Int) ≤ (k : Int) := by omega
   have q1 : (k : Int) < (l.length : Int) := by omega
   obtain ⟨ad, e1, hx⟩ := Kd.at_int HR.out (k : Int) p1 q1
   cases e1
   obtain ⟨n, rfl⟩ := hd.out
   clear hd
   rw [Int.toNat_natCast] at hx
   have hsn : Aside0 (g acc (rd l (k : Int)) = (l.take (k + 1)).foldl g b) := ⟨by
    rw [List.take_succ_eq_append_getElem hlt, List.foldl_append, ← hacc.out]; unfold rd; simp [hlt]⟩
   generalize rd l (k : Int) = x at *
   go_wp2_with fail
   refine (HC.out _).mono ?_
   rintro e w1 ⟨rfl, hd1⟩
   go_wp2
   go_roundw
   case rel => exact ⟨k + 1, _, by omega, by go_num, rfl, hsn, HO, ⟨by obtain ⟨m, hm⟩ := hd1.out; exact ⟨n + m, by rw [hm, World.drewN_drewN]⟩⟩⟩
   case measure => simp [intOf]; omega
  ·go_wp2
   go_ret
   exact ⟨by rw [hacc.out, List.take_of_length_le (by omega)]; rfl, hd⟩
theorem vector_norm_2.calls (n x : Int) (w : World) (hn0 : 0 ≤ n) (hn1 : n ≤ 1152921504606846976) (hx0 : -2000 ≤ x) (hx1 : x ≤ 2000) : Calls Try.prog 78 #[.int .i64 n, .int .i64 x] w fun e w' => e = .returned (.int .i64 (Plain.join 2 n (Plain.ptl 2 x))) ∧ Drawn0 w w' := by
 have e : Plain.join 2 n (Plain.ptl 2 x) = n + x * x := by unfold Plain.join Plain.ptl; rw [if_pos (.inr rfl), if_pos rfl]
 have hy1 := Plain.sq_nonneg x
 have hy2 := Plain.ptl_le 2 ⟨hx0, hx1⟩
 rw [show Plain.ptl 2 x = x * x by unfold Plain.ptl; rw [if_pos rfl]] at hy2
 rw [e]
 clear e
 go_enter Try.func78, Try.ntmps78
 go_wp2
 go_ret
 exact ⟨rfl, Drawn0.refl _⟩
set_option maxHeartbeats 400000 in
set_option maxRecDepth 100000 in
theorem vector_fold_int2.calls (g : Int → Int → Int) (ok : Nat → Int → Prop) (A : Option Addr) (c : Nat) (l : List Int) (b : Int) (w : World) (hr : Kd.C (Kd.int .i64) w A l.length l) (hl : l.length ≤ 4611686018427387904)
  (h0 : ok 0 b) (hs : ∀ k acc, k < l.length → ok k acc → ok (k + 1) (g acc (rd l (k : Int))))
  (hK : ∀ (k : Nat) (acc : Int) (w : World), k < l.length → ok k acc → Calls Try.prog 78 #[.int .i64 acc, .int .i64 (rd l (k : Int))] w fun e w' => e = .returned (.int .i64 (g acc (rd l (k : Int)))) ∧ Drawn0 w w') :
  Calls Try.prog 80 #[.slice A l.length c, .int .i64 b, .func (.func 78) #[] #[]] w fun e w' => e = .returned (.int .i64 (l.foldl g b)) ∧ Drawn0 w w' := by
 have HR := Aside0.mk hr
 have HK := Aside0.mk hK
 have HS := Aside0.mk hs
 have H0 := Aside0.mk h0
 clear hr hK hs h0
 go_enter Try.func80, Try.ntmps80
 go_wp2
 go_loopw [1, 11] (fun v i wr => ∃ (k : Nat) (acc : Int), k ≤ l.length ∧ i = .int .i64 k ∧ v = .int .i64 acc ∧ Aside0 (acc = (l.take k).foldl g b) ∧ Aside0 (ok k acc) ∧ Drawn0 w wr) (fun _ i _ => l.length - (intOf i).toNat)
 case atStart => exact ⟨0, b, Nat.zero_le _, rfl, rfl, ⟨rfl⟩, H0, Drawn0.refl _⟩
 case round =>
  obtain ⟨k, acc, hk, rfl, rfl, hacc, hok, hd⟩ := hrel
  by_cases hlt : k < l.length
  ·have HC := Aside0.mk (HK.out k acc · hlt hok.out)
   have HO := Aside0.mk (HS.out k acc hlt hok.out)
   have p1 : (0 : Int) ≤ (k : Int) := by omega
   have q1 : (k : Int) < (l.length : Int) := by omega
   obtain ⟨ad, e1, hx⟩ := Kd.at_int HR.out (k : Int) p1 q1
   cases e1
   obtain ⟨n, rfl⟩ := hd.out
   clear hd
   rw [Int.toNat_natCast] at hx
   have hsn : Aside0 (g acc (rd l (k : Int)) = (l.take (k + 1)).foldl g b) := ⟨by
    rw [List.take_succ_eq_append_getElem hlt, List.foldl_append, ← hacc.out]; unfold rd; simp [hlt]⟩
   generalize rd l (k : Int) = x at *
   go_wp2_with fail
   refine (HC.out _).mono ?_
   rintro e w1 ⟨rfl, hd1⟩
   go_wp2
   go_roundw
   case rel => exact ⟨k + 1, _, by omega, by go_num, rfl, hsn, HO, ⟨by obtain ⟨m, hm⟩ := hd1.out; exact ⟨n + m, by rw [hm, World.drewN_drewN]⟩⟩⟩
   case measure => simp [intOf]; omega
  ·go_wp2
   go_ret
   exact ⟨by rw [hacc.out, List.take_of_length_le (by omega)]; rfl, hd⟩
theorem vector_norm_3.calls (n x : Int) (w : World) (hn0 : 0 ≤ n) (hn1 : n ≤ 1152921504606846976) (hx0 : -2000 ≤ x) (hx1 : x ≤ 2000) : Calls Try.prog 79 #[.int .i64 n, .int .i64 x] w fun e w' => e = .returned (.int .i64 (Plain.join 3 n (Plain.ptl 3 x))) ∧ Drawn0 w w' := by
 have e : Plain.join 3 n (Plain.ptl 3 x) = mx (mx n x) (-x) := by unfold Plain.join Plain.ptl Plain.mag mx; simp only [if_neg (show ¬ ((3 : Int) = 1 ∨ (3 : Int) = 2) by decide), if_neg (show ¬ (3 : Int) = 2 by decide)]; split <;> split <;> (try split) <;> (try split) <;> omega
 obtain ⟨y, hy⟩ : ∃ y, mx n x = y := ⟨_, rfl⟩
 obtain ⟨z, hz⟩ : ∃ z, mx y (-x) = z := ⟨_, rfl⟩
 rw [hy, hz] at e
 rw [e]
 clear e
 unfold mx at hy hz
 go_enter Try.func79, Try.ntmps79
 go_wp2
 go_ret
 exact ⟨rfl, Drawn0.refl _⟩
set_option maxHeartbeats 400000 in
set_option maxRecDepth 100000 in
theorem vector_fold_int3.calls (g : Int → Int → Int) (ok : Nat → Int → Prop) (A : Option Addr) (c : Nat) (l : List Int) (b : Int) (w : World) (hr : Kd.C (Kd.int .i64) w A l.length l) (hl : l.length ≤ 4611686018427387904)
  (h0 : ok 0 b) (hs : ∀ k acc, k < l.length → ok k acc → ok (k + 1) (g acc (rd l (k : Int))))
  (hK : ∀ (k : Nat) (acc : Int) (w : World), k < l.length → ok k acc → Calls Try.prog 79 #[.int .i64 acc, .int .i64 (rd l (k : Int))] w fun e w' => e = .returned (.int .i64 (g acc (rd l (k : Int)))) ∧ Drawn0 w w') :
  Calls Try.prog 80 #[.slice A l.length c, .int .i64 b, .func (.func 79) #[] #[]] w fun e w' => e = .returned (.int .i64 (l.foldl g b)) ∧ Drawn0 w w' := by
 have HR := Aside0.mk hr
 have HK := Aside0.mk hK
 have HS := Aside0.mk hs
 have H0 := Aside0.mk h0
 clear hr hK hs h0
 go_enter Try.func80, Try.ntmps80
 go_wp2
 go_loopw [1, 11] (fun v i wr => ∃ (k : Nat) (acc : Int), k ≤ l.length ∧ i = .int .i64 k ∧ v = .int .i64 acc ∧ Aside0 (acc = (l.take k).foldl g b) ∧ Aside0 (ok k acc) ∧ Drawn0 w wr) (fun _ i _ => l.length - (intOf i).toNat)
 case atStart => exact ⟨0, b, Nat.zero_le _, rfl, rfl, ⟨rfl⟩, H0, Drawn0.refl _⟩
 case round =>
  obtain ⟨k, acc, hk, rfl, rfl, hacc, hok, hd⟩ := hrel
  by_cases hlt : k < l.length
  ·have HC := Aside0.mk (HK.out k acc · hlt hok.out)
   have HO := Aside0.mk (HS.out k acc hlt hok.out)
   have p1 : (0 : Int) ≤ (k : Int) := by omega
   have q1 : (k : Int) < (l.length : Int) := by omega
   obtain ⟨ad, e1, hx⟩ := Kd.at_int HR.out (k : Int) p1 q1
   cases e1
   obtain ⟨n, rfl⟩ := hd.out
   clear hd
   rw [Int.toNat_natCast] at hx
   have hsn : Aside0 (g acc (rd l (k : Int)) = (l.take (k + 1)).foldl g b) := ⟨by
    rw [List.take_succ_eq_append_getElem hlt, List.foldl_append, ← hacc.out]; unfold rd; simp [hlt]⟩
   generalize rd l (k : Int) = x at *
   go_wp2_with fail
   refine (HC.out _).mono ?_
   rintro e w1 ⟨rfl, hd1⟩
   go_wp2
   go_roundw
   case rel => exact ⟨k + 1, _, by omega, by go_num, rfl, hsn, HO, ⟨by obtain ⟨m, hm⟩ := hd1.out; exact ⟨n + m, by rw [hm, World.drewN_drewN]⟩⟩⟩
   case measure => simp [intOf]; omega
  ·go_wp2
   go_ret
   exact ⟨by rw [hacc.out, List.take_of_length_le (by omega)]; rfl, hd⟩
theorem vector_at (l : List Int) (k : Nat) (hv : ∀ x ∈ l, -2000 ≤ x ∧ x ≤ 2000) (hk : k < l.length) : -2000 ≤ rd l (k : Int) ∧ rd l (k : Int) ≤ 2000 := by
 have : rd l (k : Int) = l[k] := by unfold rd; simp [hk]
 rw [this]
 exact hv _ (List.getElem_mem hk)
theorem vector_bound (m : Int) (l : List Int) (k : Nat) (acc : Int) (hv : ∀ x ∈ l, -2000 ≤ x ∧ x ≤ 2000) (hk : k < l.length) (h : 0 ≤ acc ∧ acc ≤ 4000000 * k) : 0 ≤ Plain.join m acc (Plain.ptl m (rd l (k : Int))) ∧ Plain.join m acc (Plain.ptl m (rd l (k : Int))) ≤ 4000000 * ((k + 1 : Nat) : Int) := by
 have h1 := Plain.ptl_nonneg m (rd l (k : Int))
 have h2 := Plain.ptl_le m (vector_at l k hv hk)
 have h3 := Plain.join_nonneg m h.1 h1
 have h4 := Plain.join_le_add m h.1 h1
 omega
theorem vector_foldl (m : Int) (l : List Int) : ∀ a : Int, 0 ≤ a → l.foldl (fun n x => Plain.join m n (Plain.ptl m x)) a = Plain.join m a (Plain.norm m l) := by
 induction l with
 | nil => intro a h; exact (Plain.join_zero m h).symm
 | cons x l ih =>
  intro a h
  rw [List.foldl_cons, ih _ (Plain.join_nonneg m h (Plain.ptl_nonneg m x)), Plain.join_assoc]
  rfl
theorem vector_ins1 (w : World) : (Instr.mapUpdate 75 (.map (some w.heap.size)) (.int .i64 1) (.func (.func 77) #[] #[])).run Try.prog (w.alloc (.map #[] 0)) = .ok () (w.alloc (.map #[{ key := .int .i64 1, val := .func (.func 77) #[] #[], born := 0 }] 1)) :=
 Plain.run_insert_last w _ _ _ _ _ _ _ Try.underlying75 Try.underlying3 (by rfl)
theorem vector_ins2 (w : World) : (Instr.mapUpdate 75 (.map (some w.heap.size)) (.int .i64 2) (.func (.func 78) #[] #[])).run Try.prog (w.alloc (.map #[{ key := .int .i64 1, val := .func (.func 77) #[] #[], born := 0 }] 1)) = .ok () (w.alloc (.map #[{ key := .int .i64 1, val := .func (.func 77) #[] #[], born := 0 }, { key := .int .i64 2, val := .func (.func 78) #[] #[], born := 1 }] 2)) :=
 Plain.run_insert_last w _ _ _ _ _ _ _ Try.underlying75 Try.underlying3 (by rfl)
theorem vector_ins3 (w : World) : (Instr.mapUpdate 75 (.map (some w.heap.size)) (.int .i64 3) (.func (.func 79) #[] #[])).run Try.prog (w.alloc (.map #[{ key := .int .i64 1, val := .func (.func 77) #[] #[], born := 0 }, { key := .int .i64 2, val := .func (.func 78) #[] #[], born := 1 }] 2)) = .ok () (w.alloc (.map #[{ key := .int .i64 1, val := .func (.func 77) #[] #[], born := 0 }, { key := .int .i64 2, val := .func (.func 78) #[] #[], born := 1 }, { key := .int .i64 3, val := .func (.func 79) #[] #[], born := 2 }] 3)) :=
 Plain.run_insert_last w _ _ _ _ _ _ _ Try.underlying75 Try.underlying3 (by rfl)
theorem vector_look1 (w : World) : (Instr.lookup 75 (.map (some w.heap.size)) (.int .i64 1) false).run Try.prog (w.alloc (.map #[{ key := .int .i64 1, val := .func (.func 77) #[] #[], born := 0 }, { key := .int .i64 2, val := .func (.func 78) #[] #[], born := 1 }, { key := .int .i64 3, val := .func (.func 79) #[] #[], born := 2 }] 3)) = .ok (.func (.func 77) #[] #[]) (w.alloc (.map #[{ key := .int .i64 1, val := .func (.func 77) #[] #[], born := 0 }, { key := .int .i64 2, val := .func (.func 78) #[] #[], born := 1 }, { key := .int .i64 3, val := .func (.func 79) #[] #[], born := 2 }] 3)) :=
 Plain.run_lookup_last w _ _ _ _ _ _ _ Try.underlying75 Try.underlying3 (by rfl)
theorem vector_look2 (w : World) : (Instr.lookup 75 (.map (some w.heap.size)) (.int .i64 2) false).run Try.prog (w.alloc (.map #[{ key := .int .i64 1, val := .func (.func 77) #[] #[], born := 0 }, { key := .int .i64 2, val := .func (.func 78) #[] #[], born := 1 }, { key := .int .i64 3, val := .func (.func 79) #[] #[], born := 2 }] 3)) = .ok (.func (.func 78) #[] #[]) (w.alloc (.map #[{ key := .int .i64 1, val := .func (.func 77) #[] #[], born := 0 }, { key := .int .i64 2, val := .func (.func 78) #[] #[], born := 1 }, { key := .int .i64 3, val := .func (.func 79) #[] #[], born := 2 }] 3)) :=
 Plain.run_lookup_last w _ _ _ _ _ _ _ Try.underlying75 Try.underlying3 (by rfl)
theorem vector_look3 (w : World) : (Instr.lookup 75 (.map (some w.heap.size)) (.int .i64 3) false).run Try.prog (w.alloc (.map #[{ key := .int .i64 1, val := .func (.func 77) #[] #[], born := 0 }, { key := .int .i64 2, val := .func (.func 78) #[] #[], born := 1 }, { key := .int .i64 3, val := .func (.func 79) #[] #[], born := 2 }] 3)) = .ok (.func (.func 79) #[] #[]) (w.alloc (.map #[{ key := .int .i64 1, val := .func (.func 77) #[] #[], born := 0 }, { key := .int .i64 2, val := .func (.func 78) #[] #[], born := 1 }, { key := .int .i64 3, val := .func (.func 79) #[] #[], born := 2 }] 3)) :=
 Plain.run_lookup_last w _ _ _ _ _ _ _ Try.underlying75 Try.underlying3 (by rfl)
def vector_Norm.f (a0 : Int) (l1 : List Int) : Option Int := if (1 ≤ a0 ∧ a0 ≤ 3) ∧ (∀ x ∈ l1, -2000 ≤ x ∧ x ≤ 2000) ∧ l1.length ≤ 1000000 then some (Plain.norm a0 l1) else none
set_option maxHeartbeats 400000 in
theorem vector_Norm.calls (a0 : Int) (A1 : Option Addr) (c1 : Nat) (l1 : List Int) (r : Int) (w : World) (hr1 : Kd.C (Kd.int .i64) w A1 l1.length l1) (hc1 : l1.length ≤ c1) (h : vector_Norm.f a0 l1 = some r) :
  Calls Try.prog 71 #[.int .i64 a0, .slice A1 l1.length c1] w fun e w' => e = .returned (.int .i64 r) ∧ Below w.heap.size w w' := by
 unfold vector_Norm.f at h
 by_cases hk : (1 ≤ a0 ∧ a0 ≤ 3) ∧ (∀ x ∈ l1, -2000 ≤ x ∧ x ≤ 2000) ∧ l1.length ≤ 1000000
 ·rw [if_pos hk] at h
  obtain rfl := Option.some.inj h
  obtain ⟨⟨hm0, hm1⟩, hv, hl⟩ := hk
  clear h hc1
  rcases (show a0 = 1 ∨ a0 = 2 ∨ a0 = 3 by omega) with hm | hm | hm <;> clear hm0 hm1
  ·subst hm
   have HF := Aside0.mk (fun W hW => vector_fold_int1.calls (fun n x => Plain.join 1 n (Plain.ptl 1 x)) (fun k acc => 0 ≤ acc ∧ acc ≤ 4000000 * k) A1 c1 l1 0 W hW (by omega) ⟨by omega, by omega⟩ (fun k acc hk h => vector_bound 1 l1 k acc hv hk h)
    (fun k acc w hk h => vector_norm_1.calls acc _ w h.1 (by omega) (vector_at l1 k hv hk).1 (vector_at l1 k hv hk).2))
   have HR := Aside0.mk hr1
   clear hr1 hv
   rw [vector_foldl 1 l1 0 (by omega)] at HF
   have hm1 : ∀ W, (Instr.makeMap 75 none).run Try.prog W = .ok (.map (some W.heap.size)) (W.alloc (.map #[] 0)) := fun W => run_makeMap _ W
   have hm2 := vector_ins1
   have hm3 := vector_ins2
   have hm4 := vector_ins3
   have hm5 := vector_look1
   go_enter Try.func71, Try.ntmps71
   go_wp2_with fail
   refine (HF.out _ (Kd.C_alloc HR.out _)).mono ?_
   rintro e w1 ⟨rfl, hd⟩
   go_wp2
   go_ret
   exact ⟨by rw [Plain.zero_join 1 (Plain.norm_nonneg 1 l1)]; rfl, below_step (below_alloc (Below.refl _ _) _) hd.below⟩
  ·subst hm
   have HF := Aside0.mk (fun W hW => vector_fold_int2.calls (fun n x => Plain.join 2 n (Plain.ptl 2 x)) (fun k acc => 0 ≤ acc ∧ acc ≤ 4000000 * k) A1 c1 l1 0 W hW (by omega) ⟨by omega, by omega⟩ (fun k acc hk h => vector_bound 2 l1 k acc hv hk h)
    (fun k acc w hk h => vector_norm_2.calls acc _ w h.1 (by omega) (vector_at l1 k hv hk).1 (vector_at l1 k hv hk).2))
   have HR := Aside0.mk hr1
   clear hr1 hv
   rw [vector_foldl 2 l1 0 (by omega)] at HF
   have hm1 : ∀ W, (Instr.makeMap 75 none).run Try.prog W = .ok (.map (some W.heap.size)) (W.alloc (.map #[] 0)) := fun W => run_makeMap _ W
   have hm2 := vector_ins1
   have hm3 := vector_ins2
   have hm4 := vector_ins3
   have hm5 := vector_look2
   go_enter Try.func71, Try.ntmps71
   go_wp2_with fail
   refine (HF.out _ (Kd.C_alloc HR.out _)).mono ?_
   rintro e w1 ⟨rfl, hd⟩
   go_wp2
   go_ret
   exact ⟨by rw [Plain.zero_join 2 (Plain.norm_nonneg 2 l1)]; rfl, below_step (below_alloc (Below.refl _ _) _) hd.below⟩
  ·subst hm
   have HF := Aside0.mk (fun W hW => vector_fold_int3.calls (fun n x => Plain.join 3 n (Plain.ptl 3 x)) (fun k acc => 0 ≤ acc ∧ acc ≤ 4000000 * k) A1 c1 l1 0 W hW (by omega) ⟨by omega, by omega⟩ (fun k acc hk h => vector_bound 3 l1 k acc hv hk h)
    (fun k acc w hk h => vector_norm_3.calls acc _ w h.1 (by omega) (vector_at l1 k hv hk).1 (vector_at l1 k hv hk).2))
   have HR := Aside0.mk hr1
   clear hr1 hv
   rw [vector_foldl 3 l1 0 (by omega)] at HF
   have hm1 : ∀ W, (Instr.makeMap 75 none).run Try.prog W = .ok (.map (some W.heap.size)) (W.alloc (.map #[] 0)) := fun W => run_makeMap _ W
   have hm2 := vector_ins1
   have hm3 := vector_ins2
   have hm4 := vector_ins3
   have hm5 := vector_look3
   go_enter Try.func71, Try.ntmps71
   go_wp2_with fail
   refine (HF.out _ (Kd.C_alloc HR.out _)).mono ?_
   rintro e w1 ⟨rfl, hd⟩
   go_wp2
   go_ret
   exact ⟨by rw [Plain.zero_join 3 (Plain.norm_nonneg 3 l1)]; rfl, below_step (below_alloc (Below.refl _ _) _) hd.below⟩
 ·rw [if_neg hk] at h; cases h
def slices_Clone_int_int.f (l0 : List Int) : Option (List Int) := if l0.length * 8 ≤ 140737488355328 then some l0 else none
/-- a row that is read begins at a plain address, if it is not empty -/
theorem reads_plain {w : World} {A : Option Addr} {l : List Int} (h : Kd.C (Kd.int .i64) w A l.length l) (h0 : 0 < l.length) :
  ∃ b off, A = some ⟨b, off, none⟩ ∧ ∀ j, j < l.length → w.cell? ⟨b, off + j, none⟩ = some (.int .i64 (l.getD j 0)) := by
 obtain ⟨ad, rfl, hx⟩ := Kd.at_int h 0 (by omega) (by omega)
 obtain ⟨b, off, spot⟩ := ad
 have hs : spot = none := by
  cases spot with
  | none => rfl
  | some s =>
   simp [Addr.add, World.cell?] at hx
   split at hx <;> simp at hx
 subst hs
 refine ⟨b, off, rfl, fun j hj => ?_⟩
 obtain ⟨ad2, e, hx2⟩ := Kd.at_int h (j : Int) (by omega) (by omega)
 cases e
 have e : (⟨b, off, none⟩ : Addr).add ((j : Int).toNat) = ⟨b, off + j, none⟩ := by unfold Addr.add; split <;> simp_all
 rw [e] at hx2
 simpa [rd] using hx2
theorem slices_Clone_int_int.calls (A0 : Option Addr) (c0 : Nat) (l0 : List Int) (r : List Int) (w : World) (hr0 : Kd.C (Kd.int .i64) w A0 l0.length l0) (hc0 : l0.length ≤ c0) (h : slices_Clone_int_int.f l0 = some r) :
  Calls Try.prog 60 #[.slice A0 l0.length c0] w fun e w' => ∃ v0_ : Value, e = .returned (v0_) ∧ Kd.R (Kd.int .i64) 3 w' w.heap.size (fun _ => True) v0_ r ∧ Below w.heap.size w w' := by
 unfold slices_Clone_int_int.f at h
 split at h
 ·rename_i hb
  obtain rfl := Option.some.inj h
  rcases Nat.eq_zero_or_pos l0.length with h0 | h0
  ·obtain rfl := List.eq_nil_of_length_eq_zero h0
   cases A0 with
   | none =>
    refine (Go.Proofs.Try.slices_Clone_int_nil _ _ w).mono ?_
    rintro e w' ⟨rfl, rfl⟩
    exact ⟨_, rfl, Kd.R_nil _ _ _ _ _, Below.refl _ _⟩
   | some ad =>
    refine (Go.Proofs.Try.slices_Clone_int_zero ad _ w).mono ?_
    rintro e w' ⟨v, rfl, ho, _, hb⟩
    exact ⟨_, rfl, Kd.R_of_own ho (fun _ _ => trivial), hb⟩
  ·obtain ⟨b, off, rfl, hc⟩ := reads_plain hr0 h0
   refine (Go.Proofs.Try.slices_Clone_int b off _ _ l0 w (Nat.le_refl _) hb hc).mono ?_
   rintro e w' ⟨v, rfl, ho, _, hb⟩
   rw [List.take_length] at ho
   exact ⟨_, rfl, Kd.R_of_own ho (fun _ _ => trivial), hb⟩
 ·cases h
def vector_Sub.l0 : Nat → List Int → List Int → Int → Int → Option (List Int)
 | 0, _, _, _, _ => none
 | k + 1, x1, x5, x10, x11 => if x11 < x10 then (if 0 ≤ x11 then (if x11 < (x5.length : Int) then (if x11 < (x1.length : Int) then (vector_Sub.l0 k x1 (x5.set (x11 : Int).toNat (wrap64 ((rd x5 x11) - (rd x1 x11)))) x10 (wrap64 (x11 + 1))) else (none)) else (none)) else (none)) else (some x5)
def vector_Sub.f (k : Nat) (l0 : List Int) (l1 : List Int) : Option (List Int) := (slices_Clone_int_int.f l0).bind fun t109 => (vector_Sub.l0 k l1 t109 (t109.length : Int) 0)
def vector_Sub.T5 : Bool × List (List Nat × List Nat) := (true, [([], []), ([], []), ([0, 1], [0, 1]), ([2], [2]), ([], []), ([], []), ([4, 5], [4, 5]), ([6], [6]), ([3, 7], [3, 7]), ([0, 1, 0, 1, 2, 3, 4, 5, 6, 7, 8], [0, 1]), ([9, 8, 0, 1, 2, 3, 4, 5, 6, 7, 8], [8, 9])])
def vector_Sub.B5 : List Nat := [0, 0, 3, 7, 0, 0, 48, 112, 255, 511, 1023]
theorem vector_Sub.tab5 : rtab .any (opsOf Try.f72 5) = vector_Sub.T5 := by kernel_rfl
theorem vector_Sub.bits5 : waitsOk vector_Sub.T5.2 vector_Sub.B5 = true := by kernel_rfl
set_option maxHeartbeats 8000000 in
set_option maxRecDepth 100000 in
theorem vector_Sub.calls (k : Nat) (A0 : Option Addr) (c0 : Nat) (l0 : List Int) (A1 : Option Addr) (c1 : Nat) (l1 : List Int) (r : List Int) (w : World) (hr0 : Kd.C (Kd.int .i64) w A0 l0.length l0) (hc0 : l0.length ≤ c0) (hr1 : Kd.C (Kd.int .i64) w A1 l1.length l1) (hc1 : l1.length ≤ c1) (h : vector_Sub.f k l0 l1 = some r) :
  Calls Try.prog 72 #[.slice A0 l0.length c0, .slice A1 l1.length c1] w fun e w' => ∃ v0_ : Value, e = .returned (v0_) ∧ Kd.R (Kd.int .i64) 3 w' w.heap.size (fun _ => True) v0_ r ∧ Below w.heap.size w w' := by
 have HR0 := Aside0.mk hr0
 have HC0 := Aside0.mk hc0
 clear hr0 hc0
 have HR1 := Aside0.mk hr1
 have HC1 := Aside0.mk hc1
 clear hr1 hc1
 have HB := Aside0.mk (Below.refl w.heap.size w)
 have H : ((slices_Clone_int_int.f l0).bind fun t109 => (vector_Sub.l0 k l1 t109 (t109.length : Int) 0)) = some r := h
 clear h
 replace H := Option.bind_eq_some_iff.mp H
 obtain ⟨t109, A30, H⟩ := H
 replace H : (vector_Sub.l0 k l1 t109 (t109.length : Int) 0) = some r := H
 have A3 := Aside0.mk A30
 clear A30
 have H' := Aside0.mk H
 clear H
 go_enter Try.func72, Try.ntmps72
 go_wp2_with (first | ((with_reducible refine gate_callee (f := 60) rfl ?_); refine goesL_ (some 8) rfl rfl Try.func60 (by kernel_rfl) rfl #[.slice A0 l0.length c0] rfl (by (try simp only [List.map_toArray, List.map_cons, List.map_nil]); first | done | rfl | (simp only [List.length_drop, List.length_take]; rfl)) ?_; (with_reducible refine (slices_Clone_int_int.calls _ _ l0 t109 _ ?side1 ?side2 A3.out).mono ?_); (case side1 => repeat (first | exact HR0.out | (with_reducible refine Kd.C_alloc ?_ _) | (with_reducible refine Kd.C_drewN ?_ _) | (with_reducible refine Kd.C_drew ?_))); (case side2 => exact HC0.out); rintro e w4 ⟨v110, rfl, ho0, hb⟩; refine ⟨_, rfl, ?_⟩; have n0_ := Aside0.mk (Kd.R_lower ho0 (below_size (by repeat (first | (with_reducible first | exact HB.out | apply below_alloc | apply pw_below_drewN | apply below_drew1) | exact HB.out)))); have n1_ := Aside0.mk (below_step (by repeat (first | (with_reducible first | exact HB.out | apply below_alloc | apply pw_below_drewN | apply below_drew1) | exact HB.out)) hb); clear HB; have HO111 := n0_; have HB := n1_; clear n0_ n1_; (try clear hb); (try clear hb2); (try clear hk); (try clear hi); (try clear ho0); obtain ⟨Ao5, co5, eo5⟩ := Kd.R_slice HO111.out; subst eo5))
 go_loopg [11] k (fun kq v11 w' => ∃ (x5_1 : List Int) (x11_1 : Int), v11 = .int .i64 x11_1 ∧ Aside0 (vector_Sub.l0 kq l1 x5_1 (t109.length : Int) x11_1 = some r) ∧ Aside0 (kq ≤ k) ∧ Aside0 (Kd.R (Kd.int .i64) 3 w' w.heap.size (fun _ => True) (.slice Ao5 t109.length co5) x5_1) ∧ Aside0 (Below w.heap.size w w'))
 case atStart => exact ⟨(t109), (0), (by first | rfl | (simp; done) | (simp [*]; done)), H', ⟨Nat.le_refl _⟩, ⟨by (with_reducible repeat (first | apply Kd.R_alloc | apply Kd.R_drewN | apply Kd.R_drew)); exact HO111.out⟩, ⟨by repeat (first | (with_reducible first | exact HB.out | apply below_alloc | apply pw_below_drewN | apply below_drew1) | exact HB.out)⟩⟩
 case round =>
  clear H'
  try clear c1
  try clear p2
  obtain ⟨x5_1, x11_1, rfl, HA, HK1, HO_5, HB⟩ := hrel
  have hl5_1 := (Kd.R_reads' HO_5.out).1
  rw [hl5_1] at HO_5
  (try simp only [hl5_1])
  cases gk with
  | zero => exact absurd HA.out (by simp [vector_Sub.l0])
  | succ k1 =>
   have H := HA.out
   clear HA
   simp only [vector_Sub.l0] at H
   by_cases c6 : x11_1 < (t109.length : Int)
   ·rw [if_pos c6] at H
    have c6b0 : decide (x11_1 < (t109.length : Int)) = true := decide_eq_true c6
    clear c6
    (try simp only [hl5_1] at c6b0)
    by_cases c7 : 0 ≤ x11_1
    ·rw [if_pos c7] at H
     have c7b0 : decide (0 ≤ x11_1) = true := decide_eq_true c7
     clear c7
     by_cases c8 : x11_1 < (x5_1.length : Int)
     ·rw [if_pos c8] at H
      have c8b0 : decide (x11_1 < (x5_1.length : Int)) = true := decide_eq_true c8
      clear c8
      by_cases c9 : x11_1 < (l1.length : Int)
      ·rw [if_pos c9] at H
       have c9b0 : decide (x11_1 < (l1.length : Int)) = true := decide_eq_true c9
       clear c9
       obtain ⟨y114, hy114⟩ : ∃ y_ : List Int, y_ = (x5_1.set (x11_1 : Int).toNat (wrap64 ((rd x5_1 x11_1) - (rd l1 x11_1)))) := ⟨_, rfl⟩
       replace H : (vector_Sub.l0 k1 l1 y114 (t109.length : Int) (wrap64 (x11_1 + 1))) = some r := by first | (rw [hy114]; with_reducible exact H) | (have H2_ := (Option.bind_some _ _).symm.trans H; rw [hy114]; with_reducible exact H2_) | (have H2_ := (Option.bind_some _ _).symm.trans H; with_reducible exact H2_) | with_reducible exact H | (rw [hy114]; exact H) | exact H
       have Ny114 := Aside0.mk hy114
       clear hy114
       have H' := Aside0.mk H
       clear H
       try go_wp2
       have n0_ := Aside0.mk (Kd.R_drew HO_5.out)
       have n1_ := Aside0.mk (below_drew1 HB.out)
       clear HO_5
       clear HB
       have HO_5 := n0_
       have HB := n1_
       clear n0_ n1_
       have p112 : 0 ≤ (x11_1 : Int) := of_decide_eq_true (by first | (with_reducible assumption) | assumption)
       have q112 : x11_1 < (x5_1.length : Int) := of_decide_eq_true (by first | (with_reducible assumption) | assumption)
       obtain ⟨ad112, e112, hx112_0⟩ := Kd.at_int (Kd.R_reads' HO_5.out).2.2 x11_1 p112 q112
       cases e112
       replace p112 := eq_true p112
       replace q112 := eq_true q112
       have p113 : 0 ≤ (x11_1 : Int) := of_decide_eq_true (by first | (with_reducible assumption) | assumption)
       have q113 : x11_1 < (l1.length : Int) := of_decide_eq_true (by first | (with_reducible assumption) | assumption)
       obtain ⟨ad113, e113, hx113_0⟩ := Kd.at_int HR1.out x11_1 p113 q113
       have hw113_0 := hx113_0
       cases e113
       replace hx113_0 := (HB.out.cell (World.block_lt_of_cell? w _ hx113_0)).trans hx113_0
       replace p113 := eq_true p113
       replace q113 := eq_true q113
       have p10 : 0 ≤ (x11_1 : Int) := of_decide_eq_true (by first | (with_reducible assumption) | assumption)
       have q10 : (x11_1 : Int) < ((x5_1.length : Int) : Int) := of_decide_eq_true (by first | (with_reducible assumption) | assumption)
       obtain ⟨go10, co10, eo10, gb10, gl10, cl10, HG10⟩ := Kd.R_form HO_5.out (by omega)
       (first | cases eo10 | (injection eo10 with ea_ en_ ec_; (first | subst ea_ | (injection ea_ with ea_; subst ea_)); subst ec_; clear en_))
       have GB10 := Aside0.mk gb10
       have GG10 := Aside0.mk HG10
       clear gb10 gl10 HG10
       (first | simp only [add_plain] at hx112_0 | skip)
       obtain ⟨hx10_0, hf10_0⟩ := Kd.R_celln 0 HO_5.out (x11_1 : Int) p10 q10
       replace p10 := eq_true p10
       replace q10 := eq_true q10
       have HP12 := Kd.R_putn HO_5.out (x11_1 : Int) (wrap64 ((rd x5_1 x11_1) - (rd l1 x11_1)))
       rw [← Ny114.out] at HP12
       have HQ12 := Aside0.mk HP12
       clear HP12
       refine start_ (n := 11) (S := fun w' => w'.cell? ⟨go10, (x11_1).toNat, none⟩ = some (.int .i64 (rd x5_1 x11_1)) ∧ w'.cell? (ad113.add (x11_1).toNat) = some (.int .i64 (rd l1 x11_1))) (ds := [10]) #[false, false, false, false, false, false, false, false, false, false, false] (by kernel_rfl) rfl rfl ⟨hx112_0, ((HB.out.cell (World.block_lt_of_cell? w _ hw113_0)).trans hw113_0)⟩ (fun hHeld => ?_); refine with_tabW vector_Sub.tab5 vector_Sub.bits5 (fun HT_ HW_ => ?_)
       generalize wr.drew = w11 at HO_5 HB GG10 HQ12 hf10_0 hx10_0 hx112_0 hx113_0 hHeld ⊢
       refine pure_ (i := 0) (N := some 14) (v := ?_) (a' := ?_) #[true, false, false, false, false, false, false, false, false, false, false] rfl rfl (any_of HT_.out (by kernel_rfl)) (fun _ _ _ h => h) (Or.inl ⟨by rfl, ?_⟩) ?_ ?_
       rotate_left
       ·intro w'
        go_simp
        with_reducible rfl
       rotate_left
       ·simp only [Act.put, List.setIfInBounds_toArray, List.set_cons_zero, List.set_cons_succ, i64_w, i32_w]
        rfl
       refine pure_ (i := 1) (N := some 15) (v := ?_) (a' := ?_) #[true, true, false, false, false, false, false, false, false, false, false] rfl rfl (any_of HT_.out (by kernel_rfl)) (fun _ _ _ h => h) (Or.inl ⟨by rfl, ?_⟩) ?_ ?_
       rotate_left
       ·intro w'
        go_simp
        with_reducible rfl
       rotate_left
       ·simp only [Act.put, List.setIfInBounds_toArray, List.set_cons_zero, List.set_cons_succ, i64_w, i32_w]
        rfl
       refine pure_ (i := 2) (N := some 16) (v := ?_) (a' := ?_) #[true, true, true, false, false, false, false, false, false, false, false] rfl rfl (any_of HT_.out (by kernel_rfl)) (fun _ _ _ h => h) (Or.inl ⟨by rfl, ?_⟩) ?_ ?_
       rotate_left
       ·intro w'
        go_simp
        with_reducible rfl
       rotate_left
       ·simp only [Act.put, List.setIfInBounds_toArray, List.set_cons_zero, List.set_cons_succ, i64_w, i32_w]
        rfl
       refine pure_ (i := 4) (N := some 18) (v := ?_) (a' := ?_) #[true, true, true, false, true, false, false, false, false, false, false] rfl rfl (any_of HT_.out (by kernel_rfl)) (fun _ _ _ h => h) (Or.inl ⟨by rfl, ?_⟩) ?_ ?_
       rotate_left
       ·intro w'
        go_simp
        with_reducible rfl
       rotate_left
       ·simp only [Act.put, List.setIfInBounds_toArray, List.set_cons_zero, List.set_cons_succ, i64_w, i32_w]
        rfl
       refine pure_ (i := 5) (N := some 19) (v := ?_) (a' := ?_) #[true, true, true, false, true, true, false, false, false, false, false] rfl rfl (any_of HT_.out (by kernel_rfl)) (fun _ _ _ h => h) (Or.inl ⟨by rfl, ?_⟩) ?_ ?_
       rotate_left
       ·intro w'
        go_simp
        with_reducible rfl
       rotate_left
       ·simp only [Act.put, List.setIfInBounds_toArray, List.set_cons_zero, List.set_cons_succ, i64_w, i32_w]
        rfl
       refine pure_ (i := 6) (N := some 20) (v := ?_) (a' := ?_) #[true, true, true, false, true, true, true, false, false, false, false] rfl rfl (any_of HT_.out (by kernel_rfl)) (fun _ _ _ h => h) (Or.inl ⟨by rfl, ?_⟩) ?_ ?_
       rotate_left
       ·intro w'
        go_simp
        with_reducible rfl
       rotate_left
       ·simp only [Act.put, List.setIfInBounds_toArray, List.set_cons_zero, List.set_cons_succ, i64_w, i32_w]
        rfl
       refine take_ (i := 3) (N := some 17) (v := ?_) (a' := ?_) #[true, true, true, true, true, true, true, false, false, false, false] rfl rfl (take_ofW HT_.out HW_.out (by kernel_rfl)) (fun _ _ _ h => h) (Or.inl ⟨by rfl, ?_⟩) hHeld ?_ ?_
       rotate_left
       ·rintro w' ⟨s0, s1⟩
        go_simp
        with_reducible rfl
       rotate_left
       ·simp only [Act.put, List.setIfInBounds_toArray, List.set_cons_zero, List.set_cons_succ, i64_w, i32_w]
        rfl
       refine take_ (i := 7) (N := some 21) (v := ?_) (a' := ?_) #[true, true, true, true, true, true, true, true, false, false, false] rfl rfl (take_ofW HT_.out HW_.out (by kernel_rfl)) (fun _ _ _ h => h) (Or.inl ⟨by rfl, ?_⟩) hHeld ?_ ?_
       rotate_left
       ·rintro w' ⟨s0, s1⟩
        go_simp
        with_reducible rfl
       rotate_left
       ·simp only [Act.put, List.setIfInBounds_toArray, List.set_cons_zero, List.set_cons_succ, i64_w, i32_w]
        rfl
       refine pure_ (i := 8) (N := some 22) (v := ?_) (a' := ?_) #[true, true, true, true, true, true, true, true, true, false, false] rfl rfl (any_of HT_.out (by kernel_rfl)) (fun _ _ _ h => h) (Or.inl ⟨by rfl, ?_⟩) ?_ ?_
       rotate_left
       ·intro w'
        go_simp
        with_reducible rfl
       rotate_left
       ·simp only [Act.put, List.setIfInBounds_toArray, List.set_cons_zero, List.set_cons_succ, i64_w, i32_w]
        rfl
       refine pure_ (i := 9) (N := some 23) (v := ?_) (a' := ?_) #[true, true, true, true, true, true, true, true, true, true, false] rfl rfl (any_of HT_.out (by kernel_rfl)) (fun _ _ _ h => h) (Or.inl ⟨by rfl, ?_⟩) ?_ ?_
       rotate_left
       ·intro w'
        go_simp
        with_reducible rfl
       rotate_left
       ·simp only [Act.put, List.setIfInBounds_toArray, List.set_cons_zero, List.set_cons_succ, i64_w, i32_w]
        rfl
       refine last_ (i := 10) (N := none) #[true, true, true, true, true, true, true, true, true, true, true] rfl rfl (one_of HT_.out (by kernel_rfl)) (by decide) (fun K hK => ?_)
       refine skip_ (w1 := ?_) (by rfl) rfl ?_ ?_
       rotate_left
       ·go_simp
        rfl
       refine hK.out _ _ ?_
       clear hK K
       refine done_ (done_of HT_.out (by kernel_rfl)) ?_
       try go_wp2
       (try simp only [← hl5_1])
       go_roundg k1
       case measure => have := HK1.out; omega
       case rel => exact ⟨(y114), (wrap64 (x11_1 + 1)), (by first | rfl | (simp; done) | (simp [*]; done)), H', ⟨by have := HK1.out; omega⟩, ⟨by (try simp only [hl5_1]); (with_reducible repeat (first | apply Kd.R_alloc | apply Kd.R_drewN | apply Kd.R_drew)); exact HQ12.out⟩, ⟨by repeat (first | (with_reducible first | exact HB.out | apply below_alloc | apply pw_below_drewN | apply below_drew1 | refine below_set ?_ GB10.out) | exact HB.out)⟩⟩
      ·rw [if_neg c9] at H
       exact absurd H (by simp)
     ·rw [if_neg c8] at H
      exact absurd H (by simp)
    ·rw [if_neg c7] at H
     exact absurd H (by simp)
   ·rw [if_neg c6] at H
    have c6b0 : decide (x11_1 < (t109.length : Int)) = false := decide_eq_false c6
    clear c6
    (try simp only [hl5_1] at c6b0)
    obtain rfl := Option.some.inj H
    go_wp2
    go_ret
    exact ⟨_, by first | rfl | (simp [errW_none, errW_some] <;> rfl) | (simp [*, errW_none, errW_some] <;> rfl), by (with_reducible repeat (first | apply Kd.R_alloc | apply Kd.R_drewN | apply Kd.R_drew)); exact HO_5.out, by repeat (first | (with_reducible first | exact HB.out | apply below_alloc | apply pw_below_drewN | apply below_drew1) | exact HB.out)⟩
def vector_Key.f (k : Nat) (a0 : Int) (l1 : List Int) (l2 : List Int) : Option (Int) := (vector_Sub.f k l1 l2).bind fun t115 => ((vector_Norm.f a0 t115).bind fun t118 => (some t118))
set_option maxHeartbeats 8000000 in
set_option maxRecDepth 100000 in
theorem vector_Key.calls (k : Nat) (a0 : Int) (A1 : Option Addr) (c1 : Nat) (l1 : List Int) (A2 : Option Addr) (c2 : Nat) (l2 : List Int) (r : Int) (w : World) (hr1 : Kd.C (Kd.int .i64) w A1 l1.length l1) (hc1 : l1.length ≤ c1) (hr2 : Kd.C (Kd.int .i64) w A2 l2.length l2) (hc2 : l2.length ≤ c2) (h : vector_Key.f k a0 l1 l2 = some r) :
  Calls Try.prog 55 #[.int .i64 a0, .slice A1 l1.length c1, .slice A2 l2.length c2] w fun e w' => e = .returned (.int .i64 r) ∧ Below w.heap.size w w' := by
 have HR1 := Aside0.mk hr1
 have HC1 := Aside0.mk hc1
 clear hr1 hc1
 have HR2 := Aside0.mk hr2
 have HC2 := Aside0.mk hc2
 clear hr2 hc2
 have HB := Aside0.mk (Below.refl w.heap.size w)
 have H : ((vector_Sub.f k l1 l2).bind fun t115 => ((vector_Norm.f a0 t115).bind fun t118 => (some t118))) = some r := h
 clear h
 replace H := Option.bind_eq_some_iff.mp H
 obtain ⟨t115, A40, H⟩ := H
 replace H : ((vector_Norm.f a0 t115).bind fun t118 => (some t118)) = some r := H
 have A4 := Aside0.mk A40
 clear A40
 replace H := Option.bind_eq_some_iff.mp H
 obtain ⟨t118, A50, H⟩ := H
 replace H : (some t118) = some r := H
 have A5 := Aside0.mk A50
 clear A50
 obtain rfl := Option.some.inj H
 go_enter Try.func55, Try.ntmps55
 go_wp2_with (first | ((with_reducible refine gate_callee (f := 72) rfl ?_); refine goesL_ (some 10) rfl rfl Try.func72 (by kernel_rfl) rfl #[.slice A1 l1.length c1, .slice A2 l2.length c2] rfl (by (try simp only [List.map_toArray, List.map_cons, List.map_nil]); first | done | rfl | (simp only [List.length_drop, List.length_take]; rfl)) ?_; (with_reducible refine (vector_Sub.calls k _ _ l1 _ _ l2 t115 _ ?side1 ?side2 ?side3 ?side4 A4.out).mono ?_); (case side1 => repeat (first | exact HR1.out | (with_reducible refine Kd.C_alloc ?_ _) | (with_reducible refine Kd.C_drewN ?_ _) | (with_reducible refine Kd.C_drew ?_))); (case side2 => exact HC1.out); (case side3 => repeat (first | exact HR2.out | (with_reducible refine Kd.C_alloc ?_ _) | (with_reducible refine Kd.C_drewN ?_ _) | (with_reducible refine Kd.C_drew ?_))); (case side4 => exact HC2.out); rintro e w6 ⟨v116, rfl, ho0, hb⟩; refine ⟨_, rfl, ?_⟩; have n0_ := Aside0.mk (Kd.R_lower ho0 (below_size (by repeat (first | (with_reducible first | exact HB.out | apply below_alloc | apply pw_below_drewN | apply below_drew1) | exact HB.out)))); have n1_ := Aside0.mk (below_step (by repeat (first | (with_reducible first | exact HB.out | apply below_alloc | apply pw_below_drewN | apply below_drew1) | exact HB.out)) hb); clear HB; have HO117 := n0_; have HB := n1_; clear n0_ n1_; (try clear hb); (try clear hb2); (try clear hk); (try clear hi); (try clear ho0); obtain ⟨Ao7, co7, eo7⟩ := Kd.R_slice HO117.out; subst eo7) | ((with_reducible refine gate_callee (f := 71) rfl ?_); refine goesL_ (some 11) rfl rfl Try.func71 (by kernel_rfl) rfl #[.int .i64 a0, .slice Ao7 t115.length co7] rfl (by (try simp only [List.map_toArray, List.map_cons, List.map_nil]); first | done | rfl | (simp only [List.length_drop, List.length_take]; rfl)) ?_; (with_reducible refine (vector_Norm.calls a0 _ _ t115 t118 _ ?side1 ?side2 A5.out).mono ?_); (case side1 => repeat (first | exact (Kd.R_reads' HO117.out).2.2 | (with_reducible refine Kd.C_alloc ?_ _) | (with_reducible refine Kd.C_drewN ?_ _) | (with_reducible refine Kd.C_drew ?_))); (case side2 => exact (Kd.R_reads' HO117.out).2.1); rintro e w8 ⟨rfl, hb⟩; refine ⟨_, rfl, ?_⟩; have n0_ := Aside0.mk (Kd.R_below (by (with_reducible repeat (first | apply Kd.R_alloc | apply Kd.R_drewN | apply Kd.R_drew)); exact HO117.out) hb); have n1_ := Aside0.mk (below_step (by repeat (first | (with_reducible first | exact HB.out | apply below_alloc | apply pw_below_drewN | apply below_drew1) | exact HB.out)) hb); clear HO117; clear HB; have HO117 := n0_; have HB := n1_; clear n0_ n1_; (try clear hb); (try clear hb2); (try clear hk); (try clear hi)))
 go_ret
 exact ⟨by first | rfl | (simp [errW_none, errW_some] <;> rfl) | (simp [*, errW_none, errW_some] <;> rfl), by repeat (first | (with_reducible first | exact HB.out | apply below_alloc | apply pw_below_drewN | apply below_drew1) | exact HB.out)⟩
def code_nearest.l0 : Nat → Int → List Int → Int → Int → List (List Int) → Int → Int → Option (Int × Int)
 | 0, _, _, _, _, _, _, _ => none
 | k + 1, x0, x2, x8, x9, x13, x14, x15 => if x15 < x14 then (if 0 ≤ x15 then (if x15 < (x13.length : Int) then ((vector_Key.f k x0 (rd_L1 x13 x15) x2).bind fun t120 => (if t120 < x9 then (code_nearest.l0 k x0 x2 x15 t120 x13 x14 (wrap64 (x15 + 1))) else (code_nearest.l0 k x0 x2 x8 x9 x13 x14 (wrap64 (x15 + 1))))) else (none)) else (none)) else (some (x8, x9))
def code_nearest.f (k : Nat) (a0 : Int) (l1 : List (List Int)) (l2 : List Int) : Option (Int × Int) := code_nearest.l0 k a0 l2 0 134217729 l1 (l1.length : Int) 0
set_option maxHeartbeats 8000000 in
set_option maxRecDepth 100000 in
theorem code_nearest.calls (k : Nat) (a0 : Int) (A1 : Option Addr) (c1 : Nat) (l1 : List (List Int)) (A2 : Option Addr) (c2 : Nat) (l2 : List Int) (r1 : Int) (r2 : Int) (w : World) (hr1 : Kd.C (Kd.slice 3 (Kd.int .i64)) w A1 l1.length l1) (hc1 : l1.length ≤ c1) (hr2 : Kd.C (Kd.int .i64) w A2 l2.length l2) (hc2 : l2.length ≤ c2) (h : code_nearest.f k a0 l1 l2 = some (r1, r2)) :
  Calls Try.prog 47 #[.int .i64 a0, .slice A1 l1.length c1, .slice A2 l2.length c2] w fun e w' => e = .returned (.tuple #[.int .i64 r1, .int .i64 r2]) ∧ Below w.heap.size w w' := by
 have HR1 := Aside0.mk hr1
 have HC1 := Aside0.mk hc1
 clear hr1 hc1
 have HR2 := Aside0.mk hr2
 have HC2 := Aside0.mk hc2
 clear hr2 hc2
 have HB := Aside0.mk (Below.refl w.heap.size w)
 have H : (code_nearest.l0 k a0 l2 0 134217729 l1 (l1.length : Int) 0) = some (r1, r2) := h
 clear h
 have H' := Aside0.mk H
 clear H
 go_enter Try.func47, Try.ntmps47
 go_wp2
 go_loopg [8, 9, 15] k (fun kq v8 v9 v15 w' => ∃ (x8_1 : Int) (x9_1 : Int) (x15_1 : Int), v8 = .int .i64 x8_1 ∧ v9 = .int .i64 x9_1 ∧ v15 = .int .i64 x15_1 ∧ Aside0 (code_nearest.l0 kq a0 l2 x8_1 x9_1 l1 (l1.length : Int) x15_1 = some (r1, r2)) ∧ Aside0 (kq ≤ k) ∧ Aside0 (Below w.heap.size w w'))
 case atStart => exact ⟨(0), (134217729), (0), (by first | rfl | (simp; done) | (simp [*]; done)), (by first | rfl | (simp; done) | (simp [*]; done)), (by first | rfl | (simp; done) | (simp [*]; done)), H', ⟨Nat.le_refl _⟩, ⟨by repeat (first | (with_reducible first | exact HB.out | apply below_alloc | apply pw_below_drewN | apply below_drew1) | exact HB.out)⟩⟩
 case round =>
  clear H'
  try clear c1
  try clear c2
  try clear p2
  obtain ⟨x8_1, x9_1, x15_1, rfl, rfl, rfl, HA, HK1, HB⟩ := hrel
  cases gk with
  | zero => exact absurd HA.out (by simp [code_nearest.l0])
  | succ k1 =>
   have H := HA.out
   clear HA
   simp only [code_nearest.l0] at H
   by_cases c4 : x15_1 < (l1.length : Int)
   ·rw [if_pos c4] at H
    have c4b0 : decide (x15_1 < (l1.length : Int)) = true := decide_eq_true c4
    clear c4
    by_cases c5 : 0 ≤ x15_1
    ·rw [if_pos c5] at H
     have c5b0 : decide (0 ≤ x15_1) = true := decide_eq_true c5
     clear c5
     by_cases c6 : x15_1 < (l1.length : Int)
     ·rw [if_pos c6] at H
      have c6b0 : decide (x15_1 < (l1.length : Int)) = true := decide_eq_true c6
      clear c6
      replace H := Option.bind_eq_some_iff.mp H
      obtain ⟨t120, A70, H⟩ := H
      replace H : (if t120 < x9_1 then (code_nearest.l0 k1 a0 l2 x15_1 t120 l1 (l1.length : Int) (wrap64 (x15_1 + 1))) else (code_nearest.l0 k1 a0 l2 x8_1 x9_1 l1 (l1.length : Int) (wrap64 (x15_1 + 1)))) = some (r1, r2) := H
      have A7 := Aside0.mk A70
      clear A70
      by_cases c8 : t120 < x9_1
      ·rw [if_pos c8] at H
       have c8b0 : decide (t120 < x9_1) = true := decide_eq_true c8
       clear c8
       have H' := Aside0.mk H
       clear H
       have p119 : 0 ≤ (x15_1 : Int) := of_decide_eq_true (by first | (with_reducible assumption) | assumption)
       have q119 : x15_1 < (l1.length : Int) := of_decide_eq_true (by first | (with_reducible assumption) | assumption)
       obtain ⟨ad119, A119_0, c119_0, e119, hx119_0, hl119_0, hi119_0⟩ := at_L1 HR1.out x15_1 p119 q119
       cases e119
       replace hx119_0 := (HB.out.cell (World.block_lt_of_cell? w _ hx119_0)).trans hx119_0
       have HR119_0 := Aside0.mk hi119_0
       have HC119_0 := Aside0.mk hl119_0
       clear hi119_0 hl119_0
       replace p119 := eq_true p119
       replace q119 := eq_true q119
       go_wp2_with (first | ((with_reducible refine gate_callee (f := 55) rfl ?_); refine goesL_ (some 23) rfl rfl Try.func55 (by kernel_rfl) rfl #[.int .i64 a0, .slice A119_0 (rd_L1 l1 x15_1).length c119_0, .slice A2 l2.length c2] rfl (by (try simp only [List.map_toArray, List.map_cons, List.map_nil]); first | done | rfl | (simp only [List.length_drop, List.length_take]; rfl)) ?_; (with_reducible refine (vector_Key.calls k1 a0 _ _ (rd_L1 l1 x15_1) _ _ l2 t120 _ ?side1 ?side2 ?side3 ?side4 A7.out).mono ?_); (case side1 => repeat (first | exact (Kd.C_below HR119_0.out HB.out) | (with_reducible refine Kd.C_alloc ?_ _) | (with_reducible refine Kd.C_drewN ?_ _) | (with_reducible refine Kd.C_drew ?_))); (case side2 => exact HC119_0.out); (case side3 => repeat (first | exact (Kd.C_below HR2.out HB.out) | (with_reducible refine Kd.C_alloc ?_ _) | (with_reducible refine Kd.C_drewN ?_ _) | (with_reducible refine Kd.C_drew ?_))); (case side4 => exact HC2.out); rintro e w9 ⟨rfl, hb⟩; refine ⟨_, rfl, ?_⟩; have n0_ := Aside0.mk (below_step (by repeat (first | (with_reducible first | exact HB.out | apply below_alloc | apply pw_below_drewN | apply below_drew1) | exact HB.out)) hb); clear HB; have HB := n0_; clear n0_; (try clear hb); (try clear hb2); (try clear hk); (try clear hi)))
       go_roundg k1
       case measure => have := HK1.out; omega
       case rel => exact ⟨(x15_1), (t120), (wrap64 (x15_1 + 1)), (by first | rfl | (simp; done) | (simp [*]; done)), (by first | rfl | (simp; done) | (simp [*]; done)), (by first | rfl | (simp; done) | (simp [*]; done)), H', ⟨by have := HK1.out; omega⟩, ⟨by repeat (first | (with_reducible first | exact HB.out | apply below_alloc | apply pw_below_drewN | apply below_drew1) | exact HB.out)⟩⟩
      ·rw [if_neg c8] at H
       have c8b0 : decide (t120 < x9_1) = false := decide_eq_false c8
       clear c8
       have H' := Aside0.mk H
       clear H
       have p119 : 0 ≤ (x15_1 : Int) := of_decide_eq_true (by first | (with_reducible assumption) | assumption)
       have q119 : x15_1 < (l1.length : Int) := of_decide_eq_true (by first | (with_reducible assumption) | assumption)
       obtain ⟨ad119, A119_0, c119_0, e119, hx119_0, hl119_0, hi119_0⟩ := at_L1 HR1.out x15_1 p119 q119
       cases e119
       replace hx119_0 := (HB.out.cell (World.block_lt_of_cell? w _ hx119_0)).trans hx119_0
       have HR119_0 := Aside0.mk hi119_0
       have HC119_0 := Aside0.mk hl119_0
       clear hi119_0 hl119_0
       replace p119 := eq_true p119
       replace q119 := eq_true q119
       go_wp2_with (first | ((with_reducible refine gate_callee (f := 55) rfl ?_); refine goesL_ (some 23) rfl rfl Try.func55 (by kernel_rfl) rfl #[.int .i64 a0, .slice A119_0 (rd_L1 l1 x15_1).length c119_0, .slice A2 l2.length c2] rfl (by (try simp only [List.map_toArray, List.map_cons, List.map_nil]); first | done | rfl | (simp only [List.length_drop, List.length_take]; rfl)) ?_; (with_reducible refine (vector_Key.calls k1 a0 _ _ (rd_L1 l1 x15_1) _ _ l2 t120 _ ?side1 ?side2 ?side3 ?side4 A7.out).mono ?_); (case side1 => repeat (first | exact (Kd.C_below HR119_0.out HB.out) | (with_reducible refine Kd.C_alloc ?_ _) | (with_reducible refine Kd.C_drewN ?_ _) | (with_reducible refine Kd.C_drew ?_))); (case side2 => exact HC119_0.out); (case side3 => repeat (first | exact (Kd.C_below HR2.out HB.out) | (with_reducible refine Kd.C_alloc ?_ _) | (with_reducible refine Kd.C_drewN ?_ _) | (with_reducible refine Kd.C_drew ?_))); (case side4 => exact HC2.out); rintro e w10 ⟨rfl, hb⟩; refine ⟨_, rfl, ?_⟩; have n0_ := Aside0.mk (below_step (by repeat (first | (with_reducible first | exact HB.out | apply below_alloc | apply pw_below_drewN | apply below_drew1) | exact HB.out)) hb); clear HB; have HB := n0_; clear n0_; (try clear hb); (try clear hb2); (try clear hk); (try clear hi)))
       go_roundg k1
       case measure => have := HK1.out; omega
       case rel => exact ⟨(x8_1), (x9_1), (wrap64 (x15_1 + 1)), (by first | rfl | (simp; done) | (simp [*]; done)), (by first | rfl | (simp; done) | (simp [*]; done)), (by first | rfl | (simp; done) | (simp [*]; done)), H', ⟨by have := HK1.out; omega⟩, ⟨by repeat (first | (with_reducible first | exact HB.out | apply below_alloc | apply pw_below_drewN | apply below_drew1) | exact HB.out)⟩⟩
     ·rw [if_neg c6] at H
      exact absurd H (by simp)
    ·rw [if_neg c5] at H
     exact absurd H (by simp)
   ·rw [if_neg c4] at H
    have c4b0 : decide (x15_1 < (l1.length : Int)) = false := decide_eq_false c4
    clear c4
    simp only [Option.some.injEq, Prod.mk.injEq] at H
    obtain ⟨rfl, rfl⟩ := H
    go_wp2
    go_ret2
    exact ⟨by first | rfl | (simp [errW_none, errW_some] <;> rfl) | (simp [*, errW_none, errW_some] <;> rfl), by repeat (first | (with_reducible first | exact HB.out | apply below_alloc | apply pw_below_drewN | apply below_drew1) | exact HB.out)⟩
def code_part_of.f (a0_0 : Int) (a0_1 : Int) (a0_2 : Int) (l1 : List Int) : Option (List Int) := if 0 ≤ a0_1 then (if a0_1 ≤ a0_2 then (if a0_2 ≤ (l1.length : Int) then (some ((l1.take (a0_2 : Int).toNat).drop (a0_1 : Int).toNat)) else (none)) else (none)) else (none)
set_option maxHeartbeats 8000000 in
set_option maxRecDepth 100000 in
theorem code_part_of.calls (a0_0 : Int) (a0_1 : Int) (a0_2 : Int) (P1_ : Nat → Prop) (A1 : Option Addr) (c1 : Nat) (l1 : List Int) (r : List Int) (w : World) (hs1 : Kd.V (Kd.int .i64) 3 w w.heap.size (fun k_ => P1_ k_) (.slice A1 l1.length c1) l1) (h : code_part_of.f a0_0 a0_1 a0_2 l1 = some r) :
  Calls Try.prog 48 #[.agg #[.int .i64 a0_0, .int .i64 a0_1, .int .i64 a0_2], .slice A1 l1.length c1] w fun e w' => ∃ v0_ : Value, e = .returned (v0_) ∧ Kd.V (Kd.int .i64) 3 w' w.heap.size (fun k_ => (P1_ k_ ∨ w.heap.size ≤ k_)) v0_ r ∧ Below w.heap.size w w' := by
 have hu67 := Try.underlying67
 have HO1 := Aside0.mk (show Kd.V (Kd.int .i64) 3 w w.heap.size (fun k_ => (P1_ k_ ∨ w.heap.size ≤ k_)) (.slice A1 l1.length c1) l1 from Kd.V_mono hs1 (fun k_ hk => .inl hk))
 have HB := Aside0.mk (Below.refl w.heap.size w)
 have H : (if 0 ≤ a0_1 then (if a0_1 ≤ a0_2 then (if a0_2 ≤ (l1.length : Int) then (some ((l1.take (a0_2 : Int).toNat).drop (a0_1 : Int).toNat)) else (none)) else (none)) else (none)) = some r := h
 clear h
 by_cases c3 : 0 ≤ a0_1
 ·rw [if_pos c3] at H
  have c3b0 := eq_true c3
  have c3b1 : decide (0 ≤ a0_1) = true := decide_eq_true c3
  clear c3
  by_cases c4 : a0_1 ≤ a0_2
  ·rw [if_pos c4] at H
   have c4b0 := eq_true c4
   have c4b1 : decide (a0_1 ≤ a0_2) = true := decide_eq_true c4
   clear c4
   by_cases c5 : a0_2 ≤ (l1.length : Int)
   ·rw [if_pos c5] at H
    have c5b0 := eq_true c5
    have c5b1 : decide (a0_2 ≤ (l1.length : Int)) = true := decide_eq_true c5
    clear c5
    obtain ⟨y122, hy122⟩ : ∃ y_ : List Int, y_ = ((l1.take (a0_2 : Int).toNat).drop (a0_1 : Int).toNat) := ⟨_, rfl⟩
    replace H : (some y122) = some r := by first | (rw [hy122]; with_reducible exact H) | (have H2_ := (Option.bind_some _ _).symm.trans H; rw [hy122]; with_reducible exact H2_) | (have H2_ := (Option.bind_some _ _).symm.trans H; with_reducible exact H2_) | with_reducible exact H | (rw [hy122]; exact H) | exact H
    have Ny122 := Aside0.mk hy122
    clear hy122
    obtain rfl := Option.some.inj H
    go_enter Try.func48, Try.ntmps48
    go_wp2_with (first | ((with_reducible refine gate_dst (N := 2) rfl ?_); refine box_event ?hg (N := 2) ?hd (cs := #[.int .i64 a0_0, .int .i64 a0_1, .int .i64 a0_2]) (t := 67) ?hr ?_; (case hd => rfl); (case hg => rfl); (case hr => first | (go_simp; done) | (go_simp; rfl)); intro gb121 hg w6 hbox hb; have n0_ := Aside0.mk (Kd.V_below (Kd.V_elderB (by (with_reducible repeat (first | apply Kd.V_alloc | apply Kd.V_drewN | apply Kd.V_drew)); exact HO1.out) gb121 (Nat.le_of_eq hg.symm)) hb); have n1_ := Aside0.mk (below_step (by repeat (first | (with_reducible first | exact HB.out | apply below_alloc | apply pw_below_drewN | apply below_drew1) | exact HB.out)) hb); have n2_ := Aside0.mk (hbox); have n3_ := Aside0.mk ((by rw [hg]; exact (below_size (by repeat (first | (with_reducible first | exact HB.out | apply below_alloc | apply pw_below_drewN | apply below_drew1) | exact HB.out))) : w.heap.size ≤ gb121)); have n4_ := Aside0.mk ((by rw [hg]; exact (below_size (by repeat (first | (with_reducible first | exact HB.out | apply below_alloc | apply pw_below_drewN | apply below_drew1) | exact HB.out))) : w.heap.size ≤ gb121)); clear HO1; clear HB; have HO1 := n0_; have HB := n1_; have BK121 := n2_; have GW121 := n3_; have GE121 := n4_; clear n0_ n1_ n2_ n3_ n4_; clear hb hbox hg; have hcz7_0 : w6.cell? ⟨gb121, 0, none⟩ = some (.int .i64 a0_0) := (blk_cell BK121.out 0).trans rfl; have hcz7_1 : w6.cell? ⟨gb121, 1, none⟩ = some (.int .i64 a0_1) := (blk_cell BK121.out 1).trans rfl; have hcz7_2 : w6.cell? ⟨gb121, 2, none⟩ = some (.int .i64 a0_2) := (blk_cell BK121.out 2).trans rfl; have hfz7_0 := blk_frozen BK121.out 0; have hfz7_1 := blk_frozen BK121.out 1; have hfz7_2 := blk_frozen BK121.out 2; have q8 : (a0_2 : Int) ≤ ((l1.length : Int) : Int) := of_decide_eq_true (by first | (with_reducible assumption) | assumption); obtain ⟨i08, hi08, _, hsz8, _⟩ := info_parts info3; have hroom8 : l1.length ≤ c1 := (Kd.V_reads' HO1.out).2.1; have hC8 : Kd.F (Kd.int .i64) _ _ A1 l1.length l1 := (Kd.V_at (base := w.heap.size) HO1.out).2.2; have ql8 : (a0_1 : Int) ≤ (a0_2 : Int) := of_decide_eq_true (by first | (with_reducible assumption) | assumption); have q08 : (0 : Int) ≤ (a0_1 : Int) := of_decide_eq_true (by first | (with_reducible assumption) | assumption); have hcut8 := cut_mid (P := Try.prog) 22 3 .i64 .i64 Try.underlying22 hi08 1 hsz8 A1 l1.length c1 a0_1 a0_2 q08 ql8 q8 hroom8; have hr8 := Kd.F_mid (lo := (a0_1 : Int).toNat) (hi := (a0_2 : Int).toNat) (c := c1) hC8 (by omega) (by omega) hroom8; obtain ⟨A8, hA8⟩ : ∃ Az_, Az_ = (if c1 = (a0_1 : Int).toNat then A1 else (A1 : Option Addr).map (·.add ((a0_1 : Int).toNat * 1))) := ⟨_, rfl⟩; obtain ⟨c8, hc8⟩ : ∃ cz_, cz_ = c1 - (a0_1 : Int).toNat := ⟨_, rfl⟩; have hy8 : y122.length = (a0_2 : Int).toNat - (a0_1 : Int).toNat := (by rw [Ny122.out, List.length_drop, List.length_take] <;> omega); rw [show ((l1).take (a0_2 : Int).toNat).drop (a0_1 : Int).toNat = y122 from Ny122.out.symm] at hr8; replace hr8 : Kd.F (Kd.int .i64) _ _ A8 y122.length y122 := (by rw [hA8]; exact hr8); rw [← hy8, ← hA8, ← hc8] at hcut8; have HO126 := Aside0.mk (show Kd.V (Kd.int .i64) 3 _ w.heap.size _ (.slice A8 y122.length c8) y122 from Kd.V_mk (by rw [hy8, hc8]; exact Nat.sub_le_sub_right (Nat.le_trans (by omega) hroom8) _) hr8); have HC126 := Aside0.mk (show y122.length ≤ c8 from by rw [hy8, hc8]; exact Nat.sub_le_sub_right (Nat.le_trans (by omega) hroom8) _); clear hr8 hC8 hroom8 hi08 hsz8 hc8; have KY8 := Aside0.mk hy8; have KA8 := Aside0.mk hA8; clear hy8 hA8; replace q8 := eq_true q8))
    go_ret
    exact ⟨_, by first | rfl | (simp [errW_none, errW_some] <;> rfl) | (simp [*, errW_none, errW_some] <;> rfl), by (with_reducible repeat (first | apply Kd.V_alloc | apply Kd.V_drewN | apply Kd.V_drew)); exact Kd.V_mono HO126.out (fun _ hk => hk.1), by repeat (first | (with_reducible first | exact HB.out | apply below_alloc | apply pw_below_drewN | apply below_drew1 | refine below_set ?_ GE121.out) | exact HB.out)⟩
   ·rw [if_neg c5] at H
    exact absurd H (by simp)
  ·rw [if_neg c4] at H
   exact absurd H (by simp)
 ·rw [if_neg c3] at H
  exact absurd H (by simp)
end Go.Proofs.Ytgpdfalopdhjlaa.Q
end
section
namespace Go.Proofs.Ytgpdfalopdhjlaa.Q
open Go.RowKit Go.Proofs.YtgpdfalopdhjlaaW.PrintWords Go.Proofs.YtgpdfalopdhjlaaW.PrintLast Go.Proofs.YtgpdfalopdhjlaaW.PrintMore
attribute [local go_sem] max2_int min2_int max_two min_two max_three min_three max_four min_four   -- for this text's walks alone
set_option linter.unusedVariables false
set_option linter.unusedSimpArgs false
/-- part i: its number, where it begins, where it ends -/
def partAt (cuts : List Int) (dims : Int) (i : Nat) : Int × Int × Int := ((i : Int), rd cuts (i : Int), if i + 1 < cuts.length then rd cuts ((i + 1 : Nat) : Int) else dims)
theorem fin_take {n i : Nat} (h : i < n) : (List.finRange n).take (i + 1) = (List.finRange n).take i ++ [⟨i, h⟩] := by
 rw [List.take_succ_eq_append_getElem (by simpa using h)]; simp
theorem fin_length {n i : Nat} (h : i ≤ n) : ((List.finRange n).take i).length = i := by simp; omega
abbrev partV (x : Int × Int × Int) : Value := .agg #[.int .i64 x.1, .int .i64 x.2.1, .int .i64 x.2.2]
/-- what a round leaves as it lay: all blocks below M but g -/
structure KeepM (M g : Nat) (w w' : World) : Prop where
 size : w.heap.size ≤ w'.heap.size
 block : ∀ k, k < M → k ≠ g → w'.heap[k]? = w.heap[k]?
theorem KeepM.refl (M g : Nat) (w : World) : KeepM M g w w := ⟨Nat.le_refl _, fun _ _ _ => rfl⟩
theorem KeepM.trans {M g : Nat} {a b c : World} (h : KeepM M g a b) (k : KeepM M g b c) : KeepM M g a c := ⟨Nat.le_trans h.size k.size, fun i h1 h2 => (k.block i h1 h2).trans (h.block i h1 h2)⟩
theorem KeepM.put {M g : Nat} {B : Nat} (hB : M ≤ B) (W : World) (l : Nat) (o o' : Obj) (hl : B ≤ l) : KeepM M g W (W.putObj l o') := ⟨by simp, fun k h1 _ => World.putObj_heap_other (by omega)⟩
theorem KeepM.below {M g : Nat} {a b : World} (hM : M ≤ a.heap.size) (h : Below a.heap.size a b) : KeepM M g a b := ⟨h.size, fun k h1 _ => h.block k (by omega)⟩
theorem KeepM.cell {M g : Nat} {a b : World} (h : KeepM M g a b) {p : Addr} {v : Value} (h1 : p.block < M) (h2 : p.block ≠ g) (hc : a.cell? p = some v) : b.cell? p = some v := (World.cell?_of_block (h.block _ h1 h2)).trans hc
theorem KeepM.set {M g : Nat} {a b : World} (h : KeepM M g a b) (p : Addr) (hp : p.block = g ∨ M ≤ p.block) (v : Value) : KeepM M g a (b.setCell p v) :=
 ⟨by have := h.size; simpa using this, fun k h1 h2 => (Below.heap_setCell b p v k (by rcases hp with hp | hp <;> omega)).trans (h.block k h1 h2)⟩
section
attribute [local go_sem] Oper.semAt_some
set_option maxRecDepth 100000 in
set_option maxHeartbeats 2000000 in
theorem code_parts_1.called (n : Nat) (hn : 1 ≤ n) (l M g Bc Bd : Nat) (A : Option Addr) (c : Nat) (cuts : List Int) (dims : Int) (hBc : Bc < M ∧ Bc ≠ g) (hBd : Bd < M ∧ Bd ≠ g) (hlen : cuts.length ≤ 4611686018427387904) (J Jx : List (Fin cuts.length) → World → Prop)
  (hY : ∀ (pre : List (Fin cuts.length)) (x : Fin cuts.length) W, J pre W → pre.length < cuts.length → YieldAt Fence.wide (n - 1) Try.prog l #[partV (partAt cuts dims x)] W fun e W' => (e = .returned (.bool true) ∧ J (pre ++ [x]) W' ∧ KeepM M g W W') ∨ (e = .returned (.bool false) ∧ Jx (pre ++ [x]) W'))
  (W : World) (hc : W.cell? ⟨Bc, 0, none⟩ = some (.slice A cuts.length c)) (hd : W.cell? ⟨Bd, 0, none⟩ = some (.int .i64 dims)) (hMW : M ≤ W.heap.size) (hr : Kd.F (Kd.int .i64) W (fun k => k < M ∧ k ≠ g) A cuts.length cuts) (h0 : J [] W) :
  CallsIn Fence.wide n Try.prog 63 #[.func (.yield l) #[] #[], .pointer (some ⟨Bc, 0, none⟩), .pointer (some ⟨Bd, 0, none⟩)] W fun e W' => (∃ v, e = .returned v) ∧ ((∃ ys, ys = List.finRange cuts.length ∧ J ys W') ∨ (∃ pre, pre <+: List.finRange cuts.length ∧ Jx pre W')) := by
 have HY := Aside0.mk hY
 have HR := Aside0.mk hr
 have HC := Aside0.mk hc
 have HD := Aside0.mk hd
 have HBc := Aside0.mk hBc
 have HBd := Aside0.mk hBd
 clear hY hr hd hBc hBd
 refine callsIn_of_wp Try.func63 rfl trivial ?_ rfl
 simp only [Try.ntmps63, List.size_toArray, List.length_cons, List.length_nil, Nat.reduceAdd, Nat.reduceSub, Array.replicate_succ, Array.replicate_zero, List.push_toArray, List.append_toArray, List.nil_append, List.cons_append]
 gi_wp2
 gi_loopw [9] (fun v wr => ∃ i : Nat, i ≤ cuts.length ∧ v = .int .i64 i ∧ Aside0 (J ((List.finRange cuts.length).take i) wr) ∧ Aside0 (KeepM M g W wr)) (fun v _ => cuts.length - (intOf v).toNat)
 case atStart => exact ⟨0, Nat.zero_le _, rfl, ⟨h0⟩, ⟨KeepM.refl _ _ _⟩⟩
 case round =>
  obtain ⟨i, hi, rfl, HJ, HK⟩ := hrel
  clear hc
  have hcw := HK.out.cell (p := ⟨Bc, 0, none⟩) HBc.out.1 HBc.out.2 HC.out
  have hdw := HK.out.cell (p := ⟨Bd, 0, none⟩) HBd.out.1 HBd.out.2 HD.out
  by_cases hlt : i < cuts.length
  ·have hF : Kd.C (Kd.int .i64) wr A cuts.length cuts := Kd.F_now (Kd.F_step HR.out (fun k hk _ => HK.out.block k hk.1 hk.2))
   obtain ⟨ad, rfl, hx⟩ := Kd.at_int hF (i : Int) (by omega) (by omega)
   obtain ⟨fn, tmps, assign, body, hy, hR⟩ := HY.out _ ⟨i, hlt⟩ wr HJ.out (by rw [fin_length hi]; exact hlt)
   rw [← fin_take hlt] at hR
   dsimp only at hy
   rw [Int.toNat_natCast] at hx
   have q1 : (i : Int) < (cuts.length : Int) := by omega
   have hp : partAt cuts dims i = ((i : Int), rd cuts (i : Int), if i + 1 < cuts.length then rd cuts ((i + 1 : Nat) : Int) else dims) := rfl
   by_cases h2 : i + 1 < cuts.length
   ·obtain ⟨ad2, e2, hx2⟩ := Kd.at_int hF ((i + 1 : Nat) : Int) (by omega) (by omega)
    cases e2
    rw [Int.toNat_natCast] at hx2
    have hx3 : wr.cell? ⟨ad.block, ad.off + (i + 1), none⟩ = some (.int .i64 (rd cuts ((i + 1 : Nat) : Int))) := by simpa [Addr.add] using hx2
    rw [if_pos h2] at hp
    rw [hp] at hy
    dsimp only [partV] at hy
    have HP := Aside0.mk hp
    have HRR := Aside0.mk hR
    have q2 : (i : Int) + 1 < (cuts.length : Int) := by omega
    generalize rd cuts (i : Int) = x1 at *
    generalize rd cuts ((i + 1 : Nat) : Int) = x2 at *
    clear hp hR hF
    gi_wp2
    refine HRR.out.mono ?_
    rintro e W3 (⟨rfl, hJ3, hk3⟩ | ⟨rfl, hJx3⟩)
    ·gi_wp2
     go_roundw
     case rel => exact ⟨i + 1, by omega, by simp, ⟨hJ3⟩, ⟨HK.out.trans hk3⟩⟩
     case measure => simp [intOf]; omega
    ·gi_wp2
     refine bodyPost_ret (results_none rfl _ _ _) rfl ?_
     exact ⟨⟨_, rfl⟩, .inr ⟨_, List.take_prefix _ _, hJx3⟩⟩
   ·rw [if_neg h2] at hp
    rw [hp] at hy
    dsimp only [partV] at hy
    have HP := Aside0.mk hp
    have HRR := Aside0.mk hR
    have q2 : ¬ ((i : Int) + 1 < (cuts.length : Int)) := by omega
    generalize rd cuts (i : Int) = x1 at *
    clear hp hR hF
    gi_wp2
    refine HRR.out.mono ?_
    rintro e W3 (⟨rfl, hJ3, hk3⟩ | ⟨rfl, hJx3⟩)
    ·gi_wp2
     go_roundw
     case rel => exact ⟨i + 1, by omega, by simp, ⟨hJ3⟩, ⟨HK.out.trans hk3⟩⟩
     case measure => simp [intOf]; omega
    ·gi_wp2
     refine bodyPost_ret (results_none rfl _ _ _) rfl ?_
     exact ⟨⟨_, rfl⟩, .inr ⟨_, List.take_prefix _ _, hJx3⟩⟩
  ·obtain rfl : i = cuts.length := by omega
   gi_wp2
   go_end0
   exact ⟨⟨_, rfl⟩, .inl ⟨_, List.take_of_length_le (by simp), HJ.out⟩⟩
end
theorem code_parts.called (A : Option Addr) (c n : Nat) (dims : Int) (w : World) : Calls Try.prog 39 #[.slice A n c, .int .i64 dims] w fun e w' =>
  e = .returned (.func (.func 63) #[] #[.pointer (some ⟨w.heap.size, 0, none⟩), .pointer (some ⟨w.heap.size + 1, 0, none⟩)]) ∧ w' = (w.alloc (.cells #[.slice A n c] 22)).alloc (.cells #[.int .i64 dims] 3) := by
 go_enter Try.func39, Try.ntmps39
 go_wp2
 go_ret
 exact ⟨rfl, rfl⟩
theorem code_parts.stops (n : Nat) (hn : 1 ≤ n) (M g Bc Bd : Nat) (A : Option Addr) (c : Nat) (cuts : List Int) (dims : Int) (w : World) (hBc : Bc < M ∧ Bc ≠ g) (hBd : Bd < M ∧ Bd ≠ g) (hlen : cuts.length ≤ 4611686018427387904)
  (hc : w.cell? ⟨Bc, 0, none⟩ = some (.slice A cuts.length c)) (hd : w.cell? ⟨Bd, 0, none⟩ = some (.int .i64 dims)) (hM : M ≤ w.heap.size) (hr : Kd.F (Kd.int .i64) w (fun k => k < M ∧ k ≠ g) A cuts.length cuts) :
  SeqStopsK Fence.wide n Try.prog 63 #[.pointer (some ⟨Bc, 0, none⟩), .pointer (some ⟨Bd, 0, none⟩)] (fun x : Fin cuts.length => #[partV (partAt cuts dims x)]) (KeepM M g) (fun ys => ys = List.finRange cuts.length) (fun pre => pre <+: List.finRange cuts.length) cuts.length w :=
 fun l J Jx W hW _ _ hY h0 => code_parts_1.called n hn l M g Bc Bd A c cuts dims hBc hBd hlen J Jx hY W ((hW.cell (p := ⟨Bc, 0, none⟩) (by show Bc < _; omega)).trans hc) ((hW.cell (p := ⟨Bd, 0, none⟩) (by show Bd < _; omega)).trans hd) (Nat.le_trans hM hW.size)
  (Kd.F_step hr (fun k hk hlt => hW.block k hlt)) h0
/-- what a round's steps leave: blocks below M but g; what is no cells from M on; no output -/
structure Kr (M g : Nat) (w w' : World) : Prop where
 m : KeepM M g w w'
 f : KeepsFrom M w w'
 b : Below 0 w w'
theorem Kr.refl (M g : Nat) (w : World) : Kr M g w w := ⟨KeepM.refl _ _ _, KeepsFrom.refl _ _, Below.refl _ _⟩
theorem Kr.trans {M g : Nat} {a b c : World} (h : Kr M g a b) (k : Kr M g b c) : Kr M g a c := ⟨h.m.trans k.m, h.f.trans k.f, h.b.trans k.b⟩
theorem Kr.below {M g : Nat} {a b : World} (hM : M ≤ a.heap.size) (h : Below a.heap.size a b) : Kr M g a b :=
 ⟨KeepM.below hM h, ⟨h.size, fun k o _ ho _ => (h.block k (Array.getElem?_eq_some_iff.1 ho).1).trans ho⟩, h.mono (Nat.zero_le _)⟩
theorem Kr.set {M g : Nat} {a : World} (p : Addr) (hp : p.block = g ∨ M ≤ p.block) (v : Value) : Kr M g a (a.setCell p v) :=
 ⟨(KeepM.refl M g a).set p hp v, (KeepsOthers.setCell _ _ _).from _, (Below.refl _ _).setCell (Nat.zero_le _) _⟩
theorem Kr.grown {M g : Nat} {a b : World} {row : Option Nat} (hg : a.grownBy b row) (h : ∀ k, row = some k → M ≤ k ∧ ∃ cells t, a.heap[k]? = some (.cells cells t (0, 0))) (hM : M ≤ a.heap.size) : Kr M g a b :=
 ⟨⟨hg.size, fun k h1 _ => hg.block k (by omega) (fun e => by have := (h k e.symm).1; omega)⟩,
  ⟨hg.size, fun k o _ ho hc => (hg.block k (Array.getElem?_eq_some_iff.1 ho).1 (fun e => by
   obtain ⟨_, cells, t, h2⟩ := h k e.symm
   rw [h2] at ho
   cases ho
   cases hc)).trans ho⟩, (Below.refl _ _).grown hg (Nat.zero_le _) (fun _ _ => Nat.zero_le _)⟩
/-- What a loop over the parts of a codebook needs: a round of it. -/
def LoopPost {α : Type} (M g : Nat) (J Jx : List α → World → Prop) (xs : List α) (W : World) : Exit → Act → World → Prop
 | .normal, _, W' => Kr M g W W' ∧ J xs W'
 | .ret, _, W' => Kr M g W W' ∧ Jx xs W'
 | _, _, _ => False
theorem code_parts.loop {gop : Operand} {ps : Array Tmp} {assign body : Code} {Q : Exit → Act → World → Prop} {a : Act} {w : World} (n : Nat) (hn : 4 ≤ n) (g Bc Bd : Nat) (A : Option Addr) (c : Nat) (cuts : List Int) (dims : Int)
  (hg : a.eval gop = .func (.func 63) #[] #[.pointer (some ⟨Bc, 0, none⟩), .pointer (some ⟨Bd, 0, none⟩)]) (hps : ps.size = 1)
  (hBc : Bc < w.heap.size ∧ Bc ≠ g) (hBd : Bd < w.heap.size ∧ Bd ≠ g) (hlen : cuts.length ≤ 4611686018427387904) (hc : w.cell? ⟨Bc, 0, none⟩ = some (.slice A cuts.length c)) (hd : w.cell? ⟨Bd, 0, none⟩ = some (.int .i64 dims))
  (hr : Kd.F (Kd.int .i64) w (fun k => k < w.heap.size ∧ k ≠ g) A cuts.length cuts)
  (J Jx : List (Fin cuts.length) → World → Prop) (hJ : OwnFrom w.heap.size J) (hJx : OwnFrom w.heap.size Jx) (h0 : J [] w) (tm : Int × Int × Int → Nat → Act)
  (hassign : ∀ (l : Nat) (x : Int × Int × Int) (W : World) (K : Act → World → Prop), (∀ Bx, Bx = W.heap.size → K (tm x Bx) (W.alloc (.cells #[.int .i64 x.1, .int .i64 x.2.1, .int .i64 x.2.2] 67))) →
   assign.wpIn (Fence.wide.inRound l) (n - 1 - 1) Try.prog (Exit.then K (fun _ _ _ => False)) { tmps := (ps.zip #[partV x]).foldl (fun t (p, v) => t.setIfInBounds p v) a.tmps, defers := [] } W)
  (hbody : ∀ (l : Nat) (pre : List (Fin cuts.length)) (i : Nat) (hi : i < cuts.length) (Bx : Nat) (W : World), pre.length < cuts.length → w.heap.size ≤ Bx → W.heap[Bx]? = some (.cells #[.int .i64 (partAt cuts dims i).1, .int .i64 (partAt cuts dims i).2.1, .int .i64 (partAt cuts dims i).2.2] 67 (0, 0)) → J pre W → KeepM w.heap.size g w W → Below 0 w W →
   body.wpIn (Fence.wide.inRound l) (n - 1 - 1) Try.prog (LoopPost w.heap.size g J Jx (pre ++ [⟨i, hi⟩]) W) (tm (partAt cuts dims i) Bx) W)
  (hdone : ∀ (D : Nat) (W : World), w.heap.size ≤ D → J (List.finRange cuts.length) W → KeepM w.heap.size g w W → Below 0 w W → W.heap[D]? = some (.deferred (some [])) → Q .normal { a with defers := { target := .collected D, args := #[] } :: a.defers } W)
  (hstop : ∀ (D : Nat) (pre : List (Fin cuts.length)) (W : World), w.heap.size ≤ D → pre <+: List.finRange cuts.length → Jx pre W → KeepM w.heap.size g w W → Below 0 w W → W.heap[D]? = some (.deferred (some [])) → Code.ret.wpIn Fence.wide n Try.prog Q { a with defers := { target := .collected D, args := #[] } :: a.defers } W) :
  (Code.rangeFunc gop ps assign body).wpIn Fence.wide n Try.prog Q a w := by
 have hkm : OwnFrom w.heap.size (fun (_ : List (Fin cuts.length)) W => KeepM w.heap.size g w W ∧ Below 0 w W) := fun _ X Y row hs hg2 hr2 =>
  ⟨⟨Nat.le_trans hs.1.size hg2.size, fun k h1 h2 => (hg2.block k (by have := hs.1.size; omega) (fun e => by have := (hr2 k e.symm).1; omega)).trans (hs.1.block k h1 h2)⟩, hs.2.grown hg2 (Nat.zero_le _) (fun _ _ => Nat.zero_le _)⟩
 refine wpIn_rangeFunc_ownH rfl (by omega) (gf := 63) (lb := #[.pointer (some ⟨Bc, 0, none⟩), .pointer (some ⟨Bd, 0, none⟩)]) hg trivial (enters_of Try.func63 (by kernel_rfl) rfl)
  (code_parts.stops (n - 1) (by omega) w.heap.size g Bc Bd A c cuts dims w hBc hBd hlen hc hd (Nat.le_refl _) hr) KeepM.trans (fun W l o o' hl _ _ _ => KeepM.put (Nat.le_refl _) W l o o' hl) (Below.refl _ _) (fun _ => hps.symm ▸ rfl)
  (fun pre W => J pre W ∧ (KeepM w.heap.size g w W ∧ Below 0 w W))
  (fun cd pre W => (cd = .ret ∧ Jx pre W) ∧ (KeepM w.heap.size g w W ∧ Below 0 w W))
  (hJ.and hkm)
  (fun cd => ((ownFrom_pure _ _).and hJx).and hkm)
  ⟨h0, KeepM.refl _ _ _, Below.refl _ _⟩
  (fun x a' W => ∃ Bx, w.heap.size ≤ Bx ∧ W.heap[Bx]? = some (.cells #[.int .i64 (partAt cuts dims x).1, .int .i64 (partAt cuts dims x).2.1, .int .i64 (partAt cuts dims x).2.2] 67 (0, 0)) ∧ a' = tm (partAt cuts dims x) Bx)
  (fun x a' _ X Y row hs hg2 hr2 => by
   obtain ⟨Bx, h1, h2, h3⟩ := hs
   refine ⟨Bx, h1, (hg2.block Bx (Array.getElem?_eq_some_iff.1 h2).1 (fun e => ?_)).trans h2, h3⟩
   obtain ⟨_, o, ho, hc2⟩ := hr2 Bx e.symm
   rw [h2] at ho
   cases ho
   cases hc2) ?assign ?body ?done ?stop
 case assign =>
  intro l pre x W K hI hK
  refine hassign l (partAt cuts dims x) W K (fun Bx e => hK _ _ ((KeepsOthers.alloc _ _).from _) (KeepM.below hI.2.1.size ((Below.refl _ W).alloc (Nat.le_refl _) _)) ?_ ⟨Bx, by rw [e]; exact hI.2.1.size, by rw [e]; exact World.alloc_heap_new W _, rfl⟩)
  exact (hJ.and hkm).alloc _ hI
 case body =>
  rintro l pre x a' W hl hr2 hI ⟨Bx, h1, h2, rfl⟩ hlt
  refine wpIn_mono (hbody l pre x.1 x.2 Bx W hlt h1 h2 hI.1 hI.2.1 hI.2.2) ?_
  rintro e a3 W3 hp
  cases e with
  | normal => exact ⟨hp.1.f, hp.1.m, hp.2, hI.2.1.trans hp.1.m, hI.2.2.trans hp.1.b⟩
  | ret => exact ⟨hp.1.f, ⟨rfl, hp.2⟩, hI.2.1.trans hp.1.m, hI.2.2.trans hp.1.b⟩
  | exit id => exact hp.elim
  | goto t => exact hp.elim
  | panic ch => exact hp.elim
  | outgrown => exact hp.elim
 case done =>
  intro D xs W hD hxs hI hK
  subst hxs
  exact hdone D W hD hI.1 hI.2.1 hI.2.2 hK
 case stop =>
  intro D cd pre W hD hpre hI hK
  obtain ⟨⟨rfl, h3⟩, h4, h5⟩ := hI
  exact hstop D pre W hD hpre h3 h4 h5 hK
theorem vector_rd_mid (pre : List Int) (x : Int) (v : List Int) : rd (pre ++ x :: v) (pre.length : Int) = x := by unfold rd; simp
theorem vector_Sub.ev_l (p : List Int) : ∀ (q pre q0 : List Int), p.length = q.length → pre.length = q0.length → (pre ++ p).length ≤ 1000000 → (∀ x ∈ p, -1000 ≤ x ∧ x ≤ 1000) → (∀ x ∈ q, -1000 ≤ x ∧ x ≤ 1000) →
  Ev (fun k => vector_Sub.l0 k (q0 ++ q) (pre ++ p) ((pre ++ p).length : Int) (pre.length : Int)) (pre ++ Plain.diffs p q) := by
 induction p with
 | nil =>
  intro q pre q0 h1 h2 hl _ _
  obtain rfl : q = [] := List.eq_nil_of_length_eq_zero (by simpa using h1.symm)
  refine Plain.ev_succ ?_
  simp only [vector_Sub.l0, List.append_nil]
  refine Plain.ev_neg (by omega) (Plain.ev_some ?_)
  simp [Plain.diffs]
 | cons x p ih =>
  intro q pre q0 h1 h2 hl hp hq
  obtain ⟨y, q, rfl⟩ : ∃ y t, q = y :: t := by
   cases q with
   | nil => simp at h1
   | cons y t => exact ⟨y, t, rfl⟩
  have hlen : ((pre ++ x :: p).length : Int) = pre.length + 1 + p.length := by simp; omega
  have hlen2 : ((q0 ++ y :: q).length : Int) = q0.length + 1 + q.length := by simp; omega
  have h1' : p.length = q.length := by simpa using h1
  have hx := hp x List.mem_cons_self
  have hy := hq y List.mem_cons_self
  have hn := ih q (pre ++ [x - y]) (q0 ++ [y]) h1' (by simp [h2]) (by simpa using hl) (fun z hz => hp z (List.mem_cons_of_mem _ hz)) (fun z hz => hq z (List.mem_cons_of_mem _ hz))
  have hl' : (pre ++ x :: p).length ≤ 1000000 := hl
  rw [show ((pre ++ [x - y]).length : Int) = (pre.length : Int) + 1 by simp, show q0 ++ [y] ++ q = q0 ++ y :: q by simp, show ((pre ++ [x - y] ++ p).length : Int) = ((pre ++ x :: p).length : Int) by simp] at hn
  refine Plain.ev_succ ?_
  simp only [vector_Sub.l0]
  refine Plain.ev_pos (by omega) (Plain.ev_pos (by omega) (Plain.ev_pos (by omega) (Plain.ev_pos (by omega) ?_)))
  rw [vector_rd_mid, show (pre.length : Int) = (q0.length : Int) by omega, vector_rd_mid, ← show (pre.length : Int) = (q0.length : Int) by omega, Plain.w64 (by omega) (by omega), Plain.w64 (by omega) (by omega), Int.toNat_natCast,
   show (pre ++ x :: p).set pre.length (x - y) = pre ++ [x - y] ++ p by rw [List.set_append]; simp]
  refine Plain.ev_cast hn ?_
  simp [Plain.diffs]
theorem vector_Sub.ev {p q : List Int} (h : Plain.alike p q) : Ev (fun k => vector_Sub.f k p q) (Plain.diffs p q) := by
 have h0 : Ev (fun k => vector_Sub.l0 k q p (p.length : Int) 0) _ := vector_Sub.ev_l p q [] [] h.2.2 rfl (by have := h.1.2.2; simp; omega) h.1.1 h.2.1.1
 refine Plain.ev_ob (show slices_Clone_int_int.f p = some p from if_pos (by have := h.1.2.2; omega)) h0
theorem vector_Key.ev {m : Int} (hm : 1 ≤ m ∧ m ≤ 3) {p q : List Int} (h : Plain.alike p q) : Ev (fun k => vector_Key.f k m p q) (Plain.key m p q) := by
 refine Plain.ev_bind (vector_Sub.ev h) (Plain.ev_ob (show vector_Norm.f m (Plain.diffs p q) = some (Plain.key m p q) from if_pos ⟨hm, Plain.diffs_range _ _ h.1.1 h.2.1.1, ?_⟩) (Plain.ev_some rfl))
 rw [Plain.diffs_length _ _ h.2.2]
 have := h.1.2.2
 omega
/-- the nearest word, and its key -/
def nearW (m : Int) (u : List Int) : List (List Int) → Nat → Int × Int → Int × Int
 | [], _, b => b
 | w :: ws, i, b => nearW m u ws (i + 1) (if Plain.key m w u < b.2 then ((i : Int), Plain.key m w u) else b)
def nearestOf (m : Int) (ws : List (List Int)) (u : List Int) : Int × Int := nearW m u ws 0 (0, 134217729)
theorem code_nearest.ev_l {m : Int} (hm : 1 ≤ m ∧ m ≤ 3) (c : List (List Int)) (hc : c.length ≤ 4096) (v : List Int) (q : List (List Int)) : ∀ (pre : List (List Int)) (b : Int × Int), c = pre ++ q → (∀ x ∈ q, Plain.alike x v) →
  Ev (fun k => code_nearest.l0 k m v b.1 b.2 c (c.length : Int) (pre.length : Int)) (nearW m v q pre.length b) := by
 induction q with
 | nil =>
  intro pre b hx _
  have h2 : c.length = pre.length := by rw [hx]; simp
  refine Plain.ev_succ ?_
  simp only [code_nearest.l0]
  exact Plain.ev_neg (by omega) (Plain.ev_some rfl)
 | cons x q ih =>
  intro pre b hx ha
  have h2 : (c.length : Int) = pre.length + 1 + q.length := by rw [hx]; simp; omega
  refine Plain.ev_succ ?_
  simp only [code_nearest.l0]
  refine Plain.ev_pos (by omega) (Plain.ev_pos (by omega) (Plain.ev_pos (by omega) ?_))
  rw [show rd_L1 c (pre.length : Int) = x by rw [hx]; unfold rd_L1; simp]
  refine Plain.ev_bind (vector_Key.ev hm (ha x List.mem_cons_self)) ?_
  rw [Plain.w64 (by omega) (by omega)]
  have hn := fun b => ih (pre ++ [x]) b (by rw [hx]; simp) (fun y hy => ha y (List.mem_cons_of_mem _ hy))
  by_cases h3 : Plain.key m x v < b.2
  ·have hn := hn ((pre.length : Int), Plain.key m x v)
   rw [show ((pre ++ [x]).length : Int) = (pre.length : Int) + 1 by simp, show (pre ++ [x]).length = pre.length + 1 by simp] at hn
   refine Plain.ev_pos h3 (Plain.ev_cast hn ?_)
   simp only [nearW, if_pos h3]
  ·have hn := hn b
   rw [show ((pre ++ [x]).length : Int) = (pre.length : Int) + 1 by simp, show (pre ++ [x]).length = pre.length + 1 by simp] at hn
   refine Plain.ev_neg h3 (Plain.ev_cast hn ?_)
   simp only [nearW, if_neg h3]
theorem code_nearest.ev {m : Int} (hm : 1 ≤ m ∧ m ≤ 3) {c : List (List Int)} (hc : c.length ≤ 4096) {v : List Int} (ha : ∀ x ∈ c, Plain.alike x v) : Ev (fun k => code_nearest.f k m c v) (nearestOf m c v) :=
 code_nearest.ev_l hm c hc v c [] (0, 134217729) rfl ha
/-- a codebook that is right -/
def cutOk (cuts : List Int) (dims : Int) : Prop := (1 ≤ dims ∧ dims ≤ 32) ∧ (1 ≤ cuts.length ∧ cuts.length ≤ 8) ∧ rd cuts 0 = 0 ∧ (∀ i, i < cuts.length → rd cuts (i : Int) < dims) ∧ ∀ i, i < cuts.length - 1 → rd cuts (i : Int) < rd cuts ((i + 1 : Nat) : Int)
instance (cuts : List Int) (dims : Int) : Decidable (cutOk cuts dims) := by unfold cutOk; infer_instance
def wordsAt (words : List (List (List Int))) (i : Nat) : List (List Int) := words.getD i []
def bookOk (dims : Int) (cuts : List Int) (words : List (List (List Int))) : Prop := cutOk cuts dims ∧ words.length = cuts.length ∧
 ∀ i, i < cuts.length → (1 ≤ (wordsAt words i).length ∧ (wordsAt words i).length ≤ 256) ∧ ∀ w ∈ wordsAt words i, Plain.isVec w ∧ (w.length : Int) = (partAt cuts dims i).2.2 - (partAt cuts dims i).2.1
instance (dims : Int) (cuts : List Int) (words : List (List (List Int))) : Decidable (bookOk dims cuts words) := by unfold bookOk; infer_instance
/-- a part of a vector -/
def partOf (v : List Int) (x : Int × Int × Int) : List Int := (v.take x.2.2.toNat).drop x.2.1.toNat
theorem cut_nonneg {cuts : List Int} {dims : Int} (h : cutOk cuts dims) : ∀ i, i < cuts.length → 0 ≤ rd cuts (i : Int)
 | 0, _ => by have := h.2.2.1; show 0 ≤ rd cuts 0; omega
 | i + 1, hi => by have := cut_nonneg h i (by omega); have := h.2.2.2.2 i (by omega); omega
theorem part_range {cuts : List Int} {dims : Int} (h : cutOk cuts dims) {i : Nat} (hi : i < cuts.length) : 0 ≤ (partAt cuts dims i).2.1 ∧ (partAt cuts dims i).2.1 < (partAt cuts dims i).2.2 ∧ (partAt cuts dims i).2.2 ≤ dims := by
 have h0 := cut_nonneg h i hi
 have h1 := h.2.2.2.1 i hi
 unfold partAt
 dsimp only
 split
 ·rename_i h2
  have := h.2.2.2.2 i (by omega)
  have := h.2.2.2.1 (i + 1) h2
  exact ⟨h0, by omega, by omega⟩
 ·exact ⟨h0, h1, Int.le_refl _⟩
theorem partOf_length {cuts : List Int} {dims : Int} (h : cutOk cuts dims) {i : Nat} (hi : i < cuts.length) {v : List Int} (hv : (v.length : Int) = dims) : ((partOf v (partAt cuts dims i)).length : Int) = (partAt cuts dims i).2.2 - (partAt cuts dims i).2.1 := by
 have := part_range h hi
 unfold partOf
 rw [List.length_drop, List.length_take]
 omega
theorem partOf_vec {cuts : List Int} {dims : Int} (h : cutOk cuts dims) {i : Nat} (hi : i < cuts.length) {v : List Int} (hv : (v.length : Int) = dims) (hs : Plain.isVec v) : Plain.isVec (partOf v (partAt cuts dims i)) := by
 have hl := partOf_length h hi hv
 have := part_range h hi
 have := h.1
 exact ⟨fun x hx => hs.1 x (List.mem_of_mem_take (List.mem_of_mem_drop hx)), by omega, by omega⟩
theorem code_part_of.is {cuts : List Int} {dims : Int} (h : cutOk cuts dims) {i : Nat} (hi : i < cuts.length) {v : List Int} (hv : (v.length : Int) = dims) : code_part_of.f (partAt cuts dims i).1 (partAt cuts dims i).2.1 (partAt cuts dims i).2.2 v = some (partOf v (partAt cuts dims i)) := by
 have := part_range h hi
 unfold code_part_of.f partOf
 rw [if_pos (by omega), if_pos (by omega), if_pos (by omega)]
theorem book_alike {dims : Int} {cuts : List Int} {words : List (List (List Int))} (h : bookOk dims cuts words) {i : Nat} (hi : i < cuts.length) {v : List Int} (hv : (v.length : Int) = dims) (hs : Plain.isVec v) : ∀ w ∈ wordsAt words i, Plain.alike w (partOf v (partAt cuts dims i)) := fun w hw => by
 have h2 := (h.2.2 i hi).2 w hw
 exact ⟨h2.1, partOf_vec h.1 hi hv hs, by have := partOf_length h.1 hi hv; omega⟩
section
attribute [local go_sem] Oper.semAt_some
theorem blk_allocs : ∀ (os : List Obj) (w : World) (i : Nat) (h : i < os.length), (os.foldl World.alloc w).heap[w.heap.size + i]? = some os[i] ∧ (os.foldl World.alloc w).heap.size = w.heap.size + os.length ∧ Below w.heap.size w (os.foldl World.alloc w)
 | [], _, _, h => absurd h (Nat.not_lt_zero _)
 | [o], w, 0, _ => ⟨blk_new w o, World.size_alloc _ _, (Below.refl _ w).alloc (Nat.le_refl _) _⟩
 | o :: o2 :: os, w, 0, _ => by
  obtain ⟨h1, h2, h3⟩ := blk_allocs (o2 :: os) (w.alloc o) 0 (by simp)
  refine ⟨(h3.block w.heap.size (by simp)).trans (blk_new w o), by rw [List.foldl_cons, h2]; simp; omega, ((Below.refl _ w).alloc (Nat.le_refl _) o).trans (h3.mono (by simp))⟩
 | o :: os, w, i + 1, h => by
  obtain ⟨h1, h2, h3⟩ := blk_allocs os (w.alloc o) i (by simpa using h)
  refine ⟨?_, by rw [List.foldl_cons, h2]; simp; omega, ((Below.refl _ w).alloc (Nat.le_refl _) o).trans (h3.mono (by simp))⟩
  rw [World.size_alloc, Nat.add_assoc, Nat.add_comm 1 i] at h1
  exact h1
theorem own_box {α β : Type} (d : Kd α) (e T M g : Nat) (f : β → List α) : OwnFrom M (fun s W => ∃ vo, W.heap[g]? = some (.cells #[vo] T (0, 0)) ∧ d.R e W M (fun k => k ≠ g) vo (f s)) := by
 rintro s X Y row ⟨vo, h1, h2⟩ hg hr
 have hne : ∀ k cells t, X.heap[k]? = some (.cells cells t (0, 0)) → some k ≠ row := fun k cells t h e => by
  obtain ⟨_, o, ho, hc⟩ := hr k e.symm
  rw [h] at ho
  cases ho
  cases hc
 exact ⟨vo, (hg.block g (blk_lt h1) (hne _ _ _ h1)).trans h1, Kd.R_mono (Kd.R_grown (Kd.R_bound h2) hg (fun k hk => by
  obtain ⟨_, _, _, q, _, cells, hc⟩ := hk
  exact hne k _ _ hc)) (fun _ hk => hk.1)⟩
theorem below_of {n M g : Nat} {w W0 W : World} (hb : Below n w W0) (hk : KeepM M g W0 W) (h0 : Below 0 W0 W) (h1 : n ≤ M) (h2 : n ≤ g) : Below n w W :=
 hb.trans ⟨h0.os, h0.tape, h0.output, h0.size, fun k hk' => hk.block k (by omega) (by omega)⟩
/-- the code of a vector -/
def encodeAt (dims : Int) (cuts : List Int) (words : List (List (List Int))) (m : Int) (v : List Int) (i : Nat) : Int × Int := nearestOf m (wordsAt words i) (partOf v (partAt cuts dims i))
def encodeOf (dims : Int) (cuts : List Int) (words : List (List (List Int))) (m : Int) (v : List Int) (l : List (Fin cuts.length)) : List Int := l.map (fun i => (encodeAt dims cuts words m v i.val).1)
def readOk (dims : Int) (cuts : List Int) (words : List (List (List Int))) (m : Int) (v : List Int) : Prop := (1 ≤ m ∧ m ≤ 3) ∧ bookOk dims cuts words ∧ Plain.isVec v ∧ (v.length : Int) = dims
instance (dims : Int) (cuts : List Int) (words : List (List (List Int))) (m : Int) (v : List Int) : Decidable (readOk dims cuts words m v) := by unfold readOk; infer_instance
theorem read_near {dims : Int} {cuts : List Int} {words : List (List (List Int))} {m : Int} {v : List Int} (h : readOk dims cuts words m v) {i : Nat} (hi : i < cuts.length) : ∃ k, code_nearest.f k m (wordsAt words i) (partOf v (partAt cuts dims i)) = some (encodeAt dims cuts words m v i) := by
 have h1 := (h.2.1.2.2 i hi).1.2
 obtain ⟨k, hk⟩ := code_nearest.ev h.1 (c := wordsAt words i) (by omega) (book_alike h.2.1 hi h.2.2.2 h.2.2.1)
 exact ⟨k, hk k (Nat.le_refl _)⟩
def code_Encode.f (a0_0 : Int) (l0_1 : List Int) (l0_2 : List (List (List Int))) (a1 : Int) (l2 : List Int) : Option (List Int) := if readOk a0_0 l0_1 l0_2 a1 l2 then some (encodeOf a0_0 l0_1 l0_2 a1 l2 (List.finRange l0_1.length)) else none
def code_Encode.T4 : Bool × List (List Nat × List Nat) := (true, [([], []), ([], []), ([1], [1]), ([], []), ([3], [3]), ([2, 4], [2, 4]), ([5], [5]), ([], []), ([], []), ([7, 8], [7, 8]), ([0, 6, 9, 9], [0, 6, 9]), ([10], [10]), ([11], [11]), ([11], [11]), ([12, 10, 0, 1, 2, 3, 4, 5, 6, 7, 8, 9, 10, 11, 12], [12]), ([13, 14, 0, 1, 2, 3, 4, 5, 6, 7, 8, 9, 10, 11, 12, 13, 14], [13])])
def code_Encode.B4 : List Nat := [0, 0, 2, 0, 8, 30, 62, 0, 0, 384, 1023, 2047, 4095, 4095, 8191, 32767]
theorem code_Encode.tab4 : rtab .any (opsOf Try.f18 4) = code_Encode.T4 := by kernel_rfl
theorem code_Encode.bits4 : waitsOk code_Encode.T4.2 code_Encode.B4 = true := by kernel_rfl
set_option maxHeartbeats 8000000 in
set_option maxRecDepth 100000 in
theorem code_Encode.calls (a0_0 : Int) (A0_1 : Option Addr) (c0_1 : Nat) (l0_1 : List Int) (A0_2 : Option Addr) (c0_2 : Nat) (l0_2 : List (List (List Int))) (a1 : Int) (A2 : Option Addr) (c2 : Nat) (l2 : List Int) (r : List Int) (w : World) (hr0_1 : Kd.C (Kd.int .i64) w A0_1 l0_1.length l0_1) (hc0_1 : l0_1.length ≤ c0_1) (hr0_2 : Kd.C (Kd.slice 22 (Kd.slice 3 (Kd.int .i64))) w A0_2 l0_2.length l0_2) (hc0_2 : l0_2.length ≤ c0_2) (hr2 : Kd.C (Kd.int .i64) w A2 l2.length l2) (hc2 : l2.length ≤ c2) (h : code_Encode.f a0_0 l0_1 l0_2 a1 l2 = some r) :
  Calls Try.prog 18 #[.agg #[.int .i64 a0_0, .slice A0_1 l0_1.length c0_1, .slice A0_2 l0_2.length c0_2], .int .i64 a1, .slice A2 l2.length c2] w fun e w' => ∃ v0_ : Value, e = .returned (v0_) ∧ Kd.R (Kd.int .i64) 3 w' w.heap.size (fun _ => True) v0_ r ∧ Below w.heap.size w w' := by
 have hok : readOk a0_0 l0_1 l0_2 a1 l2 := by
  unfold code_Encode.f at h
  split at h
  ·assumption
  ·cases h
 obtain rfl : encodeOf a0_0 l0_1 l0_2 a1 l2 (List.finRange l0_1.length) = r := by
  unfold code_Encode.f at h
  rw [if_pos hok] at h
  exact Option.some.inj h
 clear h
 refine (callsIn_wide (n := 6)).1 ?_
 refine callsIn_of_wp_marks Try.func18 rfl trivial ?_ rfl
 simp only [Try.ntmps18, List.size_toArray, List.length_cons, List.length_nil, Nat.reduceAdd, Nat.reduceSub, Array.replicate_succ, Array.replicate_zero, List.push_toArray, List.append_toArray, List.nil_append, List.cons_append]
 gi_wp2_with (refine ⟨trivial, ?_⟩; gi_at_call 39; refine (callsIn_wide.2 (code_parts.called _ _ _ _ _)).mono ?_; rintro e w' ⟨rfl, rfl⟩)
 have ha := blk_allocs [.cells #[.int .i64 a0_0, .slice A0_1 l0_1.length c0_1, .slice A0_2 l0_2.length c0_2] 25, .cells #[.int .i64 a1] 3, .cells #[.slice A2 l2.length c2] 22, .cells #[.slice none 0 0] 22, .cells #[.slice A0_1 l0_1.length c0_1] 22, .cells #[.int .i64 a0_0] 3] w
 simp only [List.foldl_cons, List.foldl_nil] at ha
 have b0 := (ha 0 (by simp)).1
 have b1 := (ha 1 (by simp)).1
 have b2 := (ha 2 (by simp)).1
 have b3 := (ha 3 (by simp)).1
 have b4 := (ha 4 (by simp)).1
 have b5 := (ha 5 (by simp)).1
 obtain ⟨_, hsz, hbw⟩ := ha 0 (by simp)
 clear ha
 simp only [List.length_cons, List.length_nil, Nat.reduceAdd, List.getElem_cons_zero, List.getElem_cons_succ, Nat.add_zero] at b0 b1 b2 b3 b4 b5 hsz
 obtain ⟨W0, hW0⟩ : ∃ W0, ((((((w.alloc (.cells #[.int .i64 a0_0, .slice A0_1 l0_1.length c0_1, .slice A0_2 l0_2.length c0_2] 25)).alloc (.cells #[.int .i64 a1] 3)).alloc (.cells #[.slice A2 l2.length c2] 22)).alloc (.cells #[.slice none 0 0] 22)).alloc (.cells #[.slice A0_1 l0_1.length c0_1] 22)).alloc (.cells #[.int .i64 a0_0] 3)) = W0 := ⟨_, rfl⟩
 rw [hW0] at b0 b1 b2 b3 b4 b5 hsz hbw ⊢
 clear hW0
 simp only [Nat.add_assoc, Nat.reduceAdd]
 have hcl : l0_1.length ≤ 8 := hok.2.1.1.2.1.2
 obtain ⟨bb, hbb⟩ : ∃ bb, bb = w.heap.size := ⟨_, rfl⟩
 obtain ⟨bm, hbm⟩ : ∃ bm, bm = w.heap.size + 1 := ⟨_, rfl⟩
 obtain ⟨bv, hbv⟩ : ∃ bv, bv = w.heap.size + 2 := ⟨_, rfl⟩
 obtain ⟨g, hg⟩ : ∃ g, g = w.heap.size + 3 := ⟨_, rfl⟩
 obtain ⟨bc, hbc⟩ : ∃ bc, bc = w.heap.size + 4 := ⟨_, rfl⟩
 obtain ⟨bd, hbd⟩ : ∃ bd, bd = w.heap.size + 5 := ⟨_, rfl⟩
 rw [← hbm] at b1 ⊢
 rw [← hbv] at b2 ⊢
 rw [← hg] at b3 ⊢
 rw [← hbc] at b4 ⊢
 rw [← hbd] at b5 ⊢
 rw [← hbb] at b0 ⊢
 refine code_parts.loop 6 (by decide) g bc bd A0_1 c0_1 l0_1 a0_0 rfl rfl (by omega) (by omega) (by omega) ((blk_cell b4 0).trans rfl) ((blk_cell b5 0).trans rfl)
  (Kd.F_mono (Kd.F_below (Kd.C_F (Kd.heap_int _) hr0_1) hbw) (fun k hk => ⟨by omega, by omega⟩))
  (fun pre W => ∃ vo, W.heap[g]? = some (.cells #[vo] 22 (0, 0)) ∧ (Kd.int .i64).R 3 W W0.heap.size (fun k => k ≠ g) vo (encodeOf a0_0 l0_1 l0_2 a1 l2 pre)) (fun _ _ => False)
  (own_box _ _ _ _ _ _) (fun _ _ _ _ hs _ _ => hs) ⟨_, b3, Kd.R_nil _ _ _ _ _⟩
  (fun x Bx => { tmps := #[Value.agg #[Value.int IntKind.i64 a0_0, Value.slice A0_1 l0_1.length c0_1, Value.slice A0_2 l0_2.length c0_2],
     Value.int IntKind.i64 a1, Value.slice A2 l2.length c2, Value.pointer (some { block := bb, off := 0 }), Value.pointer (some { block := bm, off := 0 }),
     Value.pointer (some { block := bv, off := 0 }), Value.slice none 0 0, Value.pointer (some { block := g, off := 0 }), Value.pointer (some { block := Bx, off := 0 }), undef, undef,
     Value.pointer (some { block := bb, off := 1 }), Value.slice A0_1 l0_1.length c0_1, Value.pointer (some { block := bb, off := 0 }), Value.int IntKind.i64 a0_0,
     Value.func (Fn.func 63) #[] #[Value.pointer (some { block := bc, off := 0 }), Value.pointer (some { block := bd, off := 0 })],
     partV x, undef, undef, undef, undef, undef, undef, undef, undef, undef, undef, undef, undef, undef, undef, undef, undef, undef, undef, undef], defers := [] }) ?assign ?body ?done ?stop
 case assign =>
  rintro l ⟨x0, x1, x2⟩ W K hK
  clear hbb hbm hbv hg hbc hbd
  have hz67 := Try.zeroValue67
  gi_wp2
  rfl
 case stop => exact fun _ _ _ _ _ h => h.elim
 case done =>
  rintro D W hD ⟨vo, hgv, hR⟩ hK h0 hk
  have hB0 := below_of hbw hK h0 (by omega) (by omega)
  have hW0 : w.heap.size ≤ W0.heap.size := by omega
  have hs0 := hB0.size
  have hs1 := hK.size
  clear hbb hbm hbv hg hbc hbd
  have hgc : W.cell? ⟨g, 0, none⟩ = some vo := (blk_cell hgv 0).trans rfl
  gi_wp2
  refine ⟨by simp, .inl ⟨_, _, rfl, run_takeDeferred hk, ?_⟩⟩
  exact ⟨_, results_tmp rfl _ _ _, vo, rfl, Kd.R_mono (Kd.R_lower (Kd.R_grown (Kd.R_bound hR) (grownBy_putObj' W D (.deferred none)) (fun k hq e => by
   obtain ⟨_, _, _, q, _, cells, hc⟩ := hq
   cases e
   rw [hk] at hc
   cases hc)) hW0) (fun _ _ => trivial), hB0.grown (grownBy_putObj' W D (.deferred none)) (by omega) (fun k e => by cases e; omega)⟩
 case body =>
  rintro l pre i hi Bx W hlt hBx hX ⟨vo, hgv, hR⟩ hK h0
  have hB0 := below_of hbw hK h0 (by omega) (by omega)
  have HBW := Aside0.mk hB0
  have hWs : W0.heap.size ≤ W.heap.size := hK.size
  obtain ⟨x1, x2, hpt⟩ : ∃ x1 x2, partAt l0_1 a0_0 i = ((i : Int), x1, x2) := ⟨_, _, rfl⟩
  have hpo := code_part_of.is hok.2.1.1 hi hok.2.2.2
  obtain ⟨k, hnr⟩ := read_near hok hi
  obtain ⟨⟨y1, y2⟩, hen⟩ : ∃ y, encodeAt a0_0 l0_1 l0_2 a1 l2 i = y := ⟨_, rfl⟩
  rw [hen] at hnr
  rw [hpt] at hX hpo hnr ⊢
  dsimp only at hX hpo
  have hwl : l0_2.length = l0_1.length := hok.2.1.2.1
  obtain ⟨ad, A3, c3, e3, hx3, hl3, hr3⟩ := at_L2 hr0_2 (i : Int) (by omega) (by omega)
  cases e3
  rw [Int.toNat_natCast] at hx3
  change w.cell? (ad.add i) = some (.slice A3 (wordsAt l0_2 i).length c3) at hx3
  change (wordsAt l0_2 i).length ≤ c3 at hl3
  change (Kd.slice 3 (Kd.int .i64)).C w A3 (wordsAt l0_2 i).length (wordsAt l0_2 i) at hr3
  have hcw := pw_cell_below hB0 hx3
  have hcm : W.cell? ⟨bm, 0, none⟩ = some (.int .i64 a1) := (blk_cell ((hK.block bm (by omega) (by omega)).trans b1) 0).trans rfl
  have hcb : W.cell? ⟨bb, 2, none⟩ = some (.slice (some ad) l0_2.length c0_2) := (blk_cell ((hK.block bb (by omega) (by omega)).trans b0) 2).trans rfl
  have hcv : W.cell? ⟨bv, 0, none⟩ = some (.slice A2 l2.length c2) := (blk_cell ((hK.block bv (by omega) (by omega)).trans b2) 0).trans rfl
  have hp0 : W.cell? ⟨Bx, 0, none⟩ = some (.int .i64 (i : Int)) := (blk_cell hX 0).trans rfl
  have hp1 : W.cell? ⟨Bx, 1, none⟩ = some (.int .i64 x1) := (blk_cell hX 1).trans rfl
  have hp2 : W.cell? ⟨Bx, 2, none⟩ = some (.int .i64 x2) := (blk_cell hX 2).trans rfl
  have q0 : (0 : Int) ≤ (i : Int) := by omega
  have q1 : (i : Int) < (l0_2.length : Int) := by omega
  have hWM : W0.heap.size ≤ W.heap.size := hK.size
  have hgM : g < W.heap.size := by omega
  have hW0 : w.heap.size ≤ W0.heap.size := by omega
  clear hbb hbm hbv hg hbc hbd hsz hwl
  refine wpIn_block (wpIn_seq ?_)
  refine Plain.start_in (n := 16) (S := fun w' => w'.cell? ⟨bm, 0, none⟩ = some (.int .i64 a1) ∧ w'.cell? ⟨bb, 2, none⟩ = some (.slice (some ad) l0_2.length c0_2) ∧ w'.cell? ⟨Bx, 0, none⟩ = some (.int .i64 (i : Int)) ∧ w'.cell? ⟨Bx, 1, none⟩ = some (.int .i64 x1) ∧ w'.cell? ⟨Bx, 2, none⟩ = some (.int .i64 x2) ∧ w'.cell? (ad.add i) = some (.slice A3 (wordsAt l0_2 i).length c3) ∧ w'.cell? ⟨bv, 0, none⟩ = some (.slice A2 l2.length c2)) (ds := []) #[false, false, false, false, false, false, false, false, false, false, false, false, false, false, false, false] (by kernel_rfl) rfl rfl (by rfl) (fun _ _ h => h) ⟨hcm, hcb, hp0, hp1, hp2, hcw, hcv⟩ (fun hHeld => ?_)
  refine with_tabW code_Encode.tab4 code_Encode.bits4 (fun HT_ HW_ => ?_)
  refine pure_ (i := 1) (N := some 19) (v := ?_) (a' := ?_) #[false, true, false, false, false, false, false, false, false, false, false, false, false, false, false, false] rfl rfl (any_of HT_.out (by kernel_rfl)) (fun _ _ _ h => h) (Or.inl ⟨by rfl, ?_⟩) ?_ ?_
  rotate_left
  ·intro w'
   go_simp
   with_reducible rfl
  rotate_left
  ·simp only [Act.put, List.setIfInBounds_toArray, List.set_cons_zero, List.set_cons_succ, i64_w, i32_w]
   rfl
  refine pure_ (i := 3) (N := some 21) (v := ?_) (a' := ?_) #[false, true, false, true, false, false, false, false, false, false, false, false, false, false, false, false] rfl rfl (any_of HT_.out (by kernel_rfl)) (fun _ _ _ h => h) (Or.inl ⟨by rfl, ?_⟩) ?_ ?_
  rotate_left
  ·intro w'
   go_simp
   with_reducible rfl
  rotate_left
  ·simp only [Act.put, List.setIfInBounds_toArray, List.set_cons_zero, List.set_cons_succ, i64_w, i32_w]
   rfl
  refine take_ (i := 0) (N := some 18) (v := ?_) (a' := ?_) #[true, true, false, true, false, false, false, false, false, false, false, false, false, false, false, false] rfl rfl (take_ofW HT_.out HW_.out (by kernel_rfl)) (fun _ _ _ h => h) (Or.inl ⟨by rfl, ?_⟩) hHeld ?_ ?_
  rotate_left
  ·rintro w' ⟨s0, s1, s2, s3, s4, s5, s6⟩
   go_simp
   with_reducible rfl
  rotate_left
  ·simp only [Act.put, List.setIfInBounds_toArray, List.set_cons_zero, List.set_cons_succ, i64_w, i32_w]
   rfl
  refine take_ (i := 2) (N := some 20) (v := ?_) (a' := ?_) #[true, true, true, true, false, false, false, false, false, false, false, false, false, false, false, false] rfl rfl (take_ofW HT_.out HW_.out (by kernel_rfl)) (fun _ _ _ h => h) (Or.inl ⟨by rfl, ?_⟩) hHeld ?_ ?_
  rotate_left
  ·rintro w' ⟨s0, s1, s2, s3, s4, s5, s6⟩
   go_simp
   with_reducible rfl
  rotate_left
  ·simp only [Act.put, List.setIfInBounds_toArray, List.set_cons_zero, List.set_cons_succ, i64_w, i32_w]
   rfl
  refine take_ (i := 4) (N := some 22) (v := ?_) (a' := ?_) #[true, true, true, true, true, false, false, false, false, false, false, false, false, false, false, false] rfl rfl (take_ofW HT_.out HW_.out (by kernel_rfl)) (fun _ _ _ h => h) (Or.inl ⟨by rfl, ?_⟩) hHeld ?_ ?_
  rotate_left
  ·rintro w' ⟨s0, s1, s2, s3, s4, s5, s6⟩
   go_simp
   with_reducible rfl
  rotate_left
  ·simp only [Act.put, List.setIfInBounds_toArray, List.set_cons_zero, List.set_cons_succ, i64_w, i32_w]
   rfl
  refine pure_ (i := 5) (N := some 23) (v := ?_) (a' := ?_) #[true, true, true, true, true, true, false, false, false, false, false, false, false, false, false, false] rfl rfl (any_of HT_.out (by kernel_rfl)) (fun _ _ _ h => h) (Or.inl ⟨by rfl, ?_⟩) ?_ ?_
  rotate_left
  ·intro w'
   go_simp
   with_reducible rfl
  rotate_left
  ·simp only [Act.put, List.setIfInBounds_toArray, List.set_cons_zero, List.set_cons_succ, i64_w, i32_w]
   rfl
  refine take_ (i := 6) (N := some 24) (v := ?_) (a' := ?_) #[true, true, true, true, true, true, true, false, false, false, false, false, false, false, false, false] rfl rfl (take_ofW HT_.out HW_.out (by kernel_rfl)) (fun _ _ _ h => h) (Or.inl ⟨by rfl, ?_⟩) hHeld ?_ ?_
  rotate_left
  ·rintro w' ⟨s0, s1, s2, s3, s4, s5, s6⟩
   go_simp
   with_reducible rfl
  rotate_left
  ·simp only [Act.put, List.setIfInBounds_toArray, List.set_cons_zero, List.set_cons_succ, i64_w, i32_w]
   rfl
  refine take_ (i := 7) (N := some 25) (v := ?_) (a' := ?_) #[true, true, true, true, true, true, true, true, false, false, false, false, false, false, false, false] rfl rfl (take_ofW HT_.out HW_.out (by kernel_rfl)) (fun _ _ _ h => h) (Or.inl ⟨by rfl, ?_⟩) hHeld ?_ ?_
  rotate_left
  ·rintro w' ⟨s0, s1, s2, s3, s4, s5, s6⟩
   go_simp
   with_reducible rfl
  rotate_left
  ·simp only [Act.put, List.setIfInBounds_toArray, List.set_cons_zero, List.set_cons_succ, i64_w, i32_w]
   rfl
  refine take_ (i := 8) (N := some 26) (v := ?_) (a' := ?_) #[true, true, true, true, true, true, true, true, true, false, false, false, false, false, false, false] rfl rfl (take_ofW HT_.out HW_.out (by kernel_rfl)) (fun _ _ _ h => h) (Or.inl ⟨by rfl, ?_⟩) hHeld ?_ ?_
  rotate_left
  ·rintro w' ⟨s0, s1, s2, s3, s4, s5, s6⟩
   go_simp
   with_reducible rfl
  rotate_left
  ·simp only [Act.put, List.setIfInBounds_toArray, List.set_cons_zero, List.set_cons_succ, i64_w, i32_w]
   rfl
  refine one_ (i := 9) (N := some 27) #[true, true, true, true, true, true, true, true, true, true, false, false, false, false, false, false] rfl rfl (one_of HT_.out (by kernel_rfl)) (by decide) (fun K hK => ?_)
  refine goes_ Try.func48 (by kernel_rfl) rfl #[.agg #[.int .i64 (i : Int), .int .i64 x1, .int .i64 x2], .slice A2 l2.length c2] (by rfl) rfl rfl (by simp only [List.map_toArray, List.map_cons, List.map_nil]; rfl) ?_
  with_reducible refine (code_part_of.calls _ _ _ (fun k => True) _ _ _ _ _ (Kd.V_mk hc2 (Kd.F_mono (Kd.C_F (Kd.heap_int _) (Kd.C_below hr2 (below_drew1 HBW.out))) (fun _ _ => trivial))) hpo).mono ?_
  rintro e w3 ⟨v3, rfl, hv, hb⟩
  refine ⟨_, rfl, ?_⟩
  obtain ⟨A4, c4, rfl⟩ := Kd.V_slice hv
  obtain ⟨_, hl4, hr4⟩ := Kd.V_reads' hv
  have hB3 := below_step (below_drew1 (Below.refl W.heap.size W)) hb
  have hBw3 := below_step (below_drew1 HBW.out) hb
  refine hK.out _ _ ⟨(pw_cell_below hb hHeld.1), (pw_cell_below hb hHeld.2.1), (pw_cell_below hb hHeld.2.2.1), (pw_cell_below hb hHeld.2.2.2.1), (pw_cell_below hb hHeld.2.2.2.2.1), (pw_cell_below hb hHeld.2.2.2.2.2.1), (pw_cell_below hb hHeld.2.2.2.2.2.2)⟩ (fun hHeld => ?_)
  clear hK K
  refine norm_ (a' := ?_) ?_ ?_
  rotate_left
  ·show Act.put _ (some 27) _ = _
   simp only [Act.put, List.setIfInBounds_toArray, List.set_cons_zero, List.set_cons_succ, i64_w, i32_w]
   rfl
  refine one_ (i := 10) (N := some 28) #[true, true, true, true, true, true, true, true, true, true, true, false, false, false, false, false] rfl rfl (one_of HT_.out (by kernel_rfl)) (by decide) (fun K hK => ?_)
  refine goes_ Try.func47 (by kernel_rfl) rfl #[.int .i64 a1, .slice A3 (wordsAt l0_2 i).length c3, .slice A4 (partOf l2 ((i : Int), x1, x2)).length c4] (by rfl) rfl rfl (by simp only [List.map_toArray, List.map_cons, List.map_nil]; rfl) ?_
  with_reducible refine (code_nearest.calls _ _ _ _ _ _ _ _ _ _ _ (Kd.C_below hr3 hBw3) hl3 hr4 hl4 hnr).mono ?_
  rintro e w5 ⟨rfl, hb2⟩
  refine ⟨_, rfl, ?_⟩
  have hB5 := below_step hB3 hb2
  clear hB3 hBw3 hv hl4 hr4
  refine hK.out _ _ ⟨(pw_cell_below hb2 hHeld.1), (pw_cell_below hb2 hHeld.2.1), (pw_cell_below hb2 hHeld.2.2.1), (pw_cell_below hb2 hHeld.2.2.2.1), (pw_cell_below hb2 hHeld.2.2.2.2.1), (pw_cell_below hb2 hHeld.2.2.2.2.2.1), (pw_cell_below hb2 hHeld.2.2.2.2.2.2)⟩ (fun hHeld => ?_)
  clear hK K
  refine norm_ (a' := ?_) ?_ ?_
  rotate_left
  ·show Act.put _ (some 28) _ = _
   simp only [Act.put, List.setIfInBounds_toArray, List.set_cons_zero, List.set_cons_succ, i64_w, i32_w]
   rfl
  refine pure_ (i := 11) (N := some 17) (v := ?_) (a' := ?_) #[true, true, true, true, true, true, true, true, true, true, true, true, false, false, false, false] rfl rfl (any_of HT_.out (by kernel_rfl)) (fun _ _ _ h => h) (Or.inl ⟨by rfl, ?_⟩) ?_ ?_
  rotate_left
  ·intro w'
   go_simp
   with_reducible rfl
  rotate_left
  ·simp only [Act.put, List.setIfInBounds_toArray, List.set_cons_zero, List.set_cons_succ, i64_w, i32_w]
   rfl
  refine pure_ (i := 12) (N := some 29) (v := ?_) (a' := ?_) #[true, true, true, true, true, true, true, true, true, true, true, true, true, false, false, false] rfl rfl (any_of HT_.out (by kernel_rfl)) (fun _ _ _ h => h) (Or.inl ⟨by rfl, ?_⟩) ?_ ?_
  rotate_left
  ·intro w'
   go_simp
   with_reducible rfl
  rotate_left
  ·simp only [Act.put, List.setIfInBounds_toArray, List.set_cons_zero, List.set_cons_succ, i64_w, i32_w]
   rfl
  refine pure_ (i := 13) (N := some 30) (v := ?_) (a' := ?_) #[true, true, true, true, true, true, true, true, true, true, true, true, true, true, false, false] rfl rfl (any_of HT_.out (by kernel_rfl)) (fun _ _ _ h => h) (Or.inl ⟨by rfl, ?_⟩) ?_ ?_
  rotate_left
  ·intro w'
   go_simp
   with_reducible rfl
  rotate_left
  ·simp only [Act.put, List.setIfInBounds_toArray, List.set_cons_zero, List.set_cons_succ, i64_w, i32_w]
   rfl
  refine pure_ (i := 14) (N := some 9) (v := ?_) (a' := ?_) #[true, true, true, true, true, true, true, true, true, true, true, true, true, true, true, false] rfl rfl (any_of HT_.out (by kernel_rfl)) (fun _ _ _ h => h) (Or.inl ⟨by rfl, ?_⟩) ?_ ?_
  rotate_left
  ·intro w'
   go_simp
   with_reducible rfl
  rotate_left
  ·simp only [Act.put, List.setIfInBounds_toArray, List.set_cons_zero, List.set_cons_succ, i64_w, i32_w]
   rfl
  refine pure_ (i := 15) (N := some 10) (v := ?_) (a' := ?_) #[true, true, true, true, true, true, true, true, true, true, true, true, true, true, true, true] rfl rfl (any_of HT_.out (by kernel_rfl)) (fun _ _ _ h => h) (Or.inl ⟨by rfl, ?_⟩) ?_ ?_
  rotate_left
  ·intro w'
   go_simp
   with_reducible rfl
  rotate_left
  ·simp only [Act.put, List.setIfInBounds_toArray, List.set_cons_zero, List.set_cons_succ, i64_w, i32_w]
   rfl
  refine done_ (done_of HT_.out (by kernel_rfl)) ?_
  refine Plain.region_in (by rfl) (fun _ _ h => h) ?_
  have hg5 := (hB5.block g hgM).trans hgv
  have hgc : w5.cell? ⟨g, 0, none⟩ = some vo := (blk_cell hg5 0).trans rfl
  have HR5 := Aside0.mk (Kd.R_below hR hB5)
  have hg5l := blk_lt hg5
  have hM5 : W0.heap.size ≤ w5.heap.size := Nat.le_trans hWM hB5.size
  have hln : (encodeOf a0_0 l0_1 l0_2 a1 l2 pre).length ≤ 8 := by rw [encodeOf, List.length_map]; omega
  have HB5 := Aside0.mk hB5
  have HG5 := Aside0.mk hg5
  clear hB5 hg5
  clear hX hgv hR h0 hB0 HBW hx3 hl3 hr3 hpo hnr hr0_1 hr0_2 hr2 hok hbw b0 b1 b2 b3 b4 b5 hHeld hcw hcm hcb hcv hp0 hp1 hp2
  go_wp2_with (first | ((with_reducible refine gate_builtin (b := .append) (xs := #[.tmp 31, .tmp 33]) rfl ?_); at_builtin; refine Kd.R_append (Kd.int .i64) (w0 := w5) W0.heap.size rfl (.tmp 31) (.tmp 33) 22 3 (.int .i64 0) 8 rfl Try.underlying22 info3 rfl (by decide) (by omega) vo (encodeOf a0_0 l0_1 l0_2 a1 l2 pre) y1 [.int .i64 y1] (fun k => k ≠ g) (fun _ => False) rfl rfl rfl (fun _ hk => hk.elim) (fun k hk => by omega) HR5.out (Below.refl _ _) hM5 (by omega) ?_; intro v1 w6 ho hb hg6 hat; obtain ⟨A6, c6, rfl⟩ := Kd.R_slice ho; have hb6 := (hg6.block g (blk_lt HG5.out) (fun e => HR5.out.1 g e.symm rfl)).trans HG5.out; have hgc6 : w6.cell? ⟨g, 0, none⟩ = some vo := (blk_cell hb6 0).trans rfl; have hgf6 := blk_frozen hb6 0; have HB6 := Aside0.mk hb6; have HG6 := Aside0.mk hg6; have HO6 := Aside0.mk ho; clear hb6 hg6 ho hb hat))
  have hen2 : encodeOf a0_0 l0_1 l0_2 a1 l2 (pre ++ [⟨i, hi⟩]) = encodeOf a0_0 l0_1 l0_2 a1 l2 pre ++ [y1] := by rw [encodeOf, List.map_append, List.map_singleton, hen]; rfl
  exact ⟨(Kr.below hWM HB5.out).trans ((Kr.grown HG6.out (fun k e => by
    obtain ⟨_, h2, _, q, _, cells, hc⟩ := (Kd.R_bound HR5.out).1 k e
    exact ⟨h2, cells, q, hc⟩) hM5).trans (Kr.set ⟨g, 0, none⟩ (.inl rfl) _)), _, blk_set HB6.out 0 _, by
    rw [hen2]
    have h7 := HO6.out
    simp only [List.length_append, List.length_cons, List.length_nil, Nat.zero_add] at h7
    exact Kd.R_far (p := ⟨g, 0, none⟩) h7 (fun _ hk => hk) _⟩
end
theorem run_lookup_at {P : Program} {W : World} {b : Nat} (mty kt et : TypeId) (es : Array MapEntry) (clock : Nat) (k : Int) {i : Nat} (val : Value) (hb : W.heap[b]? = some (.map es clock)) (hm : P.underlying mty = some (.map kt et)) (hk : P.underlying kt = some (.int .i64))
  (hf : Instr.findNow (.int .i64) (.int .i64 k) es.toList 0 = some (some (i, val))) :
  (Instr.lookup mty (.map (some b)) (.int .i64 k) false).run P W = .ok val W := by
 have hc : ∀ W, (Instr.checkKey es.isEmpty 10000 kt (.int .i64 k)).run P W = .ok () W := fun W => MapKept.run_checkKey (k := .int .i64 k) hk (by simp [MapKept.IsKey]) es.isEmpty 9999
 simp [Instr.lookup, run_underlying hm, MapKept.run_getObj_map hb, hc, MapKept.run_findKey hk hf, Result.andThen]
abbrev joinEs : Array MapEntry := #[{ key := .int .i64 1, val := .func (.func 67) #[] #[], born := 0 }, { key := .int .i64 2, val := .func (.func 67) #[] #[], born := 1 }, { key := .int .i64 3, val := .func (.func 68) #[] #[], born := 2 }]
theorem code_ins1 (w : World) : (Instr.mapUpdate 75 (.map (some w.heap.size)) (.int .i64 1) (.func (.func 67) #[] #[])).run Try.prog (w.alloc (.map #[] 0)) = .ok () (w.alloc (.map #[{ key := .int .i64 1, val := .func (.func 67) #[] #[], born := 0 }] 1)) :=
 Plain.run_insert_last w _ _ _ _ _ _ _ Try.underlying75 Try.underlying3 (by rfl)
theorem code_ins2 (w : World) : (Instr.mapUpdate 75 (.map (some w.heap.size)) (.int .i64 2) (.func (.func 67) #[] #[])).run Try.prog (w.alloc (.map #[{ key := .int .i64 1, val := .func (.func 67) #[] #[], born := 0 }] 1)) = .ok () (w.alloc (.map #[{ key := .int .i64 1, val := .func (.func 67) #[] #[], born := 0 }, { key := .int .i64 2, val := .func (.func 67) #[] #[], born := 1 }] 2)) :=
 Plain.run_insert_last w _ _ _ _ _ _ _ Try.underlying75 Try.underlying3 (by rfl)
theorem code_ins3 (w : World) : (Instr.mapUpdate 75 (.map (some w.heap.size)) (.int .i64 3) (.func (.func 68) #[] #[])).run Try.prog (w.alloc (.map #[{ key := .int .i64 1, val := .func (.func 67) #[] #[], born := 0 }, { key := .int .i64 2, val := .func (.func 67) #[] #[], born := 1 }] 2)) = .ok () (w.alloc (.map joinEs 3)) :=
 Plain.run_insert_last w _ _ _ _ _ _ _ Try.underlying75 Try.underlying3 (by rfl)
theorem code_joins.calls (w : World) : Calls Try.prog 50 #[] w fun e w' => e = .returned (.map (some w.heap.size)) ∧ w' = w.alloc (.map joinEs 3) := by
 have hm1 : ∀ W, (Instr.makeMap 75 none).run Try.prog W = .ok (.map (some W.heap.size)) (W.alloc (.map #[] 0)) := fun W => run_makeMap _ W
 have hm2 := code_ins1
 have hm3 := code_ins2
 have hm4 := code_ins3
 go_enter Try.func50, Try.ntmps50
 go_wp2
 go_ret
 exact ⟨rfl, rfl⟩
/-- what puts keys together -/
def joinFn (m : Int) : Nat := if m = 3 then 68 else 67
theorem joinFn_or (m : Int) : joinFn m = 68 ∨ joinFn m = 67 := by unfold joinFn; split <;> simp
theorem code_joins.look {m : Int} (hm : 1 ≤ m ∧ m ≤ 3) {W : World} {b : Nat} (hb : W.heap[b]? = some (.map joinEs 3)) : (Instr.lookup 75 (.map (some b)) (.int .i64 m) false).run Try.prog W = .ok (.func (.func (joinFn m)) #[] #[]) W := by
 rcases (show m = 1 ∨ m = 2 ∨ m = 3 by omega) with h | h | h <;> subst h
 ·exact run_lookup_at _ _ _ _ _ _ _ hb Try.underlying75 Try.underlying3 (by rfl)
 ·exact run_lookup_at _ _ _ _ _ _ _ hb Try.underlying75 Try.underlying3 (by rfl)
 ·exact run_lookup_at _ _ _ _ _ _ _ hb Try.underlying75 Try.underlying3 (by rfl)
theorem code_join.calls {m : Int} (hm : 1 ≤ m ∧ m ≤ 3) (a b : Int) (w : World) (ha : 0 ≤ a ∧ a ≤ 1152921504606846976) (hb : 0 ≤ b ∧ b ≤ 1152921504606846976) : Calls Try.prog (joinFn m) #[.int .i64 a, .int .i64 b] w fun e w' => e = .returned (.int .i64 (Plain.join m a b)) ∧ Drawn0 w w' := by
 obtain ⟨ha0, ha1⟩ := ha
 obtain ⟨hb0, hb1⟩ := hb
 by_cases h : m = 3
 ·subst h
  have e : Plain.join 3 a b = mx a b := by unfold Plain.join mx; rw [if_neg (by decide)]; all_goals (split <;> split <;> omega)
  rw [e]
  obtain ⟨y, hy⟩ : ∃ y, mx a b = y := ⟨_, rfl⟩
  rw [hy]
  clear e
  unfold mx at hy
  show Calls Try.prog 68 _ _ _
  go_enter Try.func68, Try.ntmps68
  go_wp2
  go_ret
  exact ⟨rfl, Drawn0.refl _⟩
 ·have e : Plain.join m a b = a + b := by unfold Plain.join; rw [if_pos (by omega)]
  rw [e, show joinFn m = 67 from if_neg h]
  clear e
  go_enter Try.func67, Try.ntmps67
  go_wp2
  go_ret
  exact ⟨rfl, Drawn0.refl _⟩
end Go.Proofs.Ytgpdfalopdhjlaa.Q
end
section
namespace Go.Proofs.Ytgpdfalopdhjlaa.Q
open Go.RowKit Go.Proofs.YtgpdfalopdhjlaaW.PrintWords Go.Proofs.YtgpdfalopdhjlaaW.PrintLast Go.Proofs.YtgpdfalopdhjlaaW.PrintMore
attribute [local go_sem] max2_int min2_int max_two min_two max_three min_three max_four min_four   -- for this text's walks alone
set_option linter.unusedVariables false
set_option linter.unusedSimpArgs false
section
attribute [local go_sem] Oper.semAt_some
theorem code_joins.calls2 (w : World) : Calls Try.prog 50 #[] w fun e w' => ∃ b, e = .returned (.map (some b)) ∧ w'.heap[b]? = some (.map joinEs 3) ∧ Below w.heap.size w w' :=
 (code_joins.calls w).mono (by rintro e w' ⟨rfl, rfl⟩; exact ⟨_, rfl, blk_new _ _, below_alloc (Below.refl _ _) _⟩)
theorem norm_only {F : Fence} {n : Nat} {P : Program} {c : Code} {K : Act → World → Prop} {Q : Exit → Act → World → Prop} {a : Act} {w : World} (h : c.wpIn F n P (Exit.then K (fun _ _ _ => False)) a w) : c.wpIn F n P (Exit.then K Q) a w :=
 wpIn_mono h (fun e a w h => by cases e <;> first | exact h | exact h.elim)
theorem own_boxv {β : Type} (T M g : Nat) (f : β → Value) : OwnFrom M (fun s W => W.heap[g]? = some (.cells #[f s] T (0, 0))) := by
 rintro s X Y row h1 hg hr
 refine (hg.block g (blk_lt h1) (fun e => ?_)).trans h1
 obtain ⟨_, o, ho, hc⟩ := hr g e.symm
 rw [h1] at ho
 cases ho
 cases hc
theorem nearW_snd {m : Int} {u : List Int} {B : Int} : ∀ (ws : List (List Int)) (i : Nat) (b : Int × Int), 0 ≤ b.2 ∧ b.2 ≤ B → 0 ≤ (nearW m u ws i b).2 ∧ (nearW m u ws i b).2 ≤ B
 | [], _, _, h => h
 | w :: ws, i, b, h => by
  unfold nearW
  refine nearW_snd ws (i + 1) _ ?_
  have := Plain.key_nonneg m w u
  split
  ·exact ⟨this, by show Plain.key m w u ≤ B; omega⟩
  ·exact h
theorem encodeAt_snd (dims : Int) (cuts : List Int) (words : List (List (List Int))) (m : Int) (v : List Int) (i : Nat) : 0 ≤ (encodeAt dims cuts words m v i).2 ∧ (encodeAt dims cuts words m v i).2 ≤ 134217729 := nearW_snd _ _ _ ⟨by decide, by decide⟩
def residualOf (dims : Int) (cuts : List Int) (words : List (List (List Int))) (m : Int) (v : List Int) (l : List (Fin cuts.length)) : Int := l.foldl (fun a i => Plain.join m a (encodeAt dims cuts words m v i.val).2) 0
theorem residualOf_bound (dims : Int) (cuts : List Int) (words : List (List (List Int))) (m : Int) (v : List Int) (l : List (Fin cuts.length)) : 0 ≤ residualOf dims cuts words m v l ∧ residualOf dims cuts words m v l ≤ 134217729 * (l.length : Int) := by
 have key : ∀ (l : List (Fin cuts.length)) (a : Int), 0 ≤ a → 0 ≤ l.foldl (fun a i => Plain.join m a (encodeAt dims cuts words m v i.val).2) a ∧ l.foldl (fun a i => Plain.join m a (encodeAt dims cuts words m v i.val).2) a ≤ a + 134217729 * (l.length : Int) := by
  intro l
  induction l with
  | nil => intro a h; exact ⟨h, by simp⟩
  | cons x l ih =>
   intro a h
   have h2 := encodeAt_snd dims cuts words m v x.val
   have h3 := Plain.join_nonneg m h h2.1
   have h4 := Plain.join_le_add m h h2.1
   have := ih _ h3
   rw [List.foldl_cons, List.length_cons]
   omega
 have := key l 0 (Int.le_refl _)
 unfold residualOf
 omega
def code_Residual.f (a0_0 : Int) (l0_1 : List Int) (l0_2 : List (List (List Int))) (a1 : Int) (l2 : List Int) : Option Int := if readOk a0_0 l0_1 l0_2 a1 l2 then some (residualOf a0_0 l0_1 l0_2 a1 l2 (List.finRange l0_1.length)) else none
def code_Residual.T1 : Bool × List (List Nat × List Nat) := (true, [([], []), ([], []), ([0, 1], [0, 1]), ([], []), ([3, 2, 0, 0, 1, 2, 3], [2, 3])])
def code_Residual.B1 : List Nat := [0, 0, 3, 0, 15]
theorem code_Residual.tab1 : rtab .any (opsOf Try.f20 1) = code_Residual.T1 := by kernel_rfl
theorem code_Residual.bits1 : waitsOk code_Residual.T1.2 code_Residual.B1 = true := by kernel_rfl
def code_Residual.T5 : Bool × List (List Nat × List Nat) := (true, [([], []), ([], []), ([1], [1]), ([], []), ([3], [3]), ([2, 4], [2, 4]), ([5], [5]), ([], []), ([], []), ([7, 8], [7, 8]), ([0, 6, 9, 9], [0, 6, 9]), ([10], [10]), ([11], [11]), ([11], [11]), ([12, 10, 0, 1, 2, 3, 4, 5, 6, 7, 8, 9, 10, 11, 12], [12]), ([13, 14, 0, 1, 2, 3, 4, 5, 6, 7, 8, 9, 10, 11, 12, 13, 14], [13])])
def code_Residual.B5 : List Nat := [0, 0, 2, 0, 8, 30, 62, 0, 0, 384, 1023, 2047, 4095, 4095, 8191, 32767]
theorem code_Residual.tab5 : rtab .any (opsOf Try.f20 5) = code_Residual.T5 := by kernel_rfl
theorem code_Residual.bits5 : waitsOk code_Residual.T5.2 code_Residual.B5 = true := by kernel_rfl
set_option maxHeartbeats 8000000 in
set_option maxRecDepth 100000 in
theorem code_Residual.calls (a0_0 : Int) (A0_1 : Option Addr) (c0_1 : Nat) (l0_1 : List Int) (A0_2 : Option Addr) (c0_2 : Nat) (l0_2 : List (List (List Int))) (a1 : Int) (A2 : Option Addr) (c2 : Nat) (l2 : List Int) (r : Int) (w : World) (hr0_1 : Kd.C (Kd.int .i64) w A0_1 l0_1.length l0_1) (hc0_1 : l0_1.length ≤ c0_1) (hr0_2 : Kd.C (Kd.slice 22 (Kd.slice 3 (Kd.int .i64))) w A0_2 l0_2.length l0_2) (hc0_2 : l0_2.length ≤ c0_2) (hr2 : Kd.C (Kd.int .i64) w A2 l2.length l2) (hc2 : l2.length ≤ c2) (h : code_Residual.f a0_0 l0_1 l0_2 a1 l2 = some r) :
  Calls Try.prog 20 #[.agg #[.int .i64 a0_0, .slice A0_1 l0_1.length c0_1, .slice A0_2 l0_2.length c0_2], .int .i64 a1, .slice A2 l2.length c2] w fun e w' => e = .returned (.int .i64 r) ∧ Below w.heap.size w w' := by
 have hok : readOk a0_0 l0_1 l0_2 a1 l2 := by
  unfold code_Residual.f at h
  split at h
  ·assumption
  ·cases h
 obtain rfl : residualOf a0_0 l0_1 l0_2 a1 l2 (List.finRange l0_1.length) = r := by
  unfold code_Residual.f at h
  rw [if_pos hok] at h
  exact Option.some.inj h
 clear h
 refine (callsIn_wide (n := 6)).1 ?_
 refine callsIn_of_wp_marks Try.func20 rfl trivial ?_ rfl
 simp only [Try.ntmps20, List.size_toArray, List.length_cons, List.length_nil, Nat.reduceAdd, Nat.reduceSub, Array.replicate_succ, Array.replicate_zero, List.push_toArray, List.append_toArray, List.nil_append, List.cons_append]
 gi_wp2
 rename_i K hKK
 have ha := blk_allocs [.cells #[.int .i64 a0_0, .slice A0_1 l0_1.length c0_1, .slice A0_2 l0_2.length c0_2] 25, .cells #[.int .i64 a1] 3, .cells #[.slice A2 l2.length c2] 22] w
 simp only [List.foldl_cons, List.foldl_nil] at ha
 have b0 := (ha 0 (by simp)).1
 have b1 := (ha 1 (by simp)).1
 have b2 := (ha 2 (by simp)).1
 obtain ⟨_, hsz, hbw⟩ := ha 0 (by simp)
 clear ha
 simp only [List.length_cons, List.length_nil, Nat.reduceAdd, List.getElem_cons_zero, List.getElem_cons_succ, Nat.add_zero] at b0 b1 b2 hsz
 obtain ⟨W3, hW3⟩ : ∃ W3, (((w.alloc (.cells #[.int .i64 a0_0, .slice A0_1 l0_1.length c0_1, .slice A0_2 l0_2.length c0_2] 25)).alloc (.cells #[.int .i64 a1] 3)).alloc (.cells #[.slice A2 l2.length c2] 22)) = W3 := ⟨_, rfl⟩
 rw [hW3] at b0 b1 b2 hsz hbw ⊢
 clear hW3
 simp only [Nat.add_assoc, Nat.reduceAdd]
 have hcl : l0_1.length ≤ 8 := hok.2.1.1.2.1.2
 have hm12 := hok.1
 obtain ⟨bb, hbb⟩ : ∃ bb, bb = w.heap.size := ⟨_, rfl⟩
 obtain ⟨bm, hbm⟩ : ∃ bm, bm = w.heap.size + 1 := ⟨_, rfl⟩
 obtain ⟨bv, hbv⟩ : ∃ bv, bv = w.heap.size + 2 := ⟨_, rfl⟩
 rw [← hbm] at b1 ⊢
 rw [← hbv] at b2 ⊢
 rw [← hbb] at b0 ⊢
 have hcm : W3.cell? ⟨bm, 0, none⟩ = some (.int .i64 a1) := (blk_cell b1 0).trans rfl
 have HBB := Aside0.mk hbb
 have HBM := Aside0.mk hbm
 have HBV := Aside0.mk hbv
 have HSZ := Aside0.mk hsz
 clear hbb hbm hbv hsz
 refine norm_only (wpIn_wide.2 ?_)
 refine start_ (n := 5) (S := fun w' => w'.cell? ⟨bm, 0, none⟩ = some (.int .i64 a1)) (ds := [4]) #[false, false, false, false, false] (by kernel_rfl) rfl rfl (hcm) (fun hHeld => ?_)
 refine with_tabW code_Residual.tab1 code_Residual.bits1 (fun HT_ HW_ => ?_)
 refine take_ (i := 1) (N := some 13) (v := ?_) (a' := ?_) #[false, true, false, false, false] rfl rfl (take_ofW HT_.out HW_.out (by kernel_rfl)) (fun _ _ _ h => h) (Or.inl ⟨by rfl, ?_⟩) hHeld ?_ ?_
 rotate_left
 ·intro w' s0
  go_simp
  with_reducible rfl
 rotate_left
 ·simp only [Act.put, List.setIfInBounds_toArray, List.set_cons_zero, List.set_cons_succ, i64_w, i32_w]
  rfl
 refine join_ (σ := Nat × Nat) 1 #[true, true, true, true, false] (fun s => [(12, .map (some s.1)), (14, .func (.func (joinFn a1)) #[] #[]), (7, .pointer (some ⟨s.2, 0, none⟩))]) (fun s w' => w'.heap[s.1]? = some (.map joinEs 3) ∧ w'.heap[s.2]? = some (Obj.cells #[Value.nilFunc] 74 (0, 0)) ∧ W3.heap.size ≤ s.2 ∧ Below W3.heap.size W3 w' ∧ w'.cell? ⟨bm, 0, none⟩ = some (.int .i64 a1)) ?_ ?_
 rotate_left
 ·intro hCont
  refine two_ (i := 0) (j := 3) (Ni := some 12) (Nj := some 7) #[true, true, false, false, false] #[false, true, false, true, false] rfl rfl rfl rfl (two_of HT_.out (by kernel_rfl)) (by decide) (by decide) (fun K hK => ?_) (fun K hK => ?_)
  ·skip
   refine goes_ Try.func50 (by kernel_rfl) rfl #[] (by rfl) rfl rfl (by simp only [List.map_toArray, List.map_nil]) ?_
   with_reducible refine (code_joins.calls2 _).mono ?_
   rintro e w5 ⟨b, rfl, hmap, hb⟩
   refine ⟨_, rfl, ?_⟩
   have hBl := below_step (below_drew1 (Below.refl W3.heap.size W3)) hb
   refine hK.out _ _ ((pw_cell_below hb hHeld)) (fun hHeld => ?_)
   clear hK K
   refine norm_ (a' := ?_) ?_ ?_
   rotate_left
   ·show Act.put _ (some 12) _ = _
    simp only [Act.put, List.setIfInBounds_toArray, List.set_cons_zero, List.set_cons_succ, i64_w, i32_w]
    rfl
   refine two_ (i := 2) (j := 3) (Ni := some 14) (Nj := some 7) #[true, true, true, false, false] #[true, true, false, true, false] rfl rfl rfl rfl (two_of HT_.out (by kernel_rfl)) (by decide) (by decide) (fun K hK => ?_) (fun K hK => ?_)
   ·skip
    have hlk := code_joins.look hm12 hmap
    refine value_ (w1 := ?_) (v := ?_) (by rfl) rfl ?_ ?_
    rotate_left 2
    ·go_simp
     constructor
     ·rfl
     ·rfl
    clear hlk
    refine hK.out _ _ (hHeld) (fun hHeld => ?_)
    clear hK K
    refine norm_ (a' := ?_) ?_ ?_
    rotate_left
    ·show Act.put _ (some 14) _ = _
     simp only [Act.put, List.setIfInBounds_toArray, List.set_cons_zero, List.set_cons_succ, i64_w, i32_w]
     rfl
    refine one_ (i := 3) (N := some 7) #[true, true, true, true, false] rfl rfl (one_of HT_.out (by kernel_rfl)) (by decide) (fun K hK => ?_)
    refine value_ (w1 := ?_) (v := ?_) (by rfl) rfl ?_ ?_
    rotate_left 2
    ·go_simp
     constructor
     ·rfl
     ·rfl
    have hcel := blk_new w5 (Obj.cells #[Value.nilFunc] 74)
    have hjl : W3.heap.size ≤ w5.heap.size := hBl.size
    have hBl2 := below_alloc hBl (Obj.cells #[Value.nilFunc] 74)
    clear hBl
    have hBl := hBl2
    clear hBl2
    have hmap2 := blk_alloc hmap (Obj.cells #[Value.nilFunc] 74)
    clear hmap
    have hmap := hmap2
    clear hmap2
    have hhj := pw_cell_below (below_alloc (Below.refl w5.heap.size w5) (Obj.cells #[Value.nilFunc] 74)) hHeld
    generalize w5.alloc (Obj.cells #[Value.nilFunc] 74) = w6 at *
    refine hK.out _ _ (hhj) (fun hHeld => ?_)
    clear hK K
    refine norm_ (a' := ?_) ?_ ?_
    rotate_left
    ·show Act.put _ (some 7) _ = _
     simp only [Act.put, List.setIfInBounds_toArray, List.set_cons_zero, List.set_cons_succ, i64_w, i32_w]
     rfl
    exact norm_ (by simp only [putAll, Act.put, List.setIfInBounds_toArray, List.set_cons_zero, List.set_cons_succ]) (hCont (b, w5.heap.size) _ ⟨hmap, hcel, hjl, hBl, hHeld⟩)
   ·skip
    refine value_ (w1 := ?_) (v := ?_) (by rfl) rfl ?_ ?_
    rotate_left 2
    ·go_simp
     constructor
     ·rfl
     ·rfl
    have hcel := blk_new w5 (Obj.cells #[Value.nilFunc] 74)
    have hjl : W3.heap.size ≤ w5.heap.size := hBl.size
    have hBl2 := below_alloc hBl (Obj.cells #[Value.nilFunc] 74)
    clear hBl
    have hBl := hBl2
    clear hBl2
    have hmap2 := blk_alloc hmap (Obj.cells #[Value.nilFunc] 74)
    clear hmap
    have hmap := hmap2
    clear hmap2
    have hhj := pw_cell_below (below_alloc (Below.refl w5.heap.size w5) (Obj.cells #[Value.nilFunc] 74)) hHeld
    generalize w5.alloc (Obj.cells #[Value.nilFunc] 74) = w6 at *
    refine hK.out _ _ (hhj) (fun hHeld => ?_)
    clear hK K
    refine norm_ (a' := ?_) ?_ ?_
    rotate_left
    ·show Act.put _ (some 7) _ = _
     simp only [Act.put, List.setIfInBounds_toArray, List.set_cons_zero, List.set_cons_succ, i64_w, i32_w]
     rfl
    refine one_ (i := 2) (N := some 14) #[true, true, true, true, false] rfl rfl (one_of HT_.out (by kernel_rfl)) (by decide) (fun K hK => ?_)
    have hlk := code_joins.look hm12 hmap
    refine value_ (w1 := ?_) (v := ?_) (by rfl) rfl ?_ ?_
    rotate_left 2
    ·go_simp
     constructor
     ·rfl
     ·rfl
    clear hlk
    refine hK.out _ _ (hHeld) (fun hHeld => ?_)
    clear hK K
    refine norm_ (a' := ?_) ?_ ?_
    rotate_left
    ·show Act.put _ (some 14) _ = _
     simp only [Act.put, List.setIfInBounds_toArray, List.set_cons_zero, List.set_cons_succ, i64_w, i32_w]
     rfl
    exact norm_ (by simp only [putAll, Act.put, List.setIfInBounds_toArray, List.set_cons_zero, List.set_cons_succ]) (hCont (b, w5.heap.size) _ ⟨hmap, hcel, hjl, hBl, hHeld⟩)
  ·skip
   refine value_ (w1 := ?_) (v := ?_) (by rfl) rfl ?_ ?_
   rotate_left 2
   ·go_simp
    constructor
    ·rfl
    ·rfl
   have hcel : (W3.alloc (Obj.cells #[Value.nilFunc] 74)).drew.heap[W3.heap.size]? = some (Obj.cells #[Value.nilFunc] 74) := blk_new W3 _
   have hBl := below_drew1 (below_alloc (Below.refl W3.heap.size W3) (Obj.cells #[Value.nilFunc] 74))
   have hjl : W3.heap.size ≤ W3.heap.size := Nat.le_refl _
   have hhj : (W3.alloc (Obj.cells #[Value.nilFunc] 74)).drew.cell? ⟨bm, 0, none⟩ = some (.int .i64 a1) := pw_cell_below hBl hHeld
   generalize (W3.alloc (Obj.cells #[Value.nilFunc] 74)).drew = w6 at *
   refine hK.out _ _ (hhj) (fun hHeld => ?_)
   clear hK K
   refine norm_ (a' := ?_) ?_ ?_
   rotate_left
   ·show Act.put _ (some 7) _ = _
    simp only [Act.put, List.setIfInBounds_toArray, List.set_cons_zero, List.set_cons_succ, i64_w, i32_w]
    rfl
   refine one_ (i := 0) (N := some 12) #[true, true, false, true, false] rfl rfl (one_of HT_.out (by kernel_rfl)) (by decide) (fun K hK => ?_)
   refine goes_ Try.func50 (by kernel_rfl) rfl #[] (by rfl) rfl rfl (by simp only [List.map_toArray, List.map_nil]) ?_
   with_reducible refine (code_joins.calls2 _).mono ?_
   rintro e w5 ⟨b, rfl, hmap, hb⟩
   refine ⟨_, rfl, ?_⟩
   have hBl2 := below_step hBl hb
   have hcel2 := (hb.block _ (blk_lt hcel)).trans hcel
   clear hBl hcel
   have hBl := hBl2
   have hcel := hcel2
   clear hBl2 hcel2
   refine hK.out _ _ ((pw_cell_below hb hHeld)) (fun hHeld => ?_)
   clear hK K
   refine norm_ (a' := ?_) ?_ ?_
   rotate_left
   ·show Act.put _ (some 12) _ = _
    simp only [Act.put, List.setIfInBounds_toArray, List.set_cons_zero, List.set_cons_succ, i64_w, i32_w]
    rfl
   refine one_ (i := 2) (N := some 14) #[true, true, true, true, false] rfl rfl (one_of HT_.out (by kernel_rfl)) (by decide) (fun K hK => ?_)
   have hlk := code_joins.look hm12 hmap
   refine value_ (w1 := ?_) (v := ?_) (by rfl) rfl ?_ ?_
   rotate_left 2
   ·go_simp
    constructor
    ·rfl
    ·rfl
   clear hlk
   refine hK.out _ _ (hHeld) (fun hHeld => ?_)
   clear hK K
   refine norm_ (a' := ?_) ?_ ?_
   rotate_left
   ·show Act.put _ (some 14) _ = _
    simp only [Act.put, List.setIfInBounds_toArray, List.set_cons_zero, List.set_cons_succ, i64_w, i32_w]
    rfl
   exact norm_ (by simp only [putAll, Act.put, List.setIfInBounds_toArray, List.set_cons_zero, List.set_cons_succ]) (hCont (b, W3.heap.size) _ ⟨hmap, hcel, hjl, hBl, hHeld⟩)
 rintro ⟨b, j⟩ w5 ⟨hmap, hcel, hjl, hBl, hHeld⟩
 dsimp only at hmap hcel hjl ⊢
 have hcj : w5.cell? ⟨j, 0, none⟩ = some Value.nilFunc := (blk_cell hcel 0).trans rfl
 have hfj := blk_frozen hcel 0
 refine norm_ (a' := ?_) ?_ ?_
 rotate_left
 ·simp only [putAll, Act.put, List.setIfInBounds_toArray, List.set_cons_zero, List.set_cons_succ]
  rfl
 refine last_ (i := 4) (N := none) #[true, true, true, true, true] rfl rfl (one_of HT_.out (by kernel_rfl)) (by decide) (fun K hK => ?_)
 refine skip_ (w1 := ?_) (by rfl) rfl ?_ ?_
 rotate_left
 ·go_simp
  rfl
 refine hK.out _ _ ?_
 clear hK K
 refine done_ (done_of HT_.out (by kernel_rfl)) ?_
 have hj5 := blk_set hcel 0 (.func (.func (joinFn a1)) #[] #[])
 have hB5 := below_set (j := 0) (v := .func (.func (joinFn a1)) #[] #[]) hBl hjl
 have hjs : j < (w5.setCell ⟨j, 0, none⟩ (.func (.func (joinFn a1)) #[] #[])).heap.size := blk_lt hj5
 clear hcel hBl hmap hHeld hcj hfj
 generalize w5.setCell ⟨j, 0, none⟩ (.func (.func (joinFn a1)) #[] #[]) = W5 at *
 have hW5 := hB5.size
 have b0' := (hB5.block bb (by have := HBB.out; have := HSZ.out; omega)).trans b0
 have hal := below_alloc (Below.refl W5.heap.size W5) (.cells #[.int .i64 0] 3)
 have hq1 : (W5.alloc (.cells #[.int .i64 0] 3)).cell? ⟨bb, 1, none⟩ = some (.slice A0_1 l0_1.length c0_1) := pw_cell_below hal ((blk_cell b0' 1).trans rfl)
 have hq0 : (W5.alloc (.cells #[.int .i64 0] 3)).cell? ⟨bb, 0, none⟩ = some (.int .i64 a0_0) := pw_cell_below hal ((blk_cell b0' 0).trans rfl)
 show K _ _
 gi_wp2_with (refine ⟨trivial, ?_⟩; gi_at_call 39; refine (callsIn_wide.2 (code_parts.called _ _ _ _ _)).mono ?_; rintro e w' ⟨rfl, rfl⟩)
 have ha := blk_allocs [.cells #[.int .i64 0] 3, .cells #[.slice A0_1 l0_1.length c0_1] 22, .cells #[.int .i64 a0_0] 3] W5
 simp only [List.foldl_cons, List.foldl_nil] at ha
 have b3 := (ha 0 (by simp)).1
 have b4 := (ha 1 (by simp)).1
 have b5 := (ha 2 (by simp)).1
 obtain ⟨_, hsz, hbw0⟩ := ha 0 (by simp)
 clear ha hq1 hq0 hal
 simp only [List.length_cons, List.length_nil, Nat.reduceAdd, List.getElem_cons_zero, List.getElem_cons_succ, Nat.add_zero] at b3 b4 b5 hsz
 obtain ⟨W0, hW0⟩ : ∃ W0, ((W5.alloc (.cells #[.int .i64 0] 3)).alloc (.cells #[.slice A0_1 l0_1.length c0_1] 22)).alloc (.cells #[.int .i64 a0_0] 3) = W0 := ⟨_, rfl⟩
 rw [hW0] at b3 b4 b5 hsz hbw0 ⊢
 clear hW0
 simp only [Nat.add_assoc, Nat.reduceAdd]
 have hSZ3 := HSZ.out
 have hBB1 := HBB.out
 have hBM1 := HBM.out
 have hBV1 := HBV.out
 have hbw2 : Below w.heap.size w W0 := hbw.trans ((hB5.mono (by omega)).trans (hbw0.mono (by omega)))
 have b0'' := (hbw0.block bb (by omega)).trans b0'
 have b1'' := (hbw0.block bm (by omega)).trans ((hB5.block bm (by omega)).trans b1)
 have b2'' := (hbw0.block bv (by omega)).trans ((hB5.block bv (by omega)).trans b2)
 have hj'' := (hbw0.block j hjs).trans hj5
 obtain ⟨g, hg⟩ : ∃ g, g = W5.heap.size := ⟨_, rfl⟩
 obtain ⟨bc, hbc⟩ : ∃ bc, bc = W5.heap.size + 1 := ⟨_, rfl⟩
 obtain ⟨bd, hbd⟩ : ∃ bd, bd = W5.heap.size + 2 := ⟨_, rfl⟩
 rw [← hbc] at b4 ⊢
 rw [← hbd] at b5 ⊢
 rw [← hg] at b3 ⊢
 refine code_parts.loop 6 (by decide) g bc bd A0_1 c0_1 l0_1 a0_0 rfl rfl (by omega) (by omega) (by omega) ((blk_cell b4 0).trans rfl) ((blk_cell b5 0).trans rfl)
  (Kd.F_mono (Kd.F_below (Kd.C_F (Kd.heap_int _) hr0_1) hbw2) (fun k hk => ⟨by omega, by omega⟩))
  (fun pre W => W.heap[g]? = some (.cells #[.int .i64 (residualOf a0_0 l0_1 l0_2 a1 l2 pre)] 3 (0, 0))) (fun _ _ => False)
  (own_boxv _ _ _ _) (fun _ _ _ _ hs _ _ => hs) b3
  (fun x Bx => { tmps := #[Value.agg #[Value.int IntKind.i64 a0_0, Value.slice A0_1 l0_1.length c0_1, Value.slice A0_2 l0_2.length c0_2],
     Value.int IntKind.i64 a1, Value.slice A2 l2.length c2, Value.pointer (some { block := bb, off := 0 }), Value.pointer (some { block := bm, off := 0 }),
     Value.pointer (some { block := bv, off := 0 }), Value.int IntKind.i64 0, Value.pointer (some { block := j, off := 0 }), Value.pointer (some { block := g, off := 0 }), Value.pointer (some { block := Bx, off := 0 }), undef, undef,
     Value.map (some b), Value.int IntKind.i64 a1, Value.func (Fn.func (joinFn a1)) #[] #[],
     Value.pointer (some { block := bb, off := 1 }), Value.slice A0_1 l0_1.length c0_1, Value.pointer (some { block := bb, off := 0 }), Value.int IntKind.i64 a0_0,
     Value.func (Fn.func 63) #[] #[Value.pointer (some { block := bc, off := 0 }), Value.pointer (some { block := bd, off := 0 })],
     partV x, undef, undef, undef, undef, undef, undef, undef, undef, undef, undef, undef, undef, undef, undef, undef, undef, undef, undef, undef], defers := [] }) ?assign ?body ?done ?stop
 case assign =>
  rintro l ⟨x0, x1, x2⟩ W K hK
  clear hBB1 hBM1 hBV1 hg hbc hbd
  have hz67 := Try.zeroValue67
  gi_wp2
  rfl
 case stop => exact fun _ _ _ _ _ h => h.elim
 case done =>
  rintro D W hD hgv hK h0 hk
  have hB0 := below_of hbw2 hK h0 (by omega) (by omega)
  have hW0 : w.heap.size ≤ W0.heap.size := by omega
  have hs0 := hB0.size
  have hs1 := hK.size
  clear hBB1 hBM1 hBV1 hg hbc hbd hsz hSZ3
  have hgc : W.cell? ⟨g, 0, none⟩ = some (.int .i64 (residualOf a0_0 l0_1 l0_2 a1 l2 (List.finRange l0_1.length))) := (blk_cell hgv 0).trans rfl
  gi_wp2
  refine ⟨by simp, .inl ⟨_, _, rfl, run_takeDeferred hk, ?_⟩⟩
  exact ⟨_, results_tmp rfl _ _ _, rfl, hB0.grown (grownBy_putObj' W D (.deferred none)) (by omega) (fun k e => by cases e; omega)⟩
 case body =>
  rintro l pre i hi Bx W hlt hBx hX hgv hK h0
  have hB0 := below_of hbw2 hK h0 (by omega) (by omega)
  have HBW := Aside0.mk hB0
  have hWs : W0.heap.size ≤ W.heap.size := hK.size
  obtain ⟨x1, x2, hpt⟩ : ∃ x1 x2, partAt l0_1 a0_0 i = ((i : Int), x1, x2) := ⟨_, _, rfl⟩
  have hpo := code_part_of.is hok.2.1.1 hi hok.2.2.2
  obtain ⟨k, hnr⟩ := read_near hok hi
  have hys := encodeAt_snd a0_0 l0_1 l0_2 a1 l2 i
  have hrb := residualOf_bound a0_0 l0_1 l0_2 a1 l2 pre
  have hrs : residualOf a0_0 l0_1 l0_2 a1 l2 (pre ++ [⟨i, hi⟩]) = Plain.join a1 (residualOf a0_0 l0_1 l0_2 a1 l2 pre) (encodeAt a0_0 l0_1 l0_2 a1 l2 i).2 := by unfold residualOf; rw [List.foldl_append]; rfl
  have HC := Aside0.mk (fun W => code_join.calls hm12 (residualOf a0_0 l0_1 l0_2 a1 l2 pre) (encodeAt a0_0 l0_1 l0_2 a1 l2 i).2 W ⟨hrb.1, by omega⟩ ⟨hys.1, by omega⟩)
  obtain ⟨⟨y1, y2⟩, hen⟩ : ∃ y, encodeAt a0_0 l0_1 l0_2 a1 l2 i = y := ⟨_, rfl⟩
  rw [hen] at hnr HC hrs
  dsimp only at HC hrs
  rw [hpt] at hX hpo hnr ⊢
  dsimp only at hX hpo
  have hwl : l0_2.length = l0_1.length := hok.2.1.2.1
  obtain ⟨ad, A3, c3, e3, hx3, hl3, hr3⟩ := at_L2 hr0_2 (i : Int) (by omega) (by omega)
  cases e3
  rw [Int.toNat_natCast] at hx3
  change w.cell? (ad.add i) = some (.slice A3 (wordsAt l0_2 i).length c3) at hx3
  change (wordsAt l0_2 i).length ≤ c3 at hl3
  change (Kd.slice 3 (Kd.int .i64)).C w A3 (wordsAt l0_2 i).length (wordsAt l0_2 i) at hr3
  have hcw := pw_cell_below hB0 hx3
  have hcm : W.cell? ⟨bm, 0, none⟩ = some (.int .i64 a1) := (blk_cell ((hK.block bm (by omega) (by omega)).trans b1'') 0).trans rfl
  have hcb : W.cell? ⟨bb, 2, none⟩ = some (.slice (some ad) l0_2.length c0_2) := (blk_cell ((hK.block bb (by omega) (by omega)).trans b0'') 2).trans rfl
  have hcv : W.cell? ⟨bv, 0, none⟩ = some (.slice A2 l2.length c2) := (blk_cell ((hK.block bv (by omega) (by omega)).trans b2'') 0).trans rfl
  have hjw := (hK.block j (by omega) (by omega)).trans hj''
  have hp0 : W.cell? ⟨Bx, 0, none⟩ = some (.int .i64 (i : Int)) := (blk_cell hX 0).trans rfl
  have hp1 : W.cell? ⟨Bx, 1, none⟩ = some (.int .i64 x1) := (blk_cell hX 1).trans rfl
  have hp2 : W.cell? ⟨Bx, 2, none⟩ = some (.int .i64 x2) := (blk_cell hX 2).trans rfl
  have q0 : (0 : Int) ≤ (i : Int) := by omega
  have q1 : (i : Int) < (l0_2.length : Int) := by omega
  have hWM : W0.heap.size ≤ W.heap.size := hK.size
  have hgM : g < W.heap.size := by omega
  have hjM : j < W.heap.size := by omega
  clear hBB1 hBM1 hBV1 hg hbc hbd hsz hSZ3 hwl
  refine wpIn_block (wpIn_seq ?_)
  refine Plain.start_in (n := 16) (S := fun w' => w'.cell? ⟨bm, 0, none⟩ = some (.int .i64 a1) ∧ w'.cell? ⟨bb, 2, none⟩ = some (.slice (some ad) l0_2.length c0_2) ∧ w'.cell? ⟨Bx, 0, none⟩ = some (.int .i64 (i : Int)) ∧ w'.cell? ⟨Bx, 1, none⟩ = some (.int .i64 x1) ∧ w'.cell? ⟨Bx, 2, none⟩ = some (.int .i64 x2) ∧ w'.cell? (ad.add i) = some (.slice A3 (wordsAt l0_2 i).length c3) ∧ w'.cell? ⟨bv, 0, none⟩ = some (.slice A2 l2.length c2)) (ds := []) #[false, false, false, false, false, false, false, false, false, false, false, false, false, false, false, false] (by kernel_rfl) rfl rfl (by rfl) (fun _ _ h => h) ⟨hcm, hcb, hp0, hp1, hp2, hcw, hcv⟩ (fun hHeld => ?_)
  refine with_tabW code_Residual.tab5 code_Residual.bits5 (fun HT_ HW_ => ?_)
  refine pure_ (i := 1) (N := some 23) (v := ?_) (a' := ?_) #[false, true, false, false, false, false, false, false, false, false, false, false, false, false, false, false] rfl rfl (any_of HT_.out (by kernel_rfl)) (fun _ _ _ h => h) (Or.inl ⟨by rfl, ?_⟩) ?_ ?_
  rotate_left
  ·intro w'
   go_simp
   with_reducible rfl
  rotate_left
  ·simp only [Act.put, List.setIfInBounds_toArray, List.set_cons_zero, List.set_cons_succ, i64_w, i32_w]
   rfl
  refine pure_ (i := 3) (N := some 25) (v := ?_) (a' := ?_) #[false, true, false, true, false, false, false, false, false, false, false, false, false, false, false, false] rfl rfl (any_of HT_.out (by kernel_rfl)) (fun _ _ _ h => h) (Or.inl ⟨by rfl, ?_⟩) ?_ ?_
  rotate_left
  ·intro w'
   go_simp
   with_reducible rfl
  rotate_left
  ·simp only [Act.put, List.setIfInBounds_toArray, List.set_cons_zero, List.set_cons_succ, i64_w, i32_w]
   rfl
  refine take_ (i := 0) (N := some 22) (v := ?_) (a' := ?_) #[true, true, false, true, false, false, false, false, false, false, false, false, false, false, false, false] rfl rfl (take_ofW HT_.out HW_.out (by kernel_rfl)) (fun _ _ _ h => h) (Or.inl ⟨by rfl, ?_⟩) hHeld ?_ ?_
  rotate_left
  ·rintro w' ⟨s0, s1, s2, s3, s4, s5, s6⟩
   go_simp
   with_reducible rfl
  rotate_left
  ·simp only [Act.put, List.setIfInBounds_toArray, List.set_cons_zero, List.set_cons_succ, i64_w, i32_w]
   rfl
  refine take_ (i := 2) (N := some 24) (v := ?_) (a' := ?_) #[true, true, true, true, false, false, false, false, false, false, false, false, false, false, false, false] rfl rfl (take_ofW HT_.out HW_.out (by kernel_rfl)) (fun _ _ _ h => h) (Or.inl ⟨by rfl, ?_⟩) hHeld ?_ ?_
  rotate_left
  ·rintro w' ⟨s0, s1, s2, s3, s4, s5, s6⟩
   go_simp
   with_reducible rfl
  rotate_left
  ·simp only [Act.put, List.setIfInBounds_toArray, List.set_cons_zero, List.set_cons_succ, i64_w, i32_w]
   rfl
  refine take_ (i := 4) (N := some 26) (v := ?_) (a' := ?_) #[true, true, true, true, true, false, false, false, false, false, false, false, false, false, false, false] rfl rfl (take_ofW HT_.out HW_.out (by kernel_rfl)) (fun _ _ _ h => h) (Or.inl ⟨by rfl, ?_⟩) hHeld ?_ ?_
  rotate_left
  ·rintro w' ⟨s0, s1, s2, s3, s4, s5, s6⟩
   go_simp
   with_reducible rfl
  rotate_left
  ·simp only [Act.put, List.setIfInBounds_toArray, List.set_cons_zero, List.set_cons_succ, i64_w, i32_w]
   rfl
  refine pure_ (i := 5) (N := some 27) (v := ?_) (a' := ?_) #[true, true, true, true, true, true, false, false, false, false, false, false, false, false, false, false] rfl rfl (any_of HT_.out (by kernel_rfl)) (fun _ _ _ h => h) (Or.inl ⟨by rfl, ?_⟩) ?_ ?_
  rotate_left
  ·intro w'
   go_simp
   with_reducible rfl
  rotate_left
  ·simp only [Act.put, List.setIfInBounds_toArray, List.set_cons_zero, List.set_cons_succ, i64_w, i32_w]
   rfl
  refine take_ (i := 6) (N := some 28) (v := ?_) (a' := ?_) #[true, true, true, true, true, true, true, false, false, false, false, false, false, false, false, false] rfl rfl (take_ofW HT_.out HW_.out (by kernel_rfl)) (fun _ _ _ h => h) (Or.inl ⟨by rfl, ?_⟩) hHeld ?_ ?_
  rotate_left
  ·rintro w' ⟨s0, s1, s2, s3, s4, s5, s6⟩
   go_simp
   with_reducible rfl
  rotate_left
  ·simp only [Act.put, List.setIfInBounds_toArray, List.set_cons_zero, List.set_cons_succ, i64_w, i32_w]
   rfl
  refine take_ (i := 7) (N := some 29) (v := ?_) (a' := ?_) #[true, true, true, true, true, true, true, true, false, false, false, false, false, false, false, false] rfl rfl (take_ofW HT_.out HW_.out (by kernel_rfl)) (fun _ _ _ h => h) (Or.inl ⟨by rfl, ?_⟩) hHeld ?_ ?_
  rotate_left
  ·rintro w' ⟨s0, s1, s2, s3, s4, s5, s6⟩
   go_simp
   with_reducible rfl
  rotate_left
  ·simp only [Act.put, List.setIfInBounds_toArray, List.set_cons_zero, List.set_cons_succ, i64_w, i32_w]
   rfl
  refine take_ (i := 8) (N := some 30) (v := ?_) (a' := ?_) #[true, true, true, true, true, true, true, true, true, false, false, false, false, false, false, false] rfl rfl (take_ofW HT_.out HW_.out (by kernel_rfl)) (fun _ _ _ h => h) (Or.inl ⟨by rfl, ?_⟩) hHeld ?_ ?_
  rotate_left
  ·rintro w' ⟨s0, s1, s2, s3, s4, s5, s6⟩
   go_simp
   with_reducible rfl
  rotate_left
  ·simp only [Act.put, List.setIfInBounds_toArray, List.set_cons_zero, List.set_cons_succ, i64_w, i32_w]
   rfl
  refine one_ (i := 9) (N := some 31) #[true, true, true, true, true, true, true, true, true, true, false, false, false, false, false, false] rfl rfl (one_of HT_.out (by kernel_rfl)) (by decide) (fun K hK => ?_)
  refine goes_ Try.func48 (by kernel_rfl) rfl #[.agg #[.int .i64 (i : Int), .int .i64 x1, .int .i64 x2], .slice A2 l2.length c2] (by rfl) rfl rfl (by simp only [List.map_toArray, List.map_cons, List.map_nil]; rfl) ?_
  with_reducible refine (code_part_of.calls _ _ _ (fun k => True) _ _ _ _ _ (Kd.V_mk hc2 (Kd.F_mono (Kd.C_F (Kd.heap_int _) (Kd.C_below hr2 (below_drew1 HBW.out))) (fun _ _ => trivial))) hpo).mono ?_
  rintro e w3 ⟨v3, rfl, hv, hb⟩
  refine ⟨_, rfl, ?_⟩
  obtain ⟨A4, c4, rfl⟩ := Kd.V_slice hv
  obtain ⟨_, hl4, hr4⟩ := Kd.V_reads' hv
  have hB3 := below_step (below_drew1 (Below.refl W.heap.size W)) hb
  have hBw3 := below_step (below_drew1 HBW.out) hb
  refine hK.out _ _ ⟨(pw_cell_below hb hHeld.1), (pw_cell_below hb hHeld.2.1), (pw_cell_below hb hHeld.2.2.1), (pw_cell_below hb hHeld.2.2.2.1), (pw_cell_below hb hHeld.2.2.2.2.1), (pw_cell_below hb hHeld.2.2.2.2.2.1), (pw_cell_below hb hHeld.2.2.2.2.2.2)⟩ (fun hHeld => ?_)
  clear hK K
  refine norm_ (a' := ?_) ?_ ?_
  rotate_left
  ·show Act.put _ (some 31) _ = _
   simp only [Act.put, List.setIfInBounds_toArray, List.set_cons_zero, List.set_cons_succ, i64_w, i32_w]
   rfl
  refine one_ (i := 10) (N := some 32) #[true, true, true, true, true, true, true, true, true, true, true, false, false, false, false, false] rfl rfl (one_of HT_.out (by kernel_rfl)) (by decide) (fun K hK => ?_)
  refine goes_ Try.func47 (by kernel_rfl) rfl #[.int .i64 a1, .slice A3 (wordsAt l0_2 i).length c3, .slice A4 (partOf l2 ((i : Int), x1, x2)).length c4] (by rfl) rfl rfl (by simp only [List.map_toArray, List.map_cons, List.map_nil]; rfl) ?_
  with_reducible refine (code_nearest.calls _ _ _ _ _ _ _ _ _ _ _ (Kd.C_below hr3 hBw3) hl3 hr4 hl4 hnr).mono ?_
  rintro e w5 ⟨rfl, hb2⟩
  refine ⟨_, rfl, ?_⟩
  have hB5 := below_step hB3 hb2
  clear hB3 hBw3 hv hl4 hr4
  refine hK.out _ _ ⟨(pw_cell_below hb2 hHeld.1), (pw_cell_below hb2 hHeld.2.1), (pw_cell_below hb2 hHeld.2.2.1), (pw_cell_below hb2 hHeld.2.2.2.1), (pw_cell_below hb2 hHeld.2.2.2.2.1), (pw_cell_below hb2 hHeld.2.2.2.2.2.1), (pw_cell_below hb2 hHeld.2.2.2.2.2.2)⟩ (fun hHeld => ?_)
  clear hK K
  refine norm_ (a' := ?_) ?_ ?_
  rotate_left
  ·show Act.put _ (some 32) _ = _
   simp only [Act.put, List.setIfInBounds_toArray, List.set_cons_zero, List.set_cons_succ, i64_w, i32_w]
   rfl
  refine pure_ (i := 11) (N := some 21) (v := ?_) (a' := ?_) #[true, true, true, true, true, true, true, true, true, true, true, true, false, false, false, false] rfl rfl (any_of HT_.out (by kernel_rfl)) (fun _ _ _ h => h) (Or.inl ⟨by rfl, ?_⟩) ?_ ?_
  rotate_left
  ·intro w'
   go_simp
   with_reducible rfl
  rotate_left
  ·simp only [Act.put, List.setIfInBounds_toArray, List.set_cons_zero, List.set_cons_succ, i64_w, i32_w]
   rfl
  refine pure_ (i := 12) (N := some 33) (v := ?_) (a' := ?_) #[true, true, true, true, true, true, true, true, true, true, true, true, true, false, false, false] rfl rfl (any_of HT_.out (by kernel_rfl)) (fun _ _ _ h => h) (Or.inl ⟨by rfl, ?_⟩) ?_ ?_
  rotate_left
  ·intro w'
   go_simp
   with_reducible rfl
  rotate_left
  ·simp only [Act.put, List.setIfInBounds_toArray, List.set_cons_zero, List.set_cons_succ, i64_w, i32_w]
   rfl
  refine pure_ (i := 13) (N := some 34) (v := ?_) (a' := ?_) #[true, true, true, true, true, true, true, true, true, true, true, true, true, true, false, false] rfl rfl (any_of HT_.out (by kernel_rfl)) (fun _ _ _ h => h) (Or.inl ⟨by rfl, ?_⟩) ?_ ?_
  rotate_left
  ·intro w'
   go_simp
   with_reducible rfl
  rotate_left
  ·simp only [Act.put, List.setIfInBounds_toArray, List.set_cons_zero, List.set_cons_succ, i64_w, i32_w]
   rfl
  refine pure_ (i := 14) (N := some 10) (v := ?_) (a' := ?_) #[true, true, true, true, true, true, true, true, true, true, true, true, true, true, true, false] rfl rfl (any_of HT_.out (by kernel_rfl)) (fun _ _ _ h => h) (Or.inl ⟨by rfl, ?_⟩) ?_ ?_
  rotate_left
  ·intro w'
   go_simp
   with_reducible rfl
  rotate_left
  ·simp only [Act.put, List.setIfInBounds_toArray, List.set_cons_zero, List.set_cons_succ, i64_w, i32_w]
   rfl
  refine pure_ (i := 15) (N := some 11) (v := ?_) (a' := ?_) #[true, true, true, true, true, true, true, true, true, true, true, true, true, true, true, true] rfl rfl (any_of HT_.out (by kernel_rfl)) (fun _ _ _ h => h) (Or.inl ⟨by rfl, ?_⟩) ?_ ?_
  rotate_left
  ·intro w'
   go_simp
   with_reducible rfl
  rotate_left
  ·simp only [Act.put, List.setIfInBounds_toArray, List.set_cons_zero, List.set_cons_succ, i64_w, i32_w]
   rfl
  refine done_ (done_of HT_.out (by kernel_rfl)) ?_
  refine Plain.region_in (by rfl) (fun _ _ h => h) ?_
  have hg5 := (hB5.block g hgM).trans hgv
  have hgc : w5.cell? ⟨g, 0, none⟩ = some (.int .i64 (residualOf a0_0 l0_1 l0_2 a1 l2 pre)) := (blk_cell hg5 0).trans rfl
  have hjc : w5.cell? ⟨j, 0, none⟩ = some (.func (.func (joinFn a1)) #[] #[]) := (blk_cell ((hB5.block j hjM).trans hjw) 0).trans rfl
  have HB5 := Aside0.mk hB5
  have HG5 := Aside0.mk hg5
  clear hB5 hg5 hjw hX hgv h0 hB0 HBW hx3 hl3 hr3 hpo hnr hr0_1 hr0_2 hr2 hok hbw hbw2 hbw0 b0 b1 b2 b3 b4 b5 b0' b0'' b1'' b2'' hHeld hcw hcm hcb hcv hp0 hp1 hp2 hj5 hj'' hys hrb hW5
  generalize residualOf a0_0 l0_1 l0_2 a1 l2 pre = t0 at *
  rcases joinFn_or a1 with hf | hf
  all_goals
   rw [hf] at HC hjc ⊢
   clear hf
   go_wp2_with fail
   refine (HC.out _).mono ?_
   rintro e w6 ⟨rfl, hd⟩
   have hb6 := (hd.below.block g (blk_lt HG5.out)).trans HG5.out
   have hgc6 : w6.cell? ⟨g, 0, none⟩ = some (.int .i64 t0) := (blk_cell hb6 0).trans rfl
   have hgf6 := blk_frozen hb6 0
   have HB6 := Aside0.mk hb6
   have HD6 := Aside0.mk hd.below
   clear hb6 hd
   go_wp2
   exact ⟨(Kr.below hWM HB5.out).trans ((Kr.below (Nat.le_trans hWM HB5.out.size) HD6.out).trans (Kr.set ⟨g, 0, none⟩ (.inl rfl) _)), by
    dsimp only
    rw [hrs]
    exact blk_set HB6.out 0 _⟩
end
def code_cut.l0 : Nat → List Int → Int → List Int → Int → Int → Option (Bool)
 | 0, _, _, _, _, _ => none
 | k + 1, x0, x1, x7, x8, x9 => if x9 < x8 then (if 0 ≤ x9 then (if x9 < (x7.length : Int) then (if (rd x7 x9) ≥ x1 then (some false) else (if x9 = 0 then (if (rd x7 x9) = 0 then (if x9 > 0 then (if 0 ≤ (wrap64 (x9 - 1)) then (if (wrap64 (x9 - 1)) < (x0.length : Int) then (if (rd x7 x9) ≤ (rd x0 (wrap64 (x9 - 1))) then (some false) else (code_cut.l0 k x0 x1 x7 x8 (wrap64 (x9 + 1)))) else (none)) else (none)) else (code_cut.l0 k x0 x1 x7 x8 (wrap64 (x9 + 1)))) else (some false)) else (if x9 > 0 then (if 0 ≤ (wrap64 (x9 - 1)) then (if (wrap64 (x9 - 1)) < (x0.length : Int) then (if (rd x7 x9) ≤ (rd x0 (wrap64 (x9 - 1))) then (some false) else (code_cut.l0 k x0 x1 x7 x8 (wrap64 (x9 + 1)))) else (none)) else (none)) else (code_cut.l0 k x0 x1 x7 x8 (wrap64 (x9 + 1)))))) else (none)) else (none)) else (if (x0.length : Int) ≥ 1 then (if (x0.length : Int) ≤ 8 then (if x1 ≥ 1 then (some (decide (x1 ≤ 32))) else (some false)) else (some false)) else (some false))
def code_cut.f (k : Nat) (l0 : List Int) (a1 : Int) : Option (Bool) := code_cut.l0 k l0 a1 l0 (l0.length : Int) 0
set_option maxHeartbeats 8000000 in
set_option maxRecDepth 100000 in
theorem code_cut.calls (k : Nat) (A0 : Option Addr) (c0 : Nat) (l0 : List Int) (a1 : Int) (r : Bool) (w : World) (hr0 : Kd.C (Kd.int .i64) w A0 l0.length l0) (hc0 : l0.length ≤ c0) (h : code_cut.f k l0 a1 = some r) :
  Calls Try.prog 38 #[.slice A0 l0.length c0, .int .i64 a1] w fun e w' => e = .returned (.bool r) ∧ Drawn0 w w' := by
 have HR0 := Aside0.mk hr0
 have HC0 := Aside0.mk hc0
 clear hr0 hc0
 have H : (code_cut.l0 k l0 a1 l0 (l0.length : Int) 0) = some r := h
 clear h
 have H' := Aside0.mk H
 clear H
 go_enter Try.func38, Try.ntmps38
 go_wp2
 go_loopg [9] k (fun kq v9 w' => ∃ (x9_1 : Int), v9 = .int .i64 x9_1 ∧ Aside0 (code_cut.l0 kq l0 a1 l0 (l0.length : Int) x9_1 = some r) ∧ Aside0 (kq ≤ k) ∧ Drawn0 w w')
 case atStart => exact ⟨(0), (by first | rfl | (simp; done) | (simp [*]; done)), H', ⟨Nat.le_refl _⟩, by repeat (first | exact Drawn0.refl _ | apply Drawn0.step)⟩
 case round =>
  clear H'
  try clear p2
  obtain ⟨x9_1, rfl, HA, HK1, ⟨m1, rfl⟩⟩ := hrel
  cases gk with
  | zero => exact absurd HA.out (by simp [code_cut.l0])
  | succ k1 =>
   have H := HA.out
   clear HA
   simp only [code_cut.l0] at H
   by_cases c3 : x9_1 < (l0.length : Int)
   ·rw [if_pos c3] at H
    have c3b0 : decide (x9_1 < (l0.length : Int)) = true := decide_eq_true c3
    clear c3
    by_cases c4 : 0 ≤ x9_1
    ·rw [if_pos c4] at H
     have c4b0 : decide (0 ≤ x9_1) = true := decide_eq_true c4
     clear c4
     by_cases c5 : x9_1 < (l0.length : Int)
     ·rw [if_pos c5] at H
      have c5b0 : decide (x9_1 < (l0.length : Int)) = true := decide_eq_true c5
      clear c5
      by_cases c6 : (rd l0 x9_1) ≥ a1
      ·rw [if_pos c6] at H
       have c6b0 : decide (a1 ≤ (rd l0 x9_1)) = true := decide_eq_true c6
       clear c6
       obtain rfl := Option.some.inj H
       have p127 : 0 ≤ (x9_1 : Int) := of_decide_eq_true (by first | (with_reducible assumption) | assumption)
       have q127 : x9_1 < (l0.length : Int) := of_decide_eq_true (by first | (with_reducible assumption) | assumption)
       obtain ⟨ad127, e127, hx127_0⟩ := Kd.at_int HR0.out x9_1 p127 q127
       cases e127
       replace p127 := eq_true p127
       replace q127 := eq_true q127
       go_wp2
       go_ret
       exact ⟨by first | rfl | (simp; done) | (simp [*]; done), by repeat (first | exact Drawn0.refl _ | apply Drawn0.step)⟩
      ·rw [if_neg c6] at H
       have c6b0 : decide (a1 ≤ (rd l0 x9_1)) = false := decide_eq_false c6
       clear c6
       by_cases c7 : x9_1 = 0
       ·rw [if_pos c7] at H
        have c7b0 : (x9_1 == 0) = true := beq_iff_eq.mpr c7
        have c7b1 : (x9_1 != 0) = false := bne_eq_false_iff_eq.mpr c7
        clear c7
        by_cases c8 : (rd l0 x9_1) = 0
        ·rw [if_pos c8] at H
         have c8b0 : ((rd l0 x9_1) == 0) = true := beq_iff_eq.mpr c8
         have c8b1 : ((rd l0 x9_1) != 0) = false := bne_eq_false_iff_eq.mpr c8
         clear c8
         by_cases c9 : x9_1 > 0
         ·rw [if_pos c9] at H
          have c9b0 : decide (0 < x9_1) = true := decide_eq_true c9
          clear c9
          obtain ⟨ji10, hji10⟩ : ∃ j_ : Int, (wrap64 (x9_1 - 1)) = j_ := ⟨_, rfl⟩
          replace H : (if 0 ≤ (ji10) then (if (ji10) < (l0.length : Int) then (if (rd l0 x9_1) ≤ (rd l0 (ji10)) then (some false) else (code_cut.l0 k1 l0 a1 l0 (l0.length : Int) (wrap64 (x9_1 + 1)))) else (none)) else (none)) = some r := by first | (rw [hji10] at H; exact H) | (simp only [hji10] at H ⊢; exact H)
          have hji10w : (IntKind.i64.wrap (x9_1 - 1)) = ji10 := (i64_w _).trans hji10
          by_cases c11 : 0 ≤ (ji10)
          ·rw [if_pos c11] at H
           have c11b0 : decide (0 ≤ (ji10)) = true := decide_eq_true c11
           clear c11
           by_cases c12 : (ji10) < (l0.length : Int)
           ·rw [if_pos c12] at H
            have c12b0 : decide ((ji10) < (l0.length : Int)) = true := decide_eq_true c12
            clear c12
            by_cases c13 : (rd l0 x9_1) ≤ (rd l0 (ji10))
            ·rw [if_pos c13] at H
             have c13b0 : decide ((rd l0 x9_1) ≤ (rd l0 (ji10))) = true := decide_eq_true c13
             clear c13
             obtain rfl := Option.some.inj H
             have p127 : 0 ≤ (x9_1 : Int) := of_decide_eq_true (by first | (with_reducible assumption) | assumption)
             have q127 : x9_1 < (l0.length : Int) := of_decide_eq_true (by first | (with_reducible assumption) | assumption)
             obtain ⟨ad127, e127, hx127_0⟩ := Kd.at_int HR0.out x9_1 p127 q127
             cases e127
             replace p127 := eq_true p127
             replace q127 := eq_true q127
             have p128 : 0 ≤ ((ji10) : Int) := of_decide_eq_true (by first | (with_reducible assumption) | assumption)
             have q128 : (ji10) < (l0.length : Int) := of_decide_eq_true (by first | (with_reducible assumption) | assumption)
             obtain ⟨ad128, e128, hx128_0⟩ := Kd.at_int HR0.out (ji10) p128 q128
             obtain rfl : ad127 = ad128 := (by injection e128)
             replace p128 := eq_true p128
             replace q128 := eq_true q128
             go_wp2
             go_ret
             exact ⟨by first | rfl | (simp; done) | (simp only [← hji10] <;> (first | rfl | simp)) | (simp [*]; done), by repeat (first | exact Drawn0.refl _ | apply Drawn0.step)⟩
            ·rw [if_neg c13] at H
             have c13b0 : decide ((rd l0 x9_1) ≤ (rd l0 (ji10))) = false := decide_eq_false c13
             clear c13
             have H' := Aside0.mk H
             clear H
             have p127 : 0 ≤ (x9_1 : Int) := of_decide_eq_true (by first | (with_reducible assumption) | assumption)
             have q127 : x9_1 < (l0.length : Int) := of_decide_eq_true (by first | (with_reducible assumption) | assumption)
             obtain ⟨ad127, e127, hx127_0⟩ := Kd.at_int HR0.out x9_1 p127 q127
             cases e127
             replace p127 := eq_true p127
             replace q127 := eq_true q127
             have p128 : 0 ≤ ((ji10) : Int) := of_decide_eq_true (by first | (with_reducible assumption) | assumption)
             have q128 : (ji10) < (l0.length : Int) := of_decide_eq_true (by first | (with_reducible assumption) | assumption)
             obtain ⟨ad128, e128, hx128_0⟩ := Kd.at_int HR0.out (ji10) p128 q128
             obtain rfl : ad127 = ad128 := (by injection e128)
             replace p128 := eq_true p128
             replace q128 := eq_true q128
             go_wp2
             go_roundg k1
             case measure => have := HK1.out; omega
             case rel => exact ⟨(wrap64 (x9_1 + 1)), (by first | rfl | (simp; done) | (simp [*]; done)), H', ⟨by have := HK1.out; omega⟩, by repeat (first | exact Drawn0.refl _ | apply Drawn0.step)⟩
           ·rw [if_neg c12] at H
            exact absurd H (by simp)
          ·rw [if_neg c11] at H
           exact absurd H (by simp)
         ·rw [if_neg c9] at H
          have c9b0 : decide (0 < x9_1) = false := decide_eq_false c9
          clear c9
          have H' := Aside0.mk H
          clear H
          have p127 : 0 ≤ (x9_1 : Int) := of_decide_eq_true (by first | (with_reducible assumption) | assumption)
          have q127 : x9_1 < (l0.length : Int) := of_decide_eq_true (by first | (with_reducible assumption) | assumption)
          obtain ⟨ad127, e127, hx127_0⟩ := Kd.at_int HR0.out x9_1 p127 q127
          cases e127
          replace p127 := eq_true p127
          replace q127 := eq_true q127
          go_wp2
          go_roundg k1
          case measure => have := HK1.out; omega
          case rel => exact ⟨(wrap64 (x9_1 + 1)), (by first | rfl | (simp; done) | (simp [*]; done)), H', ⟨by have := HK1.out; omega⟩, by repeat (first | exact Drawn0.refl _ | apply Drawn0.step)⟩
        ·rw [if_neg c8] at H
         have c8b0 : ((rd l0 x9_1) == 0) = false := beq_eq_false_iff_ne.mpr c8
         have c8b1 : ((rd l0 x9_1) != 0) = true := bne_iff_ne.mpr c8
         obtain rfl := Option.some.inj H
         have p127 : 0 ≤ (x9_1 : Int) := of_decide_eq_true (by first | (with_reducible assumption) | assumption)
         have q127 : x9_1 < (l0.length : Int) := of_decide_eq_true (by first | (with_reducible assumption) | assumption)
         obtain ⟨ad127, e127, hx127_0⟩ := Kd.at_int HR0.out x9_1 p127 q127
         cases e127
         replace p127 := eq_true p127
         replace q127 := eq_true q127
         go_wp2
         go_ret
         exact ⟨by first | rfl | (simp; done) | (simp [*]; done), by repeat (first | exact Drawn0.refl _ | apply Drawn0.step)⟩
       ·rw [if_neg c7] at H
        have c7b0 : (x9_1 == 0) = false := beq_eq_false_iff_ne.mpr c7
        have c7b1 : (x9_1 != 0) = true := bne_iff_ne.mpr c7
        by_cases c14 : x9_1 > 0
        ·rw [if_pos c14] at H
         have c14b0 : decide (0 < x9_1) = true := decide_eq_true c14
         clear c14
         obtain ⟨ji15, hji15⟩ : ∃ j_ : Int, (wrap64 (x9_1 - 1)) = j_ := ⟨_, rfl⟩
         replace H : (if 0 ≤ (ji15) then (if (ji15) < (l0.length : Int) then (if (rd l0 x9_1) ≤ (rd l0 (ji15)) then (some false) else (code_cut.l0 k1 l0 a1 l0 (l0.length : Int) (wrap64 (x9_1 + 1)))) else (none)) else (none)) = some r := by first | (rw [hji15] at H; exact H) | (simp only [hji15] at H ⊢; exact H)
         have hji15w : (IntKind.i64.wrap (x9_1 - 1)) = ji15 := (i64_w _).trans hji15
         by_cases c16 : 0 ≤ (ji15)
         ·rw [if_pos c16] at H
          have c16b0 : decide (0 ≤ (ji15)) = true := decide_eq_true c16
          clear c16
          by_cases c17 : (ji15) < (l0.length : Int)
          ·rw [if_pos c17] at H
           have c17b0 : decide ((ji15) < (l0.length : Int)) = true := decide_eq_true c17
           clear c17
           by_cases c18 : (rd l0 x9_1) ≤ (rd l0 (ji15))
           ·rw [if_pos c18] at H
            have c18b0 : decide ((rd l0 x9_1) ≤ (rd l0 (ji15))) = true := decide_eq_true c18
            clear c18
            obtain rfl := Option.some.inj H
            have p127 : 0 ≤ (x9_1 : Int) := of_decide_eq_true (by first | (with_reducible assumption) | assumption)
            have q127 : x9_1 < (l0.length : Int) := of_decide_eq_true (by first | (with_reducible assumption) | assumption)
            obtain ⟨ad127, e127, hx127_0⟩ := Kd.at_int HR0.out x9_1 p127 q127
            cases e127
            replace p127 := eq_true p127
            replace q127 := eq_true q127
            have p129 : 0 ≤ ((ji15) : Int) := of_decide_eq_true (by first | (with_reducible assumption) | assumption)
            have q129 : (ji15) < (l0.length : Int) := of_decide_eq_true (by first | (with_reducible assumption) | assumption)
            obtain ⟨ad129, e129, hx129_0⟩ := Kd.at_int HR0.out (ji15) p129 q129
            obtain rfl : ad127 = ad129 := (by injection e129)
            replace p129 := eq_true p129
            replace q129 := eq_true q129
            go_wp2
            go_ret
            exact ⟨by first | rfl | (simp; done) | (simp only [← hji15] <;> (first | rfl | simp)) | (simp [*]; done), by repeat (first | exact Drawn0.refl _ | apply Drawn0.step)⟩
           ·rw [if_neg c18] at H
            have c18b0 : decide ((rd l0 x9_1) ≤ (rd l0 (ji15))) = false := decide_eq_false c18
            clear c18
            have H' := Aside0.mk H
            clear H
            have p127 : 0 ≤ (x9_1 : Int) := of_decide_eq_true (by first | (with_reducible assumption) | assumption)
            have q127 : x9_1 < (l0.length : Int) := of_decide_eq_true (by first | (with_reducible assumption) | assumption)
            obtain ⟨ad127, e127, hx127_0⟩ := Kd.at_int HR0.out x9_1 p127 q127
            cases e127
            replace p127 := eq_true p127
            replace q127 := eq_true q127
            have p129 : 0 ≤ ((ji15) : Int) := of_decide_eq_true (by first | (with_reducible assumption) | assumption)
            have q129 : (ji15) < (l0.length : Int) := of_decide_eq_true (by first | (with_reducible assumption) | assumption)
            obtain ⟨ad129, e129, hx129_0⟩ := Kd.at_int HR0.out (ji15) p129 q129
            obtain rfl : ad127 = ad129 := (by injection e129)
            replace p129 := eq_true p129
            replace q129 := eq_true q129
            go_wp2
            go_roundg k1
            case measure => have := HK1.out; omega
            case rel => exact ⟨(wrap64 (x9_1 + 1)), (by first | rfl | (simp; done) | (simp [*]; done)), H', ⟨by have := HK1.out; omega⟩, by repeat (first | exact Drawn0.refl _ | apply Drawn0.step)⟩
          ·rw [if_neg c17] at H
           exact absurd H (by simp)
         ·rw [if_neg c16] at H
          exact absurd H (by simp)
        ·rw [if_neg c14] at H
         have c14b0 : decide (0 < x9_1) = false := decide_eq_false c14
         clear c14
         have H' := Aside0.mk H
         clear H
         have p127 : 0 ≤ (x9_1 : Int) := of_decide_eq_true (by first | (with_reducible assumption) | assumption)
         have q127 : x9_1 < (l0.length : Int) := of_decide_eq_true (by first | (with_reducible assumption) | assumption)
         obtain ⟨ad127, e127, hx127_0⟩ := Kd.at_int HR0.out x9_1 p127 q127
         cases e127
         replace p127 := eq_true p127
         replace q127 := eq_true q127
         go_wp2
         go_roundg k1
         case measure => have := HK1.out; omega
         case rel => exact ⟨(wrap64 (x9_1 + 1)), (by first | rfl | (simp; done) | (simp [*]; done)), H', ⟨by have := HK1.out; omega⟩, by repeat (first | exact Drawn0.refl _ | apply Drawn0.step)⟩
     ·rw [if_neg c5] at H
      exact absurd H (by simp)
    ·rw [if_neg c4] at H
     exact absurd H (by simp)
   ·rw [if_neg c3] at H
    have c3b0 : decide (x9_1 < (l0.length : Int)) = false := decide_eq_false c3
    clear c3
    by_cases c19 : (l0.length : Int) ≥ 1
    ·rw [if_pos c19] at H
     have c19b0 : decide (1 ≤ (l0.length : Int)) = true := decide_eq_true c19
     have c19b1 : decide (1 ≤ l0.length) = true := decide_eq_true (by omega)
     clear c19
     by_cases c20 : (l0.length : Int) ≤ 8
     ·rw [if_pos c20] at H
      have c20b0 : decide ((l0.length : Int) ≤ 8) = true := decide_eq_true c20
      have c20b1 : decide (l0.length ≤ 8) = true := decide_eq_true (by omega)
      clear c20
      by_cases c21 : a1 ≥ 1
      ·rw [if_pos c21] at H
       have c21b0 : decide (1 ≤ a1) = true := decide_eq_true c21
       clear c21
       obtain rfl := Option.some.inj H
       go_wp2
       go_ret
       exact ⟨by first | rfl | (simp; done) | (simp [*]; done), by repeat (first | exact Drawn0.refl _ | apply Drawn0.step)⟩
      ·rw [if_neg c21] at H
       have c21b0 : decide (1 ≤ a1) = false := decide_eq_false c21
       clear c21
       obtain rfl := Option.some.inj H
       go_wp2
       go_ret
       exact ⟨by first | rfl | (simp; done) | (simp [*]; done), by repeat (first | exact Drawn0.refl _ | apply Drawn0.step)⟩
     ·rw [if_neg c20] at H
      have c20b0 : decide ((l0.length : Int) ≤ 8) = false := decide_eq_false c20
      have c20b1 : decide (l0.length ≤ 8) = false := decide_eq_false (by omega)
      clear c20
      obtain rfl := Option.some.inj H
      go_wp2
      go_ret
      exact ⟨by first | rfl | (simp; done) | (simp [*]; done), by repeat (first | exact Drawn0.refl _ | apply Drawn0.step)⟩
    ·rw [if_neg c19] at H
     have c19b0 : decide (1 ≤ (l0.length : Int)) = false := decide_eq_false c19
     have c19b1 : decide (1 ≤ l0.length) = false := decide_eq_false (by omega)
     clear c19
     obtain rfl := Option.some.inj H
     go_wp2
     go_ret
     exact ⟨by first | rfl | (simp; done) | (simp [*]; done), by repeat (first | exact Drawn0.refl _ | apply Drawn0.step)⟩
end Go.Proofs.Ytgpdfalopdhjlaa.Q
end
section
namespace Go.Proofs.Ytgpdfalopdhjlaa.Q
open Go.RowKit Go.Proofs.YtgpdfalopdhjlaaW.PrintWords Go.Proofs.YtgpdfalopdhjlaaW.PrintLast Go.Proofs.YtgpdfalopdhjlaaW.PrintMore
attribute [local go_sem] max2_int min2_int max_two min_two max_three min_three max_four min_four   -- for this text's walks alone
set_option linter.unusedVariables false
set_option linter.unusedSimpArgs false
theorem vector_valid_1.calls (b : Bool) (x : Int) (w : World) : Calls Try.prog 65 #[.bool b, .int .i64 x] w fun e w' => e = .returned (.bool (b && decide (-1000 ≤ x ∧ x ≤ 1000))) ∧ Drawn0 w w' := by
 cases b
 ·go_enter Try.func65, Try.ntmps65
  go_wp2
  go_ret
  exact ⟨rfl, Drawn0.refl _⟩
 ·by_cases h1 : -1000 ≤ x
  ·by_cases h2 : x ≤ 1000
   ·rw [decide_eq_true (p := -1000 ≤ x ∧ x ≤ 1000) ⟨h1, h2⟩]
    go_enter Try.func65, Try.ntmps65
    go_wp2
    go_ret
    exact ⟨rfl, Drawn0.refl _⟩
   ·rw [decide_eq_false (p := -1000 ≤ x ∧ x ≤ 1000) (fun h => h2 h.2)]
    have h2' : decide (x ≤ 1000) = false := decide_eq_false h2
    go_enter Try.func65, Try.ntmps65
    go_wp2
    go_ret
    exact ⟨rfl, Drawn0.refl _⟩
  ·rw [decide_eq_false (p := -1000 ≤ x ∧ x ≤ 1000) (fun h => h1 h.1)]
   have h1' : decide (-1000 ≤ x) = false := decide_eq_false h1
   go_enter Try.func65, Try.ntmps65
   go_wp2
   go_ret
   exact ⟨rfl, Drawn0.refl _⟩
set_option maxHeartbeats 400000 in
set_option maxRecDepth 100000 in
theorem vector_fold_bool.calls (g : Bool → Int → Bool) (ok : Nat → Bool → Prop) (A : Option Addr) (c : Nat) (l : List Int) (b : Bool) (w : World) (hr : Kd.C (Kd.int .i64) w A l.length l) (hl : l.length ≤ 4611686018427387904)
  (h0 : ok 0 b) (hs : ∀ k acc, k < l.length → ok k acc → ok (k + 1) (g acc (rd l (k : Int))))
  (hK : ∀ (k : Nat) (acc : Bool) (w : World), k < l.length → ok k acc → Calls Try.prog 65 #[.bool acc, .int .i64 (rd l (k : Int))] w fun e w' => e = .returned (.bool (g acc (rd l (k : Int)))) ∧ Drawn0 w w') :
  Calls Try.prog 64 #[.slice A l.length c, .bool b, .func (.func 65) #[] #[]] w fun e w' => e = .returned (.bool (l.foldl g b)) ∧ Drawn0 w w' := by
 have HR := Aside0.mk hr
 have HK := Aside0.mk hK
 have HS := Aside0.mk hs
 have H0 := Aside0.mk h0
 clear hr hK hs h0
 go_enter Try.func64, Try.ntmps64
 go_wp2
 go_loopw [1, 11] (fun v i wr => ∃ (k : Nat) (acc : Bool), k ≤ l.length ∧ i = .int .i64 k ∧ v = .bool acc ∧ Aside0 (acc = (l.take k).foldl g b) ∧ Aside0 (ok k acc) ∧ Drawn0 w wr) (fun _ i _ => l.length - (intOf i).toNat)
 case atStart => exact ⟨0, b, Nat.zero_le _, rfl, rfl, ⟨rfl⟩, H0, Drawn0.refl _⟩
 case round =>
  obtain ⟨k, acc, hk, rfl, rfl, hacc, hok, hd⟩ := hrel
  by_cases hlt : k < l.length
  ·have HC := Aside0.mk (HK.out k acc · hlt hok.out)
   have HO := Aside0.mk (HS.out k acc hlt hok.out)
   have p1 : (0 : Int) ≤ (k : Int) := by omega
   have q1 : (k : Int) < (l.length : Int) := by omega
   obtain ⟨ad, e1, hx⟩ := Kd.at_int HR.out (k : Int) p1 q1
   cases e1
   obtain ⟨n, rfl⟩ := hd.out
   clear hd
   rw [Int.toNat_natCast] at hx
   have hsn : Aside0 (g acc (rd l (k : Int)) = (l.take (k + 1)).foldl g b) := ⟨by
    rw [List.take_succ_eq_append_getElem hlt, List.foldl_append, ← hacc.out]; unfold rd; simp [hlt]⟩
   generalize rd l (k : Int) = x at *
   go_wp2_with fail
   refine (HC.out _).mono ?_
   rintro e w1 ⟨rfl, hd1⟩
   go_wp2
   go_roundw
   case rel => exact ⟨k + 1, _, by omega, by go_num, rfl, hsn, HO, ⟨by obtain ⟨m, hm⟩ := hd1.out; exact ⟨n + m, by rw [hm, World.drewN_drewN]⟩⟩⟩
   case measure => simp [intOf]; omega
  ·go_wp2
   go_ret
   exact ⟨by rw [hacc.out, List.take_of_length_le (by omega)]; rfl, hd⟩
theorem vector_all (l : List Int) (b : Bool) : l.foldl (fun b x => b && decide (-1000 ≤ x ∧ x ≤ 1000)) b = (b && decide (∀ x ∈ l, -1000 ≤ x ∧ x ≤ 1000)) := by
 induction l generalizing b with
 | nil => simp
 | cons x l ih =>
  rw [List.foldl_cons, ih, Bool.and_assoc]
  congr 1
  rw [Bool.eq_iff_iff, Bool.and_eq_true, decide_eq_true_eq, decide_eq_true_eq, decide_eq_true_eq]
  constructor
  ·rintro ⟨h1, h2⟩ y hy
   rcases List.mem_cons.mp hy with rfl | hy
   ·exact h1
   ·exact h2 y hy
  ·exact fun h => ⟨h x List.mem_cons_self, fun y hy => h y (List.mem_cons_of_mem _ hy)⟩
def vector_Valid.f (l0 : List Int) : Option Bool := if l0.length ≤ 4611686018427387904 then some (decide (Plain.isVec l0)) else none
set_option maxHeartbeats 400000 in
theorem vector_Valid.calls (A0 : Option Addr) (c0 : Nat) (l0 : List Int) (r : Bool) (w : World) (hr0 : Kd.C (Kd.int .i64) w A0 l0.length l0) (hc0 : l0.length ≤ c0) (h : vector_Valid.f l0 = some r) :
  Calls Try.prog 41 #[.slice A0 l0.length c0] w fun e w' => e = .returned (.bool r) ∧ Drawn0 w w' := by
 unfold vector_Valid.f at h
 split at h
 ·rename_i hb
  obtain rfl := Option.some.inj h
  clear h hc0
  have HF := Aside0.mk (fun W hW => vector_fold_bool.calls (fun b x => b && decide (-1000 ≤ x ∧ x ≤ 1000)) (fun _ _ => True) A0 c0 l0 true W hW hb trivial (fun _ _ _ _ => trivial) (fun k acc w _ _ => vector_valid_1.calls acc _ w))
  have HR := Aside0.mk hr0
  clear hr0
  rw [vector_all l0 true] at HF
  by_cases h1 : ∀ x ∈ l0, -1000 ≤ x ∧ x ≤ 1000
  ·rw [decide_eq_true h1] at HF
   by_cases h2 : 1 ≤ l0.length
   ·have i2 : (1 : Int) ≤ (l0.length : Int) := by omega
    by_cases h3 : l0.length ≤ 32
    ·have i3 : (l0.length : Int) ≤ 32 := by omega
     rw [decide_eq_true (p := Plain.isVec l0) ⟨h1, h2, h3⟩]
     clear h1
     go_enter Try.func41, Try.ntmps41
     go_wp2_with fail
     refine (HF.out _ HR.out).mono ?_
     rintro e w1 ⟨rfl, hd⟩
     go_wp2
     go_ret
     exact ⟨rfl, hd⟩
    ·have i3 : decide ((l0.length : Int) ≤ 32) = false := by simp; omega
     rw [decide_eq_false (p := Plain.isVec l0) (fun h => h3 h.2.2)]
     clear h1
     go_enter Try.func41, Try.ntmps41
     go_wp2_with fail
     refine (HF.out _ HR.out).mono ?_
     rintro e w1 ⟨rfl, hd⟩
     go_wp2
     go_ret
     exact ⟨rfl, hd⟩
   ·have i2 : decide ((1 : Int) ≤ (l0.length : Int)) = false := by simp; omega
    rw [decide_eq_false (p := Plain.isVec l0) (fun h => h2 h.2.1)]
    clear h1
    go_enter Try.func41, Try.ntmps41
    go_wp2_with fail
    refine (HF.out _ HR.out).mono ?_
    rintro e w1 ⟨rfl, hd⟩
    go_wp2
    go_ret
    exact ⟨rfl, hd⟩
  ·rw [decide_eq_false h1] at HF
   rw [decide_eq_false (p := Plain.isVec l0) (fun h => h1 h.1)]
   clear h1
   go_enter Try.func41, Try.ntmps41
   go_wp2_with fail
   refine (HF.out _ HR.out).mono ?_
   rintro e w1 ⟨rfl, hd⟩
   go_wp2
   go_ret
   exact ⟨rfl, hd⟩
 ·cases h
/-- what makes a word wrong -/
def badW (n : Int) (l : List Int) : Bool := decide (¬ ((l.length : Int) = n ∧ Plain.isVec l))
theorem code_Check_1.calls (A : Option Addr) (c : Nat) (l : List Int) (Bx : Nat) (x0 x1 x2 : Int) (w : World) (hr : Kd.C (Kd.int .i64) w A l.length l) (hc : l.length ≤ c) (hl : l.length ≤ 1000000) (hX : w.heap[Bx]? = some (.cells #[.int .i64 x0, .int .i64 x1, .int .i64 x2] 67 (0, 0))) (h1 : 0 ≤ x1 ∧ x1 ≤ x2 ∧ x2 ≤ 1000000) :
  Calls Try.prog 40 #[.slice A l.length c, .pointer (some ⟨Bx, 0, none⟩)] w fun e w' => e = .returned (.bool (badW (x2 - x1) l)) ∧ Below w.heap.size w w' := by
 obtain ⟨h1, h2, h3⟩ := h1
 have hp1 : w.cell? ⟨Bx, 1, none⟩ = some (.int .i64 x1) := (blk_cell hX 1).trans rfl
 have hp2 : w.cell? ⟨Bx, 2, none⟩ = some (.int .i64 x2) := (blk_cell hX 2).trans rfl
 have hw : wrap64 (x2 - x1) = x2 - x1 := Plain.w64 (by omega) (by omega)
 obtain ⟨y, hy⟩ : ∃ y, x2 - x1 = y := ⟨_, rfl⟩
 rw [hy] at hw ⊢
 by_cases he : (l.length : Int) = y
 ·have hb : badW y l = !decide (Plain.isVec l) := by unfold badW; by_cases hv : Plain.isVec l <;> simp [he, hv]
  rw [hb]
  have HV := Aside0.mk (vector_Valid.calls A c l (decide (Plain.isVec l)) w hr hc (by unfold vector_Valid.f; rw [if_pos (by omega)]))
  have heb : ((l.length : Int) == y) = true := by simp [he]
  clear hX hr hb
  go_enter Try.func40, Try.ntmps40
  go_wp2_with fail
  refine HV.out.mono ?_
  rintro e w1 ⟨rfl, hd⟩
  go_wp2
  go_ret
  exact ⟨rfl, hd.below⟩
 ·have hb : badW y l = true := by unfold badW; simp [he]
  rw [hb]
  have heb : ((l.length : Int) == y) = false := by simp [he]
  clear hX hr hb
  go_enter Try.func40, Try.ntmps40
  go_wp2
  go_ret
  exact ⟨rfl, Below.refl _ _⟩
theorem slices_IndexFunc_bad.calls (A : Option Addr) (c : Nat) (l : List (List Int)) (Bx : Nat) (x0 x1 x2 : Int) (w : World) (hr : Kd.C (Kd.slice 3 (Kd.int .i64)) w A l.length l) (hl : l.length ≤ 1000000) (hls : ∀ x ∈ l, x.length ≤ 1000000) (hX : w.heap[Bx]? = some (.cells #[.int .i64 x0, .int .i64 x1, .int .i64 x2] 67 (0, 0))) (h1 : 0 ≤ x1 ∧ x1 ≤ x2 ∧ x2 ≤ 1000000) :
  Calls Try.prog 66 #[.slice A l.length c, .func (.func 40) #[] #[.pointer (some ⟨Bx, 0, none⟩)]] w fun e w' => ∃ r : Int, e = .returned (.int .i64 r) ∧ (0 ≤ r ↔ ∃ x ∈ l, badW (x2 - x1) x = true) ∧ Below w.heap.size w w' := by
 have HR := Aside0.mk hr
 have HX := Aside0.mk hX
 have HLS := Aside0.mk hls
 have H1 := Aside0.mk h1
 clear hr hX hls h1
 go_enter Try.func66, Try.ntmps66
 go_wp2
 go_loopw [8] (fun i wr => ∃ k : Nat, k ≤ l.length ∧ i = .int .i64 k ∧ Aside0 (∀ x ∈ l.take k, badW (x2 - x1) x = false) ∧ Aside0 (Below w.heap.size w wr)) (fun i _ => l.length - (intOf i).toNat)
 case atStart => exact ⟨0, Nat.zero_le _, rfl, ⟨by simp⟩, ⟨Below.refl _ _⟩⟩
 case round =>
  obtain ⟨k, hk, rfl, HN, HB⟩ := hrel
  by_cases hlt : k < l.length
  ·have q0 : (0 : Int) ≤ (k : Int) := by omega
   have q1 : (k : Int) < (l.length : Int) := by omega
   obtain ⟨ad, A3, c3, e3, hx, hl3, hr3⟩ := at_L1 (Kd.C_below HR.out HB.out) (k : Int) q0 q1
   cases e3
   have hm : rd_L1 l (k : Int) = l[k] := by unfold rd_L1; simp [hlt]
   rw [Int.toNat_natCast] at hx
   rw [hm] at hx hl3 hr3
   have HC := Aside0.mk (code_Check_1.calls A3 c3 l[k] Bx x0 x1 x2 wr hr3 hl3 (HLS.out _ (List.getElem_mem hlt)) ((HB.out.block Bx (blk_lt HX.out)).trans HX.out) H1.out)
   have htk : l.take (k + 1) = l.take k ++ [l[k]] := List.take_succ_eq_append_getElem hlt
   have hmem : l[k] ∈ l := List.getElem_mem hlt
   generalize l[k] = z at *
   clear hm hr3
   go_wp2_with fail
   refine HC.out.mono ?_
   rintro e w3 ⟨rfl, hb⟩
   by_cases hbad : badW (x2 - x1) z = true
   ·rw [hbad]
    go_wp2
    go_ret
    exact ⟨_, rfl, ⟨fun _ => ⟨z, hmem, hbad⟩, fun _ => q0⟩, below_step HB.out hb⟩
   ·have hbad2 : badW (x2 - x1) z = false := by simpa using hbad
    rw [hbad2]
    go_wp2
    go_roundw
    case rel => exact ⟨k + 1, by omega, by go_num, ⟨by
     rw [htk]
     intro x hx
     rcases List.mem_append.1 hx with hx | hx
     ·exact HN.out x hx
     ·rw [List.mem_singleton.1 hx]; exact hbad2⟩, ⟨below_step HB.out hb⟩⟩
    case measure => simp [intOf]; omega
  ·go_wp2
   go_ret
   refine ⟨_, rfl, ⟨fun h => absurd h (by decide), ?_⟩, HB.out⟩
   rintro ⟨x, hx, hb⟩
   have := HN.out x (by rw [List.take_of_length_le (by omega)]; exact hx)
   rw [hb] at this
   cases this
theorem slices_ContainsFunc_bad.calls (A : Option Addr) (c : Nat) (l : List (List Int)) (Bx : Nat) (x0 x1 x2 : Int) (w : World) (hr : Kd.C (Kd.slice 3 (Kd.int .i64)) w A l.length l) (hl : l.length ≤ 1000000) (hls : ∀ x ∈ l, x.length ≤ 1000000) (hX : w.heap[Bx]? = some (.cells #[.int .i64 x0, .int .i64 x1, .int .i64 x2] 67 (0, 0))) (h1 : 0 ≤ x1 ∧ x1 ≤ x2 ∧ x2 ≤ 1000000) :
  Calls Try.prog 42 #[.slice A l.length c, .func (.func 40) #[] #[.pointer (some ⟨Bx, 0, none⟩)]] w fun e w' => e = .returned (.bool (decide (∃ x ∈ l, badW (x2 - x1) x = true))) ∧ Below w.heap.size w w' := by
 have HC := Aside0.mk (slices_IndexFunc_bad.calls A c l Bx x0 x1 x2 w hr hl hls hX h1)
 clear hr hX
 go_enter Try.func42, Try.ntmps42
 go_wp2_with fail
 refine HC.out.mono ?_
 rintro e w1 ⟨r, rfl, hiff, hb⟩
 go_wp2
 go_ret
 exact ⟨by simp only [hiff]; rfl, hb⟩
section
attribute [local go_sem] Oper.semAt_some
def cutGood (cuts : List Int) (dims : Int) (j : Nat) : Prop := rd cuts (j : Int) < dims ∧ (j = 0 → rd cuts 0 = 0) ∧ ∀ m, j = m + 1 → rd cuts (m : Int) < rd cuts ((m + 1 : Nat) : Int)
theorem cutOk_iff (cuts : List Int) (dims : Int) : cutOk cuts dims ↔ (1 ≤ dims ∧ dims ≤ 32) ∧ (1 ≤ cuts.length ∧ cuts.length ≤ 8) ∧ ∀ j, j < cuts.length → cutGood cuts dims j := by
 constructor
 ·rintro ⟨h1, h2, h3, h4, h5⟩
  exact ⟨h1, h2, fun j hj => ⟨h4 j hj, fun _ => h3, fun m hm => h5 m (by omega)⟩⟩
 ·rintro ⟨h1, h2, h3⟩
  exact ⟨h1, h2, (h3 0 (by omega)).2.1 rfl, fun i hi => (h3 i hi).1, fun i hi => (h3 (i + 1) (by omega)).2.2 i rfl⟩
theorem code_cut.ev (cuts : List Int) (dims : Int) (hl : cuts.length ≤ 1000000) : Ev (fun k => code_cut.f k cuts dims) (decide (cutOk cuts dims)) := by
 have hno : ∀ j, j < cuts.length → ¬ cutGood cuts dims j → false = decide (cutOk cuts dims) := fun j hj h => by
  symm
  rw [decide_eq_false_iff_not, cutOk_iff]
  exact fun h2 => h (h2.2.2 j hj)
 have key : ∀ d i, i + d = cuts.length → (∀ j, j < i → cutGood cuts dims j) → Ev (fun k => code_cut.l0 k cuts dims cuts (cuts.length : Int) (i : Int)) (decide (cutOk cuts dims)) := by
  intro d
  induction d with
  | zero =>
   intro i hi hg
   obtain rfl : i = cuts.length := by omega
   refine Plain.ev_succ ?_
   simp only [code_cut.l0]
   refine Plain.ev_neg (by omega) ?_
   by_cases h1 : (cuts.length : Int) ≥ 1
   ·refine Plain.ev_pos h1 ?_
    by_cases h2 : (cuts.length : Int) ≤ 8
    ·refine Plain.ev_pos h2 ?_
     by_cases h3 : dims ≥ 1
     ·refine Plain.ev_pos h3 (Plain.ev_some ?_)
      rw [decide_eq_decide, cutOk_iff]
      exact ⟨fun h => ⟨⟨h3, h⟩, ⟨by omega, by omega⟩, hg⟩, fun h => h.1.2⟩
     ·refine Plain.ev_neg h3 (Plain.ev_some ?_)
      symm
      rw [decide_eq_false_iff_not, cutOk_iff]
      exact fun h => h3 h.1.1
    ·refine Plain.ev_neg h2 (Plain.ev_some ?_)
     symm
     rw [decide_eq_false_iff_not, cutOk_iff]
     exact fun h => h2 (by have := h.2.1.2; omega)
   ·refine Plain.ev_neg h1 (Plain.ev_some ?_)
    symm
    rw [decide_eq_false_iff_not, cutOk_iff]
    exact fun h => h1 (by have := h.2.1.1; omega)
  | succ d ih =>
   intro i hi hg
   have hn := fun h : cutGood cuts dims i => ih (i + 1) (by omega) (fun j hj => by
    rcases Nat.lt_or_ge j i with h2 | h2
    ·exact hg j h2
    ·obtain rfl : j = i := by omega
     exact h)
   have hws : wrap64 ((i : Int) + 1) = ((i + 1 : Nat) : Int) := by rw [Plain.w64 (by omega) (by omega)]; omega
   rw [← hws] at hn
   refine Plain.ev_succ ?_
   simp only [code_cut.l0]
   refine Plain.ev_pos (by omega) (Plain.ev_pos (by omega) (Plain.ev_pos (by omega) ?_))
   by_cases h1 : rd cuts (i : Int) ≥ dims
   ·exact Plain.ev_pos h1 (Plain.ev_some (hno i (by omega) (fun h => by have := h.1; omega)))
   ·refine Plain.ev_neg h1 ?_
    by_cases h2 : (i : Int) = 0
    ·refine Plain.ev_pos h2 ?_
     obtain rfl : i = 0 := by omega
     by_cases h3 : rd cuts ((0 : Nat) : Int) = 0
     ·refine Plain.ev_pos h3 (Plain.ev_neg (by omega) (hn ⟨by omega, fun _ => h3, fun m hm => by omega⟩))
     ·exact Plain.ev_neg h3 (Plain.ev_some (hno 0 (by omega) (fun h => h3 (h.2.1 rfl))))
    ·refine Plain.ev_neg h2 (Plain.ev_pos (by omega) ?_)
     obtain ⟨m, rfl⟩ : ∃ m, i = m + 1 := ⟨i - 1, by omega⟩
     have hw : wrap64 (((m + 1 : Nat) : Int) - 1) = (m : Int) := by rw [Plain.w64 (by omega) (by omega)]; omega
     rw [hw]
     refine Plain.ev_pos (by omega) (Plain.ev_pos (by omega) ?_)
     by_cases h4 : rd cuts ((m + 1 : Nat) : Int) ≤ rd cuts (m : Int)
     ·exact Plain.ev_pos h4 (Plain.ev_some (hno (m + 1) (by omega) (fun h => by have := h.2.2 m rfl; omega)))
     ·exact Plain.ev_neg h4 (hn ⟨by omega, fun h => by omega, fun m' hm' => by
       obtain rfl : m' = m := (by omega)
       exact Int.not_le.1 h4⟩)
 exact key cuts.length 0 (by omega) (fun j hj => absurd hj (Nat.not_lt_zero _))
def partGood (dims : Int) (cuts : List Int) (words : List (List (List Int))) (i : Nat) : Prop := (1 ≤ (wordsAt words i).length ∧ (wordsAt words i).length ≤ 256) ∧ ¬ ∃ w ∈ wordsAt words i, badW ((partAt cuts dims i).2.2 - (partAt cuts dims i).2.1) w = true
theorem bookOk_iff (dims : Int) (cuts : List Int) (words : List (List (List Int))) : bookOk dims cuts words ↔ (cutOk cuts dims ∧ words.length = cuts.length) ∧ ∀ i, i < cuts.length → partGood dims cuts words i := by
 have e : ∀ i, (¬ ∃ w ∈ wordsAt words i, badW ((partAt cuts dims i).2.2 - (partAt cuts dims i).2.1) w = true) ↔ ∀ w ∈ wordsAt words i, Plain.isVec w ∧ (w.length : Int) = (partAt cuts dims i).2.2 - (partAt cuts dims i).2.1 := fun i => by
  unfold badW
  constructor
  ·intro h w hw
   by_cases h2 : (w.length : Int) = (partAt cuts dims i).2.2 - (partAt cuts dims i).2.1 ∧ Plain.isVec w
   ·exact ⟨h2.2, h2.1⟩
   ·exact absurd ⟨w, hw, decide_eq_true h2⟩ h
  ·rintro h ⟨w, hw, hb⟩
   exact (of_decide_eq_true hb) ⟨(h w hw).2, (h w hw).1⟩
 unfold bookOk partGood
 constructor
 ·rintro ⟨h1, h2, h3⟩
  exact ⟨⟨h1, h2⟩, fun i hi => ⟨(h3 i hi).1, (e i).2 (h3 i hi).2⟩⟩
 ·rintro ⟨⟨h1, h2⟩, h3⟩
  exact ⟨h1, h2, fun i hi => ⟨(h3 i hi).1, (e i).1 (h3 i hi).2⟩⟩
def checkFits (cuts : List Int) (words : List (List (List Int))) : Prop := cuts.length ≤ 1000000 ∧ words.length ≤ 1000000 ∧ ∀ ws ∈ words, ws.length ≤ 1000000 ∧ ∀ w ∈ ws, w.length ≤ 1000000
instance (cuts : List Int) (words : List (List (List Int))) : Decidable (checkFits cuts words) := by unfold checkFits; infer_instance
def code_Check.f (a0_0 : Int) (l0_1 : List Int) (l0_2 : List (List (List Int))) : Option Int := if checkFits l0_1 l0_2 then some (if bookOk a0_0 l0_1 l0_2 then 0 else 80) else none
theorem code_Check.res {w : World} {b : Nat} {x : Int} {tmps : Array Value} (ht : tmps[2]?.getD undef = .pointer (some ⟨b, 0, none⟩)) (hc : w.cell? ⟨b, 0, none⟩ = some (.int .i64 x)) : (results Try.f12 tmps).run Try.prog w = .ok (.int .i64 x) w := by
 have hr : Try.f12.results = #[.cell 2 28] := rfl
 have hu := Try.underlying28
 simp [results, hr, ht, go_sem, hc]
set_option maxHeartbeats 8000000 in
set_option maxRecDepth 100000 in
theorem code_Check.calls (a0_0 : Int) (A0_1 : Option Addr) (c0_1 : Nat) (l0_1 : List Int) (A0_2 : Option Addr) (c0_2 : Nat) (l0_2 : List (List (List Int))) (r : Int) (w : World) (hr0_1 : Kd.C (Kd.int .i64) w A0_1 l0_1.length l0_1) (hc0_1 : l0_1.length ≤ c0_1) (hr0_2 : Kd.C (Kd.slice 22 (Kd.slice 3 (Kd.int .i64))) w A0_2 l0_2.length l0_2) (hc0_2 : l0_2.length ≤ c0_2) (h : code_Check.f a0_0 l0_1 l0_2 = some r) :
  Calls Try.prog 12 #[.agg #[.int .i64 a0_0, .slice A0_1 l0_1.length c0_1, .slice A0_2 l0_2.length c0_2]] w fun e w' => e = .returned (.int .i64 r) ∧ Below w.heap.size w w' := by
 have hok : checkFits l0_1 l0_2 := by
  unfold code_Check.f at h
  split at h
  ·assumption
  ·cases h
 have hr80 : (if bookOk a0_0 l0_1 l0_2 then (0 : Int) else 80) = r := by
  unfold code_Check.f at h
  rw [if_pos hok] at h
  exact Option.some.inj h
 clear h
 obtain ⟨k0, hk0⟩ := code_cut.ev l0_1 a0_0 hok.1
 have hk1 := hk0 k0 (Nat.le_refl _)
 clear hk0
 refine (callsIn_wide (n := 6)).1 ?_
 refine callsIn_of_wp_marks Try.func12 rfl trivial ?_ rfl
 simp only [Try.ntmps12, List.size_toArray, List.length_cons, List.length_nil, Nat.reduceAdd, Nat.reduceSub, Array.replicate_succ, Array.replicate_zero, List.push_toArray, List.append_toArray, List.nil_append, List.cons_append]
 have HRR := Aside0.mk hr80
 have HOK := Aside0.mk hok
 clear hr80 hok
 have b0 := blk_new w (.cells #[.int .i64 a0_0, .slice A0_1 l0_1.length c0_1, .slice A0_2 l0_2.length c0_2] 25)
 have hal := below_alloc (below_alloc (Below.refl w.heap.size w) (.cells #[.int .i64 a0_0, .slice A0_1 l0_1.length c0_1, .slice A0_2 l0_2.length c0_2] 25)) (.cells #[.int .i64 0] 28)
 have b1 : ((w.alloc (.cells #[.int .i64 a0_0, .slice A0_1 l0_1.length c0_1, .slice A0_2 l0_2.length c0_2] 25)).alloc (.cells #[.int .i64 0] 28)).heap[w.heap.size + 1]? = some (.cells #[.int .i64 0] 28 (0, 0)) := by
  have := blk_new (w.alloc (.cells #[.int .i64 a0_0, .slice A0_1 l0_1.length c0_1, .slice A0_2 l0_2.length c0_2] 25)) (.cells #[.int .i64 0] 28)
  rwa [World.size_alloc] at this
 by_cases hcut : cutOk l0_1 a0_0
 ·have hcb : decide (cutOk l0_1 a0_0) = true := decide_eq_true hcut
  rw [hcb] at hk1
  by_cases hlen : l0_2.length = l0_1.length
  ·have hlb : ((l0_2.length : Int) != (l0_1.length : Int)) = false := by rw [hlen]; simp
   have HLEN := Aside0.mk hlen
   clear hlen
   gi_wp2_with (refine ⟨trivial, ?_⟩; first | (gi_at_call 38; refine (callsIn_wide.2 (code_cut.calls k0 _ _ _ _ _ _ (Kd.C_alloc (Kd.C_alloc hr0_1 _) _) hc0_1 hk1)).mono ?_; rintro e w' ⟨rfl, hd⟩; obtain ⟨n, rfl⟩ := hd.out; clear hd) | (gi_at_call 39; refine (callsIn_wide.2 (code_parts.called _ _ _ _ _)).mono ?_; rintro e w' ⟨rfl, rfl⟩))
   have b0' := blk_drewN (blk_alloc b0 (.cells #[.int .i64 0] 28)) n
   have b1' := blk_drewN b1 n
   have hB1 := pw_below_drewN hal n
   obtain ⟨W1, hW1⟩ : ∃ W1, (((w.alloc (.cells #[.int .i64 a0_0, .slice A0_1 l0_1.length c0_1, .slice A0_2 l0_2.length c0_2] 25)).alloc (.cells #[.int .i64 0] 28)).drewN n) = W1 := ⟨_, rfl⟩
   have hs1 : W1.heap.size = w.heap.size + 2 := by rw [← hW1]; show ((w.alloc _).alloc _).heap.size = _; rw [World.size_alloc, World.size_alloc]
   rw [hW1] at b0' b1' hB1 ⊢
   have ha := blk_allocs [.cells #[.slice A0_1 l0_1.length c0_1] 22, .cells #[.int .i64 a0_0] 3] W1
   simp only [List.foldl_cons, List.foldl_nil] at ha
   have b4 := (ha 0 (by simp)).1
   have b5 := (ha 1 (by simp)).1
   obtain ⟨_, hsz, hbw0⟩ := ha 0 (by simp)
   clear ha b0 b1 hal
   simp only [List.length_cons, List.length_nil, Nat.reduceAdd, List.getElem_cons_zero, List.getElem_cons_succ, Nat.add_zero] at b4 b5 hsz
   obtain ⟨W0, hW0⟩ : ∃ W0, (W1.alloc (.cells #[.slice A0_1 l0_1.length c0_1] 22)).alloc (.cells #[.int .i64 a0_0] 3) = W0 := ⟨_, rfl⟩
   rw [hW0] at b4 b5 hsz hbw0 ⊢
   clear hW0 hW1
   simp only [Nat.add_assoc, Nat.reduceAdd]
   have b0'' := (hbw0.block _ (by omega)).trans b0'
   have b1'' := (hbw0.block _ (by omega)).trans b1'
   have hbw2 : Below w.heap.size w W0 := hB1.trans (hbw0.mono (by omega))
   rw [hs1] at b4 b5 hsz
   have hcl : l0_1.length ≤ 8 := hcut.2.1.2
   obtain ⟨bb, hbb⟩ : ∃ bb, bb = w.heap.size := ⟨_, rfl⟩
   obtain ⟨g, hg⟩ : ∃ g, g = w.heap.size + 1 := ⟨_, rfl⟩
   obtain ⟨bc, hbc⟩ : ∃ bc, bc = w.heap.size + 2 := ⟨_, rfl⟩
   obtain ⟨bd, hbd⟩ : ∃ bd, bd = w.heap.size + 3 := ⟨_, rfl⟩
   simp only [Nat.add_assoc, Nat.reduceAdd] at b4 b5 hsz
   rw [← hg] at b1'' ⊢
   rw [← hbc] at b4 ⊢
   rw [← hbd] at b5 ⊢
   rw [← hbb] at b0'' ⊢
   refine code_parts.loop 6 (by decide) g bc bd A0_1 c0_1 l0_1 a0_0 rfl rfl (by omega) (by omega) (by omega) ((blk_cell b4 0).trans rfl) ((blk_cell b5 0).trans rfl)
    (Kd.F_mono (Kd.F_below (Kd.C_F (Kd.heap_int _) hr0_1) hbw2) (fun k hk => ⟨by omega, by omega⟩))
    (fun pre W => W.heap[g]? = some (.cells #[.int .i64 0] 28 (0, 0)) ∧ ∀ i ∈ pre, partGood a0_0 l0_1 l0_2 i.val) (fun pre W => W.heap[g]? = some (.cells #[.int .i64 80] 28 (0, 0)) ∧ ∃ i ∈ pre, ¬ partGood a0_0 l0_1 l0_2 i.val)
    ((own_boxv _ _ _ (fun _ => Value.int .i64 0)).and (ownFrom_pure _ _)) ((own_boxv _ _ _ (fun _ => Value.int .i64 80)).and (ownFrom_pure _ _)) ⟨b1'', fun i h => by cases h⟩
    (fun x Bx => { tmps := #[Value.agg #[Value.int IntKind.i64 a0_0, Value.slice A0_1 l0_1.length c0_1, Value.slice A0_2 l0_2.length c0_2],
     Value.pointer (some { block := bb, off := 0 }), Value.pointer (some { block := g, off := 0 }), Value.pointer (some { block := Bx, off := 0 }), undef, undef,
     Value.pointer (some { block := bb, off := 1 }), Value.slice A0_1 l0_1.length c0_1,
     Value.pointer (some { block := bb, off := 0 }), Value.int IntKind.i64 a0_0, Value.bool true,
     Value.bool false, Value.bool false, Value.pointer (some { block := bb, off := 2 }),
     Value.slice A0_2 l0_2.length c0_2, Value.int IntKind.i64 l0_2.length,
     Value.pointer (some { block := bb, off := 1 }), Value.slice A0_1 l0_1.length c0_1,
     Value.int IntKind.i64 l0_1.length, Value.bool false, Value.bool false,
     Value.pointer (some { block := bb, off := 1 }), Value.slice A0_1 l0_1.length c0_1,
     Value.pointer (some { block := bb, off := 0 }), Value.int IntKind.i64 a0_0,
     Value.func (Fn.func 63) #[] #[Value.pointer (some { block := bc, off := 0 }), Value.pointer (some { block := bd, off := 0 })],
     partV x, undef, undef, undef, undef, undef, undef, undef, undef, undef, undef, undef, undef, undef, undef, undef, undef, undef, undef, undef, undef], defers := [] }) ?assign ?body ?done ?stop
   case assign =>
    rintro l ⟨x0, x1, x2⟩ W K hK
    clear hbb hg hbc hbd
    have hz67 := Try.zeroValue67
    gi_wp2
    rfl
   case stop =>
    rintro D pre W hD hpre ⟨hgv, i, _, hbad⟩ hK h0 hk
    have hB0 := below_of hbw2 hK h0 (by omega) (by omega)
    have hs0 := hB0.size
    have hr0 : r = 80 := by rw [← HRR.out, if_neg (fun h => hbad (((bookOk_iff _ _ _).1 h).2 i.val i.isLt))]
    subst hr0
    have hgD : g ≠ D := by omega
    have hDw : w.heap.size ≤ D := by omega
    clear hbb hg hbc hbd hsz hs1
    gi_wp2
    refine ⟨by simp, .inl ⟨_, _, rfl, run_takeDeferred hk, ?_⟩⟩
    exact ⟨_, code_Check.res (b := g) rfl ((blk_cell ((World.putObj_heap_other (by omega)).trans hgv) 0).trans rfl), rfl, hB0.grown (grownBy_putObj' W D (.deferred none)) (by omega) (fun k e => by cases e; omega)⟩
   case done =>
    rintro D W hD ⟨hgv, hall⟩ hK h0 hk
    have hB0 := below_of hbw2 hK h0 (by omega) (by omega)
    have hs0 := hB0.size
    have hr0 : r = 0 := by rw [← HRR.out, if_pos ((bookOk_iff _ _ _).2 ⟨⟨hcut, HLEN.out⟩, fun i hi => hall ⟨i, hi⟩ (List.mem_finRange _)⟩)]
    subst hr0
    have hgD : g ≠ D := by omega
    have hDw : w.heap.size ≤ D := by omega
    have hgw : w.heap.size ≤ g := by omega
    clear hbb hg hbc hbd hsz hs1
    have hgc : W.cell? ⟨g, 0, none⟩ = some (.int .i64 0) := (blk_cell hgv 0).trans rfl
    have hgf := blk_frozen hgv 0
    gi_wp2
    have hk2 : (W.setCell ⟨g, 0, none⟩ (.int .i64 0)).heap[D]? = some (.deferred (some [])) := (Below.heap_setCell _ _ _ _ (Ne.symm hgD)).trans hk
    have hB2 := below_set (j := 0) (v := .int .i64 0) hB0 hgw
    have hsz2 := hB2.size
    refine ⟨by simp, .inl ⟨_, _, rfl, run_takeDeferred hk2, ?_⟩⟩
    exact ⟨_, code_Check.res (b := g) rfl ((blk_cell ((World.putObj_heap_other (by omega)).trans (blk_set hgv 0 _)) 0).trans rfl), rfl, hB2.grown (grownBy_putObj' _ D (.deferred none)) (by omega) (fun k e => by cases e; omega)⟩
   case body =>
    rintro l pre i hi Bx W hlt hBx hX ⟨hgv, hall⟩ hK h0
    have hB0 := below_of hbw2 hK h0 (by omega) (by omega)
    have hWM : W0.heap.size ≤ W.heap.size := hK.size
    have hpr := part_range hcut hi
    have hd32 := hcut.1.2
    obtain ⟨x1, x2, hpt⟩ : ∃ x1 x2, partAt l0_1 a0_0 i = ((i : Int), x1, x2) := ⟨_, _, rfl⟩
    have hgood : partGood a0_0 l0_1 l0_2 i ↔ (1 ≤ (wordsAt l0_2 i).length ∧ (wordsAt l0_2 i).length ≤ 256) ∧ ¬ ∃ w ∈ wordsAt l0_2 i, badW (x2 - x1) w = true := by unfold partGood; rw [hpt]
    rw [hpt] at hX hpr ⊢
    dsimp only at hX hpr
    have hwl := HLEN.out
    obtain ⟨ad, A3, c3, e3, hx3, hl3, hr3⟩ := at_L2 hr0_2 (i : Int) (by omega) (by omega)
    cases e3
    rw [Int.toNat_natCast] at hx3
    change w.cell? (ad.add i) = some (.slice A3 (wordsAt l0_2 i).length c3) at hx3
    change (wordsAt l0_2 i).length ≤ c3 at hl3
    change (Kd.slice 3 (Kd.int .i64)).C w A3 (wordsAt l0_2 i).length (wordsAt l0_2 i) at hr3
    have hmem : wordsAt l0_2 i ∈ l0_2 := by unfold wordsAt; rw [List.getD_eq_getElem?_getD, List.getElem?_eq_getElem (by omega)]; exact List.getElem_mem _
    have hfit := HOK.out.2.2 _ hmem
    have hcw := pw_cell_below hB0 hx3
    have hcb : W.cell? ⟨bb, 2, none⟩ = some (.slice (some ad) l0_2.length c0_2) := (blk_cell ((hK.block bb (by omega) (by omega)).trans b0'') 2).trans rfl
    have hp0 : W.cell? ⟨Bx, 0, none⟩ = some (.int .i64 (i : Int)) := (blk_cell hX 0).trans rfl
    have hgc : W.cell? ⟨g, 0, none⟩ = some (.int .i64 0) := (blk_cell hgv 0).trans rfl
    have hgf := blk_frozen hgv 0
    have HC := Aside0.mk (slices_ContainsFunc_bad.calls A3 c3 (wordsAt l0_2 i) Bx (i : Int) x1 x2 W (Kd.C_below hr3 hB0) hfit.1 hfit.2 hX ⟨hpr.1, by omega, by omega⟩)
    have q0 : (0 : Int) ≤ (i : Int) := by omega
    have q1 : (i : Int) < (l0_2.length : Int) := by omega
    have HGV := Aside0.mk hgv
    have HGOOD := Aside0.mk hgood
    clear hbb hg hbc hbd hsz hs1 hwl hX hgv hr3 hfit hmem hpr b0' b1' b4 b5 b0'' b1'' hgood hK h0 hB0
    generalize wordsAt l0_2 i = ws at *
    gi_wp2_with (refine ⟨trivial, ?_⟩; first | (gi_at_call 42; refine (CallsIn.inRound l (callsIn_wide.2 HC.out)).mono ?_; rintro e w5 ⟨rfl, hb5⟩; have hb6 := (hb5.block g (blk_lt HGV.out)).trans HGV.out; have hgc5 : w5.cell? ⟨g, 0, none⟩ = some (.int .i64 0) := (blk_cell hb6 0).trans rfl; have hgf5 := blk_frozen hb6 0; have HB6 := Aside0.mk hb6; clear hb6) | skip)
    all_goals first
     | exact ⟨Kr.set ⟨g, 0, none⟩ (.inl rfl) _, blk_set HGV.out 0 _, ⟨i, hi⟩, by simp, fun h => by have h2 := (HGOOD.out.1 h).1; omega⟩
     | exact ⟨(Kr.below hWM hb5).trans (Kr.set ⟨g, 0, none⟩ (.inl rfl) _), blk_set HB6.out 0 _, ⟨i, hi⟩, by simp, fun h => by
       have h2 := HGOOD.out.1 h
       have hx : ((ws.length : Int) < 1 ∨ 256 < (ws.length : Int)) ∨ ∃ x, x ∈ ws ∧ badW (x2 - x1) x = true := by assumption
       rcases hx with hx | hx
       ·omega
       ·exact h2.2 hx⟩
     | exact ⟨Kr.below hWM hb5, HB6.out, fun y hy => by
       have hx : (1 ≤ (ws.length : Int) ∧ (ws.length : Int) ≤ 256) ∧ ¬ ∃ x, x ∈ ws ∧ badW (x2 - x1) x = true := by assumption
       rcases List.mem_append.1 hy with hy | hy
       ·exact hall y hy
       ·rw [List.mem_singleton.1 hy]
        exact HGOOD.out.2 ⟨⟨by omega, by omega⟩, hx.2⟩⟩
  ·have hlb : ((l0_2.length : Int) != (l0_1.length : Int)) = true := by simp; omega
   have hr0 : r = 80 := by rw [← HRR.out, if_neg (fun h => hlen h.2.1)]
   subst hr0
   clear hlen
   gi_wp2_with (refine ⟨trivial, ?_⟩; gi_at_call 38; refine (callsIn_wide.2 (code_cut.calls k0 _ _ _ _ _ _ (Kd.C_alloc (Kd.C_alloc hr0_1 _) _) hc0_1 hk1)).mono ?_; rintro e w' ⟨rfl, hd⟩; obtain ⟨n, rfl⟩ := hd.out; clear hd)
   refine ⟨_, code_Check.res (b := w.heap.size + 1) rfl ?_, rfl, ?_⟩
   ·exact (blk_cell (blk_set (blk_drewN b1 n) 0 _) 0).trans rfl
   ·exact below_set (j := 0) (pw_below_drewN hal n) (by omega)
 ·have hcb : decide (cutOk l0_1 a0_0) = false := decide_eq_false hcut
  rw [hcb] at hk1
  have hr0 : r = 80 := by rw [← HRR.out, if_neg (fun h => hcut h.1)]
  subst hr0
  gi_wp2_with (refine ⟨trivial, ?_⟩; gi_at_call 38; refine (callsIn_wide.2 (code_cut.calls k0 _ _ _ _ _ _ (Kd.C_alloc (Kd.C_alloc hr0_1 _) _) hc0_1 hk1)).mono ?_; rintro e w' ⟨rfl, hd⟩; obtain ⟨n, rfl⟩ := hd.out; clear hd)
  refine ⟨_, code_Check.res (b := w.heap.size + 1) rfl ?_, rfl, ?_⟩
  ·exact (blk_cell (blk_set (blk_drewN b1 n) 0 _) 0).trans rfl
  ·exact below_set (j := 0) (pw_below_drewN hal n) (by omega)
end
def code_Decode.l0 : Nat → List Int → List Int → Int → Int → Int → List Int → List (List (List Int)) → Option (List Int × Int)
 | 0, _, _, _, _, _, _, _ => none
 | k + 1, x6, x15, x16, x17, x131000, x131001, x131002 => if x17 < x16 then (if 0 ≤ x17 then (if x17 < (x15.length : Int) then (if (rd x15 x17) < 0 then (some (([] : List Int), 1)) else (if x17 < (x131002.length : Int) then (if (rd x15 x17) ≥ ((rd_L2 x131002 x17).length : Int) then (some (([] : List Int), 1)) else (if 0 ≤ (rd x15 x17) then (if (rd x15 x17) < ((rd_L2 x131002 x17).length : Int) then (if x6.length + (rd_L1 (rd_L2 x131002 x17) (rd x15 x17)).length < 17592186044416 then (code_Decode.l0 k (x6 ++ (rd_L1 (rd_L2 x131002 x17) (rd x15 x17))) x15 x16 (wrap64 (x17 + 1)) x131000 x131001 x131002) else (none)) else (none)) else (none))) else (none))) else (none)) else (none)) else (some (x6, 0))
def code_Decode.f (k : Nat) (a0_0 : Int) (l0_1 : List Int) (l0_2 : List (List (List Int))) (l1 : List Int) : Option (List Int × Int) := if (l1.length : Int) = (l0_2.length : Int) then (code_Decode.l0 k ([] : List Int) l1 (l1.length : Int) 0 a0_0 l0_1 l0_2) else (some (([] : List Int), 1))
theorem code_Decode.mono_l : ∀ k, (∀ y0 y1 y2 y3 y4 y5 y6, LeO (code_Decode.l0 k y0 y1 y2 y3 y4 y5 y6) (code_Decode.l0 (k + 1) y0 y1 y2 y3 y4 y5 y6))
 | 0 => fun _ _ _ _ _ _ _ r h => by simp [code_Decode.l0] at h
 | k + 1 => by
  have ih0 := code_Decode.mono_l k
  ·intro y0 y1 y2 y3 y4 y5 y6
   unfold code_Decode.l0
   repeat' first
   | (with_reducible exact ih0 _ _ _ _ _ _ _)
   | (with_reducible exact LeO.refl _)
   | (with_reducible exact LeO.none _)
   | (with_reducible refine LeO.ite ?_ ?_)
   | (with_reducible refine LeO.bind ?_ (fun _ => ?_))
   | exact ih0 _ _ _ _ _ _ _
   | exact LeO.none _
   | refine LeO.ite ?_ ?_
   | refine LeO.bind ?_ (fun _ => ?_)
theorem code_Decode.mono : ∀ a0 a1 a2 a3 k, LeO (code_Decode.f k a0 a1 a2 a3) (code_Decode.f (k + 1) a0 a1 a2 a3) := by
 intro a0 a1 a2 a3 k
 have ih0 := code_Decode.mono_l k
 unfold code_Decode.f
 repeat' first
   | (with_reducible exact ih0 _ _ _ _ _ _ _)
   | (with_reducible exact LeO.refl _)
   | (with_reducible exact LeO.none _)
   | (with_reducible refine LeO.ite ?_ ?_)
   | (with_reducible refine LeO.bind ?_ (fun _ => ?_))
   | exact ih0 _ _ _ _ _ _ _
   | exact LeO.none _
   | refine LeO.ite ?_ ?_
   | refine LeO.bind ?_ (fun _ => ?_)
set_option maxHeartbeats 8000000 in
set_option maxRecDepth 100000 in
theorem code_Decode.calls (k : Nat) (a0_0 : Int) (A0_1 : Option Addr) (c0_1 : Nat) (l0_1 : List Int) (A0_2 : Option Addr) (c0_2 : Nat) (l0_2 : List (List (List Int))) (A1 : Option Addr) (c1 : Nat) (l1 : List Int) (r1 : List Int) (r2 : Int) (w : World) (hr0_1 : Kd.C (Kd.int .i64) w A0_1 l0_1.length l0_1) (hc0_1 : l0_1.length ≤ c0_1) (hr0_2 : Kd.C (Kd.slice 22 (Kd.slice 3 (Kd.int .i64))) w A0_2 l0_2.length l0_2) (hc0_2 : l0_2.length ≤ c0_2) (hr1 : Kd.C (Kd.int .i64) w A1 l1.length l1) (hc1 : l1.length ≤ c1) (h : code_Decode.f k a0_0 l0_1 l0_2 l1 = some (r1, r2)) :
  Calls Try.prog 15 #[.agg #[.int .i64 a0_0, .slice A0_1 l0_1.length c0_1, .slice A0_2 l0_2.length c0_2], .slice A1 l1.length c1] w fun e w' => ∃ v0_ : Value, e = .returned (.tuple #[v0_, .int .i64 r2]) ∧ Kd.R (Kd.int .i64) 3 w' w.heap.size (fun _ => True) v0_ r1 ∧ Below w.heap.size w w' := by
 have hu25 := Try.underlying25
 have HR0_1 := Aside0.mk hr0_1
 have HC0_1 := Aside0.mk hc0_1
 clear hr0_1 hc0_1
 have HR0_2 := Aside0.mk hr0_2
 have HC0_2 := Aside0.mk hc0_2
 clear hr0_2 hc0_2
 have HR1 := Aside0.mk hr1
 have HC1 := Aside0.mk hc1
 clear hr1 hc1
 have HB := Aside0.mk (Below.refl w.heap.size w)
 have H : (if (l1.length : Int) = (l0_2.length : Int) then (code_Decode.l0 k ([] : List Int) l1 (l1.length : Int) 0 a0_0 l0_1 l0_2) else (some (([] : List Int), 1))) = some (r1, r2) := h
 clear h
 by_cases c3 : (l1.length : Int) = (l0_2.length : Int)
 ·rw [if_pos c3] at H
  have c3b0 : ((l1.length : Int) == (l0_2.length : Int)) = true := beq_iff_eq.mpr c3
  have c3b1 : ((l1.length : Int) != (l0_2.length : Int)) = false := bne_eq_false_iff_eq.mpr c3
  have c3b2 : (l1.length == l0_2.length) = true := by first | simpa using c3 | (simp at c3 ⊢; omega)
  clear c3
  have H' := Aside0.mk H
  clear H
  go_enter Try.func15, Try.ntmps15
  go_wp2_with (first | ((with_reducible refine gate_dst (N := 2) rfl ?_); (try (refine gate_guard (by rfl) ?_; dsimp only)); refine box_event ?hg (N := 2) ?hd (cs := #[.int .i64 a0_0, .slice A0_1 l0_1.length c0_1, .slice A0_2 l0_2.length c0_2]) (t := 25) ?hr ?_; (case hd => rfl); (case hg => rfl); (case hr => first | (go_simp; done) | (go_simp; rfl)); intro gb130 hg w4 hbox hb; have n0_ := Aside0.mk (below_step (by repeat (first | (with_reducible first | exact HB.out | apply below_alloc | apply pw_below_drewN | apply below_drew1) | exact HB.out)) hb); have n1_ := Aside0.mk (hbox); have n2_ := Aside0.mk ((by rw [hg]; exact (below_size (by repeat (first | (with_reducible first | exact HB.out | apply below_alloc | apply pw_below_drewN | apply below_drew1) | exact HB.out))) : w.heap.size ≤ gb130)); have n3_ := Aside0.mk ((by rw [hg]; exact (below_size (by repeat (first | (with_reducible first | exact HB.out | apply below_alloc | apply pw_below_drewN | apply below_drew1) | exact HB.out))) : w.heap.size ≤ gb130)); clear HB; have HB := n0_; have BK130 := n1_; have GW130 := n2_; have GE130 := n3_; clear n0_ n1_ n2_ n3_; clear hb hbox hg; have hcz5_0 : w4.cell? ⟨gb130, 0, none⟩ = some (.int .i64 a0_0) := (blk_cell BK130.out 0).trans rfl; have hcz5_1 : w4.cell? ⟨gb130, 1, none⟩ = some (.slice A0_1 l0_1.length c0_1) := (blk_cell BK130.out 1).trans rfl; have hcz5_2 : w4.cell? ⟨gb130, 2, none⟩ = some (.slice A0_2 l0_2.length c0_2) := (blk_cell BK130.out 2).trans rfl; have hfz5_0 := blk_frozen BK130.out 0; have hfz5_1 := blk_frozen BK130.out 1; have hfz5_2 := blk_frozen BK130.out 2))
  go_loopg [6, 17] k (fun kq v6 v17 w' => ∃ (x6_1 : List Int) (x17_1 : Int), v17 = .int .i64 x17_1 ∧ Aside0 (code_Decode.l0 kq x6_1 l1 (l1.length : Int) x17_1 a0_0 l0_1 l0_2 = some (r1, r2)) ∧ Aside0 (kq ≤ k) ∧ Aside0 (Kd.R (Kd.int .i64) 3 w' w.heap.size (fun _ => True) v6 x6_1) ∧ Aside0 (w'.heap[gb130]? = some (.cells #[.int .i64 a0_0, (.slice A0_1 l0_1.length c0_1), (.slice A0_2 l0_2.length c0_2)] 25 (0, 0))) ∧ Aside0 (Below w.heap.size w w'))
  case atStart => exact ⟨(([] : List Int)), (0), (by first | rfl | (simp; done) | (simp [*]; done)), H', ⟨Nat.le_refl _⟩, ⟨by first | exact Kd.R_nil _ _ _ _ _ | exact Kd.N_nil _ _ _ _ _ | exact Kd.V_nil _ _ _ _ _ | exact Kd.Q_nil _ _ _ _ _ | exact Kd.S_nil _ _ _ _ _⟩, ⟨by (with_reducible repeat (first | refine blk_drewN ?_ _ | refine blk_drew ?_ | refine blk_alloc ?_ _)); exact BK130.out⟩, ⟨by repeat (first | (with_reducible first | exact HB.out | apply below_alloc | apply pw_below_drewN | apply below_drew1 | refine below_set ?_ GE130.out) | exact HB.out)⟩⟩
  case round =>
   clear H'
   try clear c1
   try clear p2
   try clear c3
   try clear c3b0
   try clear c3b1
   try clear c3b2
   try clear hcz5_0
   try clear hcz5_1
   try clear hcz5_2
   try clear hfz5_0
   try clear hfz5_1
   try clear hfz5_2
   obtain ⟨x6_1, x17_1, rfl, HA, HK1, HO_6, BK130, HB⟩ := hrel
   cases gk with
   | zero => exact absurd HA.out (by simp [code_Decode.l0])
   | succ k1 =>
    have H := HA.out
    clear HA
    simp only [code_Decode.l0] at H
    by_cases c6 : x17_1 < (l1.length : Int)
    ·rw [if_pos c6] at H
     have c6b0 : decide (x17_1 < (l1.length : Int)) = true := decide_eq_true c6
     clear c6
     by_cases c7 : 0 ≤ x17_1
     ·rw [if_pos c7] at H
      have c7b0 : decide (0 ≤ x17_1) = true := decide_eq_true c7
      clear c7
      by_cases c8 : x17_1 < (l1.length : Int)
      ·rw [if_pos c8] at H
       have c8b0 : decide (x17_1 < (l1.length : Int)) = true := decide_eq_true c8
       clear c8
       by_cases c9 : (rd l1 x17_1) < 0
       ·rw [if_pos c9] at H
        have c9b0 : decide ((rd l1 x17_1) < 0) = true := decide_eq_true c9
        clear c9
        simp only [Option.some.injEq, Prod.mk.injEq] at H
        obtain ⟨rfl, rfl⟩ := H
        have p131 : 0 ≤ (x17_1 : Int) := of_decide_eq_true (by first | (with_reducible assumption) | assumption)
        have q131 : x17_1 < (l1.length : Int) := of_decide_eq_true (by first | (with_reducible assumption) | assumption)
        obtain ⟨ad131, e131, hx131_0⟩ := Kd.at_int HR1.out x17_1 p131 q131
        cases e131
        replace hx131_0 := (HB.out.cell (World.block_lt_of_cell? w _ hx131_0)).trans hx131_0
        replace p131 := eq_true p131
        replace q131 := eq_true q131
        go_wp2
        go_ret2
        exact ⟨_, by first | rfl | (simp [errW_none, errW_some] <;> rfl) | (simp [*, errW_none, errW_some] <;> rfl), by first | exact Kd.R_nil _ _ _ _ _ | exact Kd.N_nil _ _ _ _ _ | exact Kd.V_nil _ _ _ _ _ | exact Kd.Q_nil _ _ _ _ _ | exact Kd.S_nil _ _ _ _ _, by repeat (first | (with_reducible first | exact HB.out | apply below_alloc | apply pw_below_drewN | apply below_drew1 | refine below_set ?_ GE130.out) | exact HB.out)⟩
       ·rw [if_neg c9] at H
        have c9b0 : decide ((rd l1 x17_1) < 0) = false := decide_eq_false c9
        clear c9
        by_cases c10 : x17_1 < (l0_2.length : Int)
        ·rw [if_pos c10] at H
         have c10b0 : decide (x17_1 < (l0_2.length : Int)) = true := decide_eq_true c10
         clear c10
         by_cases c11 : (rd l1 x17_1) ≥ ((rd_L2 l0_2 x17_1).length : Int)
         ·rw [if_pos c11] at H
          have c11b0 : decide (((rd_L2 l0_2 x17_1).length : Int) ≤ (rd l1 x17_1)) = true := decide_eq_true c11
          clear c11
          simp only [Option.some.injEq, Prod.mk.injEq] at H
          obtain ⟨rfl, rfl⟩ := H
          have p131 : 0 ≤ (x17_1 : Int) := of_decide_eq_true (by first | (with_reducible assumption) | assumption)
          have q131 : x17_1 < (l1.length : Int) := of_decide_eq_true (by first | (with_reducible assumption) | assumption)
          obtain ⟨ad131, e131, hx131_0⟩ := Kd.at_int HR1.out x17_1 p131 q131
          cases e131
          replace hx131_0 := (HB.out.cell (World.block_lt_of_cell? w _ hx131_0)).trans hx131_0
          replace p131 := eq_true p131
          replace q131 := eq_true q131
          have hcz12_0 : wr.cell? ⟨gb130, 0, none⟩ = some (.int .i64 a0_0) := (blk_cell BK130.out 0).trans rfl
          have hcz12_1 : wr.cell? ⟨gb130, 1, none⟩ = some (.slice A0_1 l0_1.length c0_1) := (blk_cell BK130.out 1).trans rfl
          have hcz12_2 : wr.cell? ⟨gb130, 2, none⟩ = some (.slice A0_2 l0_2.length c0_2) := (blk_cell BK130.out 2).trans rfl
          have hfz12_0 := blk_frozen BK130.out 0
          have hfz12_1 := blk_frozen BK130.out 1
          have hfz12_2 := blk_frozen BK130.out 2
          have p132 : 0 ≤ (x17_1 : Int) := of_decide_eq_true (by first | (with_reducible assumption) | assumption)
          have q132 : x17_1 < (l0_2.length : Int) := of_decide_eq_true (by first | (with_reducible assumption) | assumption)
          obtain ⟨ad132, A132_0, c132_0, e132, hx132_0, hl132_0, hi132_0⟩ := at_L2 HR0_2.out x17_1 p132 q132
          cases e132
          replace hx132_0 := (HB.out.cell (World.block_lt_of_cell? w _ hx132_0)).trans hx132_0
          have HR132_0 := Aside0.mk hi132_0
          have HC132_0 := Aside0.mk hl132_0
          clear hi132_0 hl132_0
          replace p132 := eq_true p132
          replace q132 := eq_true q132
          go_wp2
          go_ret2
          exact ⟨_, by first | rfl | (simp [errW_none, errW_some] <;> rfl) | (simp [*, errW_none, errW_some] <;> rfl), by first | exact Kd.R_nil _ _ _ _ _ | exact Kd.N_nil _ _ _ _ _ | exact Kd.V_nil _ _ _ _ _ | exact Kd.Q_nil _ _ _ _ _ | exact Kd.S_nil _ _ _ _ _, by repeat (first | (with_reducible first | exact HB.out | apply below_alloc | apply pw_below_drewN | apply below_drew1 | refine below_set ?_ GE130.out) | exact HB.out)⟩
         ·rw [if_neg c11] at H
          have c11b0 : decide (((rd_L2 l0_2 x17_1).length : Int) ≤ (rd l1 x17_1)) = false := decide_eq_false c11
          clear c11
          by_cases c13 : 0 ≤ (rd l1 x17_1)
          ·rw [if_pos c13] at H
           have c13b0 : decide (0 ≤ (rd l1 x17_1)) = true := decide_eq_true c13
           clear c13
           by_cases c14 : (rd l1 x17_1) < ((rd_L2 l0_2 x17_1).length : Int)
           ·rw [if_pos c14] at H
            have c14b0 : decide ((rd l1 x17_1) < ((rd_L2 l0_2 x17_1).length : Int)) = true := decide_eq_true c14
            clear c14
            by_cases c15 : x6_1.length + (rd_L1 (rd_L2 l0_2 x17_1) (rd l1 x17_1)).length < 17592186044416
            ·rw [if_pos c15] at H
             have LMc15 := Aside0.mk c15
             clear c15
             obtain ⟨y135, hy135⟩ : ∃ y_ : List Int, y_ = (x6_1 ++ (rd_L1 (rd_L2 l0_2 x17_1) (rd l1 x17_1))) := ⟨_, rfl⟩
             replace H : (code_Decode.l0 k1 y135 l1 (l1.length : Int) (wrap64 (x17_1 + 1)) a0_0 l0_1 l0_2) = some (r1, r2) := by first | (rw [hy135]; with_reducible exact H) | (have H2_ := (Option.bind_some _ _).symm.trans H; rw [hy135]; with_reducible exact H2_) | (have H2_ := (Option.bind_some _ _).symm.trans H; with_reducible exact H2_) | with_reducible exact H | (rw [hy135]; exact H) | exact H
             have Ny135 := Aside0.mk hy135
             clear hy135
             have H' := Aside0.mk H
             clear H
             have p131 : 0 ≤ (x17_1 : Int) := of_decide_eq_true (by first | (with_reducible assumption) | assumption)
             have q131 : x17_1 < (l1.length : Int) := of_decide_eq_true (by first | (with_reducible assumption) | assumption)
             obtain ⟨ad131, e131, hx131_0⟩ := Kd.at_int HR1.out x17_1 p131 q131
             cases e131
             replace hx131_0 := (HB.out.cell (World.block_lt_of_cell? w _ hx131_0)).trans hx131_0
             replace p131 := eq_true p131
             replace q131 := eq_true q131
             have hcz16_0 : wr.cell? ⟨gb130, 0, none⟩ = some (.int .i64 a0_0) := (blk_cell BK130.out 0).trans rfl
             have hcz16_1 : wr.cell? ⟨gb130, 1, none⟩ = some (.slice A0_1 l0_1.length c0_1) := (blk_cell BK130.out 1).trans rfl
             have hcz16_2 : wr.cell? ⟨gb130, 2, none⟩ = some (.slice A0_2 l0_2.length c0_2) := (blk_cell BK130.out 2).trans rfl
             have hfz16_0 := blk_frozen BK130.out 0
             have hfz16_1 := blk_frozen BK130.out 1
             have hfz16_2 := blk_frozen BK130.out 2
             have p132 : 0 ≤ (x17_1 : Int) := of_decide_eq_true (by first | (with_reducible assumption) | assumption)
             have q132 : x17_1 < (l0_2.length : Int) := of_decide_eq_true (by first | (with_reducible assumption) | assumption)
             obtain ⟨ad132, A132_0, c132_0, e132, hx132_0, hl132_0, hi132_0⟩ := at_L2 HR0_2.out x17_1 p132 q132
             cases e132
             replace hx132_0 := (HB.out.cell (World.block_lt_of_cell? w _ hx132_0)).trans hx132_0
             have HR132_0 := Aside0.mk hi132_0
             have HC132_0 := Aside0.mk hl132_0
             clear hi132_0 hl132_0
             replace p132 := eq_true p132
             replace q132 := eq_true q132
             have p133 : 0 ≤ (x17_1 : Int) := of_decide_eq_true (by first | (with_reducible assumption) | assumption)
             have q133 : x17_1 < (l0_2.length : Int) := of_decide_eq_true (by first | (with_reducible assumption) | assumption)
             obtain ⟨ad133, A133_0, c133_0, e133, hx133_0, hl133_0, hi133_0⟩ := at_L2 HR0_2.out x17_1 p133 q133
             obtain rfl : ad132 = ad133 := (by injection e133)
             replace hx133_0 := (HB.out.cell (World.block_lt_of_cell? w _ hx133_0)).trans hx133_0
             have HR133_0 := Aside0.mk hi133_0
             have HC133_0 := Aside0.mk hl133_0
             clear hi133_0 hl133_0
             replace p133 := eq_true p133
             replace q133 := eq_true q133
             have ea_ := Option.some.inj (hx132_0.symm.trans hx133_0)
             injection ea_ with ea_ en_ ec_
             subst ea_
             subst ec_
             clear en_
             have p134 : 0 ≤ ((rd l1 x17_1) : Int) := of_decide_eq_true (by first | (with_reducible assumption) | assumption)
             have q134 : (rd l1 x17_1) < ((rd_L2 l0_2 x17_1).length : Int) := of_decide_eq_true (by first | (with_reducible assumption) | assumption)
             obtain ⟨ad134, A134_0, c134_0, e134, hx134_0, hl134_0, hi134_0⟩ := at_L1 HR133_0.out (rd l1 x17_1) p134 q134
             cases e134
             replace hx134_0 := (HB.out.cell (World.block_lt_of_cell? w _ hx134_0)).trans hx134_0
             have HR134_0 := Aside0.mk hi134_0
             have HC134_0 := Aside0.mk hl134_0
             clear hi134_0 hl134_0
             replace p134 := eq_true p134
             replace q134 := eq_true q134
             go_wp2_with (first | ((with_reducible refine gate_builtin (b := .append) (xs := #[.tmp 34, .tmp 42]) rfl ?_); (try (refine gate_guard (by rfl) ?_; dsimp only)); at_builtin; refine Kd.R_append_rows (Kd.int .i64) (w0 := w) w.heap.size rfl (.tmp 34) (.tmp 42) 22 3 (.int .i64 0) 8 rfl Try.underlying22 info3 rfl (by decide) (by omega) u6 x6_1 (rd_L1 (rd_L2 l0_2 x17_1) (rd l1 x17_1)) _ _ _ (fun _ => True) (fun _ => False) rfl rfl ?aO ?aR (fun _ _ h => h) (fun _ h => h.elim) ?aF ?aB ?aS ?aL ?_; (case aR => repeat (first | exact (Kd.C_below HR134_0.out HB.out) | (with_reducible refine Kd.C_alloc ?_ _) | (with_reducible refine Kd.C_drewN ?_ _) | (with_reducible refine Kd.C_drew ?_))); (case aB => exact (by repeat (first | (with_reducible first | exact HB.out | apply below_alloc | apply pw_below_drewN | apply below_drew1 | refine below_set ?_ GE130.out) | exact HB.out))); (case aF => exact (fun _ _ => trivial)); (case aO => exact (by (with_reducible repeat (first | apply Kd.R_alloc | apply Kd.R_drewN | apply Kd.R_drew)); exact HO_6.out)); (case aS => exact (below_size (by repeat (first | (with_reducible first | exact HB.out | apply below_alloc | apply pw_below_drewN | apply below_drew1 | refine below_set ?_ GE130.out) | exact HB.out)))); (case aL => have := LMc15.out; omega); intro v136 w17 ho hb hg hat; rw [← Ny135.out] at ho; have n0_ := Aside0.mk (blk_grown (g := gb130) (o := .cells #[.int .i64 a0_0, .slice A0_1 l0_1.length c0_1, .slice (some ad132) l0_2.length c0_2] 25 (0, 0)) (by (with_reducible repeat (first | refine blk_drewN ?_ _ | refine blk_drew ?_ | refine blk_alloc ?_ _)); exact BK130.out) hg (Kd.R_ne HO_6.out BK130.out (by decide))); have n1_ := Aside0.mk (hb); have n2_ := Aside0.mk (ho); clear BK130; clear HB; clear HO_6; have BK130 := n0_; have HB := n1_; have HO137 := n2_; clear n0_ n1_ n2_; clear ho hb hg hat))
             go_roundg k1
             case measure => have := HK1.out; omega
             case rel => exact ⟨(y135), (wrap64 (x17_1 + 1)), (by first | rfl | (simp; done) | (simp [*]; done)), H', ⟨by have := HK1.out; omega⟩, ⟨by (with_reducible repeat (first | apply Kd.R_alloc | apply Kd.R_drewN | apply Kd.R_drew)); exact HO137.out⟩, ⟨by (with_reducible repeat (first | refine blk_drewN ?_ _ | refine blk_drew ?_ | refine blk_alloc ?_ _)); exact BK130.out⟩, ⟨by repeat (first | (with_reducible first | exact HB.out | apply below_alloc | apply pw_below_drewN | apply below_drew1 | refine below_set ?_ GE130.out) | exact HB.out)⟩⟩
            ·rw [if_neg c15] at H
             exact absurd H (by simp)
           ·rw [if_neg c14] at H
            exact absurd H (by simp)
          ·rw [if_neg c13] at H
           exact absurd H (by simp)
        ·rw [if_neg c10] at H
         exact absurd H (by simp)
      ·rw [if_neg c8] at H
       exact absurd H (by simp)
     ·rw [if_neg c7] at H
      exact absurd H (by simp)
    ·rw [if_neg c6] at H
     have c6b0 : decide (x17_1 < (l1.length : Int)) = false := decide_eq_false c6
     clear c6
     simp only [Option.some.injEq, Prod.mk.injEq] at H
     obtain ⟨rfl, rfl⟩ := H
     go_wp2
     go_ret2
     exact ⟨_, by first | rfl | (simp [errW_none, errW_some] <;> rfl) | (simp [*, errW_none, errW_some] <;> rfl), by (with_reducible repeat (first | apply Kd.R_alloc | apply Kd.R_drewN | apply Kd.R_drew)); exact HO_6.out, by repeat (first | (with_reducible first | exact HB.out | apply below_alloc | apply pw_below_drewN | apply below_drew1 | refine below_set ?_ GE130.out) | exact HB.out)⟩
 ·rw [if_neg c3] at H
  have c3b0 : ((l1.length : Int) == (l0_2.length : Int)) = false := beq_eq_false_iff_ne.mpr c3
  have c3b1 : ((l1.length : Int) != (l0_2.length : Int)) = true := bne_iff_ne.mpr c3
  have c3b2 : (l1.length == l0_2.length) = false := by first | simpa using c3 | (simp at c3 ⊢; omega)
  simp only [Option.some.injEq, Prod.mk.injEq] at H
  obtain ⟨rfl, rfl⟩ := H
  go_enter Try.func15, Try.ntmps15
  go_wp2_with (first | ((with_reducible refine gate_dst (N := 2) rfl ?_); (try (refine gate_guard (by rfl) ?_; dsimp only)); refine box_event ?hg (N := 2) ?hd (cs := #[.int .i64 a0_0, .slice A0_1 l0_1.length c0_1, .slice A0_2 l0_2.length c0_2]) (t := 25) ?hr ?_; (case hd => rfl); (case hg => rfl); (case hr => first | (go_simp; done) | (go_simp; rfl)); intro gb130 hg w18 hbox hb; have n0_ := Aside0.mk (below_step (by repeat (first | (with_reducible first | exact HB.out | apply below_alloc | apply pw_below_drewN | apply below_drew1) | exact HB.out)) hb); have n1_ := Aside0.mk (hbox); have n2_ := Aside0.mk ((by rw [hg]; exact (below_size (by repeat (first | (with_reducible first | exact HB.out | apply below_alloc | apply pw_below_drewN | apply below_drew1) | exact HB.out))) : w.heap.size ≤ gb130)); have n3_ := Aside0.mk ((by rw [hg]; exact (below_size (by repeat (first | (with_reducible first | exact HB.out | apply below_alloc | apply pw_below_drewN | apply below_drew1) | exact HB.out))) : w.heap.size ≤ gb130)); clear HB; have HB := n0_; have BK130 := n1_; have GW130 := n2_; have GE130 := n3_; clear n0_ n1_ n2_ n3_; clear hb hbox hg; have hcz19_0 : w18.cell? ⟨gb130, 0, none⟩ = some (.int .i64 a0_0) := (blk_cell BK130.out 0).trans rfl; have hcz19_1 : w18.cell? ⟨gb130, 1, none⟩ = some (.slice A0_1 l0_1.length c0_1) := (blk_cell BK130.out 1).trans rfl; have hcz19_2 : w18.cell? ⟨gb130, 2, none⟩ = some (.slice A0_2 l0_2.length c0_2) := (blk_cell BK130.out 2).trans rfl; have hfz19_0 := blk_frozen BK130.out 0; have hfz19_1 := blk_frozen BK130.out 1; have hfz19_2 := blk_frozen BK130.out 2))
  go_ret2
  exact ⟨_, by first | rfl | (simp [errW_none, errW_some] <;> rfl) | (simp [*, errW_none, errW_some] <;> rfl), by first | exact Kd.R_nil _ _ _ _ _ | exact Kd.N_nil _ _ _ _ _ | exact Kd.V_nil _ _ _ _ _ | exact Kd.Q_nil _ _ _ _ _ | exact Kd.S_nil _ _ _ _ _, by repeat (first | (with_reducible first | exact HB.out | apply below_alloc | apply pw_below_drewN | apply below_drew1 | refine below_set ?_ GE130.out) | exact HB.out)⟩
end Go.Proofs.Ytgpdfalopdhjlaa.Q
end
section
namespace Go.Proofs.Ytgpdfalopdhjlaa.Q
open Go.RowKit Go.Proofs.YtgpdfalopdhjlaaW.PrintWords Go.Proofs.YtgpdfalopdhjlaaW.PrintLast Go.Proofs.YtgpdfalopdhjlaaW.PrintMore
attribute [local go_sem] max2_int min2_int max_two min_two max_three min_three max_four min_four   -- for this text's walks alone
set_option linter.unusedVariables false
set_option linter.unusedSimpArgs false
def r4_Compare.l0 : Nat → List Int → List Int → Int → Option (Int)
 | 0, _, _, _ => none
 | k + 1, x0, x1, x5 => if x5 < (x0.length : Int) then (if 0 ≤ x5 then (if x5 < (x1.length : Int) then (if (rd x0 x5) < (rd x1 x5) then (some (-1)) else (if (rd x0 x5) > (rd x1 x5) then (some 1) else (r4_Compare.l0 k x0 x1 (wrap64 (x5 + 1))))) else (none)) else (none)) else (some 0)
def r4_Compare.f (k : Nat) (l0 : List Int) (l1 : List Int) : Option (Int) := if (l0.length : Int) < (l1.length : Int) then (some (-1)) else (if (l0.length : Int) > (l1.length : Int) then (some 1) else (r4_Compare.l0 k l0 l1 0))
theorem r4_Compare.mono_l : ∀ k, (∀ y0 y1 y2, LeO (r4_Compare.l0 k y0 y1 y2) (r4_Compare.l0 (k + 1) y0 y1 y2))
 | 0 => fun _ _ _ r h => by simp [r4_Compare.l0] at h
 | k + 1 => by
  have ih0 := r4_Compare.mono_l k
  ·intro y0 y1 y2
   unfold r4_Compare.l0
   repeat' first
   | (with_reducible exact ih0 _ _ _)
   | (with_reducible exact LeO.refl _)
   | (with_reducible exact LeO.none _)
   | (with_reducible refine LeO.ite ?_ ?_)
   | (with_reducible refine LeO.bind ?_ (fun _ => ?_))
   | exact ih0 _ _ _
   | exact LeO.none _
   | refine LeO.ite ?_ ?_
   | refine LeO.bind ?_ (fun _ => ?_)
theorem r4_Compare.mono : ∀ a0 a1 k, LeO (r4_Compare.f k a0 a1) (r4_Compare.f (k + 1) a0 a1) := by
 intro a0 a1 k
 have ih0 := r4_Compare.mono_l k
 unfold r4_Compare.f
 repeat' first
   | (with_reducible exact ih0 _ _ _)
   | (with_reducible exact LeO.refl _)
   | (with_reducible exact LeO.none _)
   | (with_reducible refine LeO.ite ?_ ?_)
   | (with_reducible refine LeO.bind ?_ (fun _ => ?_))
   | exact ih0 _ _ _
   | exact LeO.none _
   | refine LeO.ite ?_ ?_
   | refine LeO.bind ?_ (fun _ => ?_)
set_option maxHeartbeats 8000000 in
set_option maxRecDepth 100000 in
theorem r4_Compare.calls (k : Nat) (A0 : Option Addr) (c0 : Nat) (l0 : List Int) (A1 : Option Addr) (c1 : Nat) (l1 : List Int) (r : Int) (w : World) (hr0 : Kd.C (Kd.int .i64) w A0 l0.length l0) (hc0 : l0.length ≤ c0) (hr1 : Kd.C (Kd.int .i64) w A1 l1.length l1) (hc1 : l1.length ≤ c1) (h : r4_Compare.f k l0 l1 = some r) :
  Calls Try.prog 46 #[.slice A0 l0.length c0, .slice A1 l1.length c1] w fun e w' => e = .returned (.int .i64 r) ∧ Drawn0 w w' := by
 have HR0 := Aside0.mk hr0
 have HC0 := Aside0.mk hc0
 clear hr0 hc0
 have HR1 := Aside0.mk hr1
 have HC1 := Aside0.mk hc1
 clear hr1 hc1
 have H : (if (l0.length : Int) < (l1.length : Int) then (some (-1)) else (if (l0.length : Int) > (l1.length : Int) then (some 1) else (r4_Compare.l0 k l0 l1 0))) = some r := h
 clear h
 by_cases c3 : (l0.length : Int) < (l1.length : Int)
 ·rw [if_pos c3] at H
  have c3b0 : decide ((l0.length : Int) < (l1.length : Int)) = true := decide_eq_true c3
  have c3b1 : decide (l0.length < l1.length) = true := decide_eq_true (Int.ofNat_lt.mp c3)
  clear c3
  obtain rfl := Option.some.inj H
  go_enter Try.func46, Try.ntmps46
  go_wp2
  repeat (go_quiet (fail); try go_wp2)
  go_ret
  exact ⟨by first | rfl | (simp; done) | (simp [*]; done), by repeat (first | exact Drawn0.refl _ | apply Drawn0.step)⟩
 ·rw [if_neg c3] at H
  have c3b0 : decide ((l0.length : Int) < (l1.length : Int)) = false := decide_eq_false c3
  have c3b1 : decide (l0.length < l1.length) = false := decide_eq_false (fun h => c3 (Int.ofNat_lt.mpr h))
  clear c3
  by_cases c4 : (l0.length : Int) > (l1.length : Int)
  ·rw [if_pos c4] at H
   have c4b0 : decide ((l1.length : Int) < (l0.length : Int)) = true := decide_eq_true c4
   have c4b1 : decide (l1.length < l0.length) = true := decide_eq_true (Int.ofNat_lt.mp c4)
   clear c4
   obtain rfl := Option.some.inj H
   go_enter Try.func46, Try.ntmps46
   go_wp2
   repeat (go_quiet (fail); try go_wp2)
   go_ret
   exact ⟨by first | rfl | (simp; done) | (simp [*]; done), by repeat (first | exact Drawn0.refl _ | apply Drawn0.step)⟩
  ·rw [if_neg c4] at H
   have c4b0 : decide ((l1.length : Int) < (l0.length : Int)) = false := decide_eq_false c4
   have c4b1 : decide (l1.length < l0.length) = false := decide_eq_false (fun h => c4 (Int.ofNat_lt.mpr h))
   clear c4
   have H' := Aside0.mk H
   clear H
   go_enter Try.func46, Try.ntmps46
   go_wp2
   repeat (go_quiet (fail); try go_wp2)
   go_loopg [5] k (fun kq v5 w' => ∃ (x5_1 : Int), v5 = .int .i64 x5_1 ∧ Aside0 (r4_Compare.l0 kq l0 l1 x5_1 = some r) ∧ Aside0 (kq ≤ k) ∧ Drawn0 w w')
   case atStart => exact ⟨(0), (by first | rfl | (simp; done) | (simp [*]; done)), H', ⟨Nat.le_refl _⟩, by repeat (first | exact Drawn0.refl _ | apply Drawn0.step)⟩
   case round =>
    clear H'
    try clear c1
    try clear p2
    try clear c3
    try clear c3b0
    try clear c3b1
    try clear c4
    try clear c4b0
    try clear c4b1
    obtain ⟨x5_1, rfl, HA, HK1, ⟨m1, rfl⟩⟩ := hrel
    cases gk with
    | zero => exact absurd HA.out (by simp [r4_Compare.l0])
    | succ k1 =>
     have H := HA.out
     clear HA
     simp only [r4_Compare.l0] at H
     by_cases c5 : x5_1 < (l0.length : Int)
     ·rw [if_pos c5] at H
      have c5b0 : decide (x5_1 < (l0.length : Int)) = true := decide_eq_true c5
      clear c5
      by_cases c6 : 0 ≤ x5_1
      ·rw [if_pos c6] at H
       have c6b0 : decide (0 ≤ x5_1) = true := decide_eq_true c6
       clear c6
       by_cases c7 : x5_1 < (l1.length : Int)
       ·rw [if_pos c7] at H
        have c7b0 : decide (x5_1 < (l1.length : Int)) = true := decide_eq_true c7
        clear c7
        by_cases c8 : (rd l0 x5_1) < (rd l1 x5_1)
        ·rw [if_pos c8] at H
         have c8b0 : decide ((rd l0 x5_1) < (rd l1 x5_1)) = true := decide_eq_true c8
         clear c8
         obtain rfl := Option.some.inj H
         have p138 : 0 ≤ (x5_1 : Int) := of_decide_eq_true (by first | (with_reducible assumption) | assumption)
         have q138 : x5_1 < (l0.length : Int) := of_decide_eq_true (by first | (with_reducible assumption) | assumption)
         obtain ⟨ad138, e138, hx138_0⟩ := Kd.at_int HR0.out x5_1 p138 q138
         cases e138
         replace p138 := eq_true p138
         replace q138 := eq_true q138
         have p139 : 0 ≤ (x5_1 : Int) := of_decide_eq_true (by first | (with_reducible assumption) | assumption)
         have q139 : x5_1 < (l1.length : Int) := of_decide_eq_true (by first | (with_reducible assumption) | assumption)
         obtain ⟨ad139, e139, hx139_0⟩ := Kd.at_int HR1.out x5_1 p139 q139
         cases e139
         replace p139 := eq_true p139
         replace q139 := eq_true q139
         go_wp2
         repeat (go_quiet (fail); try go_wp2)
         go_ret
         exact ⟨by first | rfl | (simp; done) | (simp [*]; done), by repeat (first | exact Drawn0.refl _ | apply Drawn0.step)⟩
        ·rw [if_neg c8] at H
         have c8b0 : decide ((rd l0 x5_1) < (rd l1 x5_1)) = false := decide_eq_false c8
         clear c8
         by_cases c9 : (rd l0 x5_1) > (rd l1 x5_1)
         ·rw [if_pos c9] at H
          have c9b0 : decide ((rd l1 x5_1) < (rd l0 x5_1)) = true := decide_eq_true c9
          clear c9
          obtain rfl := Option.some.inj H
          have p138 : 0 ≤ (x5_1 : Int) := of_decide_eq_true (by first | (with_reducible assumption) | assumption)
          have q138 : x5_1 < (l0.length : Int) := of_decide_eq_true (by first | (with_reducible assumption) | assumption)
          obtain ⟨ad138, e138, hx138_0⟩ := Kd.at_int HR0.out x5_1 p138 q138
          cases e138
          replace p138 := eq_true p138
          replace q138 := eq_true q138
          have p139 : 0 ≤ (x5_1 : Int) := of_decide_eq_true (by first | (with_reducible assumption) | assumption)
          have q139 : x5_1 < (l1.length : Int) := of_decide_eq_true (by first | (with_reducible assumption) | assumption)
          obtain ⟨ad139, e139, hx139_0⟩ := Kd.at_int HR1.out x5_1 p139 q139
          cases e139
          replace p139 := eq_true p139
          replace q139 := eq_true q139
          have p140 : 0 ≤ (x5_1 : Int) := of_decide_eq_true (by first | (with_reducible assumption) | assumption)
          have q140 : x5_1 < (l0.length : Int) := of_decide_eq_true (by first | (with_reducible assumption) | assumption)
          obtain ⟨ad140, e140, hx140_0⟩ := Kd.at_int HR0.out x5_1 p140 q140
          obtain rfl : ad138 = ad140 := (by injection e140)
          replace p140 := eq_true p140
          replace q140 := eq_true q140
          have p141 : 0 ≤ (x5_1 : Int) := of_decide_eq_true (by first | (with_reducible assumption) | assumption)
          have q141 : x5_1 < (l1.length : Int) := of_decide_eq_true (by first | (with_reducible assumption) | assumption)
          obtain ⟨ad141, e141, hx141_0⟩ := Kd.at_int HR1.out x5_1 p141 q141
          obtain rfl : ad139 = ad141 := (by injection e141)
          replace p141 := eq_true p141
          replace q141 := eq_true q141
          go_wp2
          repeat (go_quiet (fail); try go_wp2)
          go_ret
          exact ⟨by first | rfl | (simp; done) | (simp [*]; done), by repeat (first | exact Drawn0.refl _ | apply Drawn0.step)⟩
         ·rw [if_neg c9] at H
          have c9b0 : decide ((rd l1 x5_1) < (rd l0 x5_1)) = false := decide_eq_false c9
          clear c9
          have H' := Aside0.mk H
          clear H
          have p138 : 0 ≤ (x5_1 : Int) := of_decide_eq_true (by first | (with_reducible assumption) | assumption)
          have q138 : x5_1 < (l0.length : Int) := of_decide_eq_true (by first | (with_reducible assumption) | assumption)
          obtain ⟨ad138, e138, hx138_0⟩ := Kd.at_int HR0.out x5_1 p138 q138
          cases e138
          replace p138 := eq_true p138
          replace q138 := eq_true q138
          have p139 : 0 ≤ (x5_1 : Int) := of_decide_eq_true (by first | (with_reducible assumption) | assumption)
          have q139 : x5_1 < (l1.length : Int) := of_decide_eq_true (by first | (with_reducible assumption) | assumption)
          obtain ⟨ad139, e139, hx139_0⟩ := Kd.at_int HR1.out x5_1 p139 q139
          cases e139
          replace p139 := eq_true p139
          replace q139 := eq_true q139
          have p140 : 0 ≤ (x5_1 : Int) := of_decide_eq_true (by first | (with_reducible assumption) | assumption)
          have q140 : x5_1 < (l0.length : Int) := of_decide_eq_true (by first | (with_reducible assumption) | assumption)
          obtain ⟨ad140, e140, hx140_0⟩ := Kd.at_int HR0.out x5_1 p140 q140
          obtain rfl : ad138 = ad140 := (by injection e140)
          replace p140 := eq_true p140
          replace q140 := eq_true q140
          have p141 : 0 ≤ (x5_1 : Int) := of_decide_eq_true (by first | (with_reducible assumption) | assumption)
          have q141 : x5_1 < (l1.length : Int) := of_decide_eq_true (by first | (with_reducible assumption) | assumption)
          obtain ⟨ad141, e141, hx141_0⟩ := Kd.at_int HR1.out x5_1 p141 q141
          obtain rfl : ad139 = ad141 := (by injection e141)
          replace p141 := eq_true p141
          replace q141 := eq_true q141
          go_wp2
          repeat (go_quiet (fail); try go_wp2)
          go_roundg k1
          case measure => have := HK1.out; omega
          case rel => exact ⟨(wrap64 (x5_1 + 1)), (by first | rfl | (simp; done) | (simp [*]; done)), H', ⟨by have := HK1.out; omega⟩, by repeat (first | exact Drawn0.refl _ | apply Drawn0.step)⟩
       ·rw [if_neg c7] at H
        exact absurd H (by simp)
      ·rw [if_neg c6] at H
       exact absurd H (by simp)
     ·rw [if_neg c5] at H
      have c5b0 : decide (x5_1 < (l0.length : Int)) = false := decide_eq_false c5
      clear c5
      obtain rfl := Option.some.inj H
      go_wp2
      repeat (go_quiet (fail); try go_wp2)
      go_ret
      exact ⟨by first | rfl | (simp; done) | (simp [*]; done), by repeat (first | exact Drawn0.refl _ | apply Drawn0.step)⟩
def r4_Same.f (k : Nat) (l0 : List Int) (l1 : List Int) : Option (Bool) := (r4_Compare.f k l0 l1).bind fun t142 => (some (t142 == 0))
theorem r4_Same.mono : ∀ a0 a1 k, LeO (r4_Same.f k a0 a1) (r4_Same.f (k + 1) a0 a1) := by
 intro a0 a1 k
 unfold r4_Same.f
 repeat' first
   | (with_reducible exact r4_Compare.mono _ _ _)
   | (with_reducible exact LeO.refl _)
   | (with_reducible exact LeO.none _)
   | (with_reducible refine LeO.ite ?_ ?_)
   | (with_reducible refine LeO.bind ?_ (fun _ => ?_))
   | exact r4_Compare.mono _ _ _
   | exact LeO.none _
   | refine LeO.ite ?_ ?_
   | refine LeO.bind ?_ (fun _ => ?_)
set_option maxHeartbeats 8000000 in
set_option maxRecDepth 100000 in
theorem r4_Same.calls (k : Nat) (A0 : Option Addr) (c0 : Nat) (l0 : List Int) (A1 : Option Addr) (c1 : Nat) (l1 : List Int) (r : Bool) (w : World) (hr0 : Kd.C (Kd.int .i64) w A0 l0.length l0) (hc0 : l0.length ≤ c0) (hr1 : Kd.C (Kd.int .i64) w A1 l1.length l1) (hc1 : l1.length ≤ c1) (h : r4_Same.f k l0 l1 = some r) :
  Calls Try.prog 17 #[.slice A0 l0.length c0, .slice A1 l1.length c1] w fun e w' => e = .returned (.bool r) ∧ Drawn0 w w' := by
 have HR0 := Aside0.mk hr0
 have HC0 := Aside0.mk hc0
 clear hr0 hc0
 have HR1 := Aside0.mk hr1
 have HC1 := Aside0.mk hc1
 clear hr1 hc1
 have H : ((r4_Compare.f k l0 l1).bind fun t142 => (some (t142 == 0))) = some r := h
 clear h
 replace H := Option.bind_eq_some_iff.mp H
 obtain ⟨t142, A30, H⟩ := H
 replace H : (some (t142 == 0)) = some r := H
 have A3 := Aside0.mk A30
 clear A30
 obtain rfl := Option.some.inj H
 go_enter Try.func17, Try.ntmps17
 go_wp2_with (first | ((with_reducible refine gate_callee (f := 46) rfl ?_); refine goesL_ (some 7) rfl rfl Try.func46 (by kernel_rfl) rfl #[.slice A0 l0.length c0, .slice A1 l1.length c1] rfl (by (try simp only [List.map_toArray, List.map_cons, List.map_nil]); first | done | rfl | (simp only [List.length_drop, List.length_take]; rfl)) ?_; (with_reducible refine (r4_Compare.calls k _ _ l0 _ _ l1 t142 _ ?side1 ?side2 ?side3 ?side4 A3.out).mono ?_); (case side1 => repeat (first | exact HR0.out | (with_reducible refine Kd.C_alloc ?_ _) | (with_reducible refine Kd.C_drewN ?_ _) | (with_reducible refine Kd.C_drew ?_))); (case side2 => exact HC0.out); (case side3 => repeat (first | exact HR1.out | (with_reducible refine Kd.C_alloc ?_ _) | (with_reducible refine Kd.C_drewN ?_ _) | (with_reducible refine Kd.C_drew ?_))); (case side4 => exact HC1.out); rintro e w' ⟨rfl, ⟨nd, rfl⟩⟩; refine ⟨_, rfl, ?_⟩))
 go_ret
 exact ⟨by first | rfl | (simp; done) | (simp [*]; done), by repeat (first | exact Drawn0.refl _ | apply Drawn0.step)⟩
def metric_clamp_int.f (a0 : Int) (a1 : Int) (a2 : Int) : Option (Int) := some (mx a1 (mn a0 a2))
set_option maxHeartbeats 400000 in
theorem metric_clamp_int.calls (a0 : Int) (a1 : Int) (a2 : Int) (r : Int) (w : World) (h : metric_clamp_int.f a0 a1 a2 = some r) :
  Calls Try.prog 86 #[.int .i64 a0, .int .i64 a1, .int .i64 a2] w fun e w' => e = .returned (.int .i64 r) ∧ Drawn0 w w' := by
 obtain rfl := Option.some.inj h
 clear h
 obtain ⟨x, hx⟩ : ∃ x, mn a0 a2 = x := ⟨_, rfl⟩
 obtain ⟨y, hy⟩ : ∃ y, mx a1 x = y := ⟨_, rfl⟩
 rw [hx, hy]
 unfold mn at hx
 unfold mx at hy
 go_enter Try.func86, Try.ntmps86
 go_wp2
 go_ret
 exact ⟨rfl, Drawn0.refl _⟩
def bits_Len.f (a0 : Int) : Option (Int) := if 0 ≤ a0 ∧ a0 ≤ 1152921504606846976 then some (Lib.bitLen a0.toNat : Int) else none
theorem bits_Len.calls (a0 : Int) (r : Int) (w : World) (h : bits_Len.f a0 = some r) :
  Calls Try.prog 87 #[.int .u64 a0] w fun e w' => e = .returned (.int .i64 r) ∧ Drawn0 w w' := by
 unfold bits_Len.f at h
 split at h
 ·rename_i hk
  obtain rfl := Option.some.inj h
  refine (Go.Proofs.Try.bits_Len a0 w hk.1 (by omega)).mono ?_
  rintro e w' ⟨rfl, rfl⟩
  exact ⟨rfl, Drawn0.refl _⟩
 ·cases h
def metric_Isqrt.l0 : Nat → Int → Int → Option (Int)
 | 0, _, _ => none
 | k + 1, x0, x3 => if x3 = 0 then (none) else (if (wrap64 (Int.tdiv (wrap64 (x3 + (wrap64 (Int.tdiv x0 x3)))) 2)) ≥ x3 then (some x3) else (metric_Isqrt.l0 k x0 (wrap64 (Int.tdiv (wrap64 (x3 + (wrap64 (Int.tdiv x0 x3)))) 2))))
def metric_Isqrt.f (k : Nat) (a0 : Int) : Option (Int) := (metric_clamp_int.f a0 0 1152921504606846976).bind fun t143 => (if t143 = 0 then (some 0) else ((bits_Len.f (IntKind.u64.wrap (t143))).bind fun t144 => (if 0 ≤ (wrap64 (Int.tdiv (wrap64 (t144 + 1)) 2)) then (metric_Isqrt.l0 k t143 (shl .i64 1 (wrap64 (Int.tdiv (wrap64 (t144 + 1)) 2)))) else (none))))
set_option maxHeartbeats 8000000 in
set_option maxRecDepth 100000 in
theorem metric_Isqrt.calls (k : Nat) (a0 : Int) (r : Int) (w : World) (h : metric_Isqrt.f k a0 = some r) :
  Calls Try.prog 83 #[.int .i64 a0] w fun e w' => e = .returned (.int .i64 r) ∧ Drawn0 w w' := by
 have H : ((metric_clamp_int.f a0 0 1152921504606846976).bind fun t143 => (if t143 = 0 then (some 0) else ((bits_Len.f (IntKind.u64.wrap (t143))).bind fun t144 => (if 0 ≤ (wrap64 (Int.tdiv (wrap64 (t144 + 1)) 2)) then (metric_Isqrt.l0 k t143 (shl .i64 1 (wrap64 (Int.tdiv (wrap64 (t144 + 1)) 2)))) else (none))))) = some r := h
 clear h
 replace H := Option.bind_eq_some_iff.mp H
 obtain ⟨t143, A20, H⟩ := H
 replace H : (if t143 = 0 then (some 0) else ((bits_Len.f (IntKind.u64.wrap (t143))).bind fun t144 => (if 0 ≤ (wrap64 (Int.tdiv (wrap64 (t144 + 1)) 2)) then (metric_Isqrt.l0 k t143 (shl .i64 1 (wrap64 (Int.tdiv (wrap64 (t144 + 1)) 2)))) else (none)))) = some r := H
 have A2 := Aside0.mk A20
 clear A20
 by_cases c3 : t143 = 0
 ·rw [if_pos c3] at H
  have c3b0 : (t143 == 0) = true := beq_iff_eq.mpr c3
  have c3b1 : (t143 != 0) = false := bne_eq_false_iff_eq.mpr c3
  clear c3
  obtain rfl := Option.some.inj H
  go_enter Try.func83, Try.ntmps83
  go_wp2_with (first | ((with_reducible refine gate_callee (f := 86) rfl ?_); refine goesL_ (some 6) rfl rfl Try.func86 (by kernel_rfl) rfl #[.int .i64 a0, .int .i64 0, .int .i64 1152921504606846976] rfl (by (try simp only [List.map_toArray, List.map_cons, List.map_nil]); first | done | rfl | (simp only [List.length_drop, List.length_take]; rfl)) ?_; (with_reducible refine (metric_clamp_int.calls a0 0 1152921504606846976 t143 _ A2.out).mono ?_); rintro e w' ⟨rfl, ⟨nd, rfl⟩⟩; refine ⟨_, rfl, ?_⟩))
  go_ret
  exact ⟨by first | rfl | (simp; done) | (simp [*]; done), by repeat (first | exact Drawn0.refl _ | apply Drawn0.step)⟩
 ·rw [if_neg c3] at H
  have c3b0 : (t143 == 0) = false := beq_eq_false_iff_ne.mpr c3
  have c3b1 : (t143 != 0) = true := bne_iff_ne.mpr c3
  replace H := Option.bind_eq_some_iff.mp H
  obtain ⟨t144, A40, H⟩ := H
  replace H : (if 0 ≤ (wrap64 (Int.tdiv (wrap64 (t144 + 1)) 2)) then (metric_Isqrt.l0 k t143 (shl .i64 1 (wrap64 (Int.tdiv (wrap64 (t144 + 1)) 2)))) else (none)) = some r := H
  have A4 := Aside0.mk A40
  clear A40
  obtain ⟨ji5, hji5⟩ : ∃ j_ : Int, (wrap64 (Int.tdiv (wrap64 (t144 + 1)) 2)) = j_ := ⟨_, rfl⟩
  replace H : (if 0 ≤ (ji5) then (metric_Isqrt.l0 k t143 (shl .i64 1 (ji5))) else (none)) = some r := by first | (rw [hji5] at H; exact H) | (simp only [hji5] at H ⊢; exact H)
  (try rw [hji5] at A2)
  (try rw [hji5] at A4)
  have hji5w : (IntKind.i64.wrap (Int.tdiv (wrap64 (t144 + 1)) 2)) = ji5 := (i64_w _).trans hji5
  by_cases c6 : 0 ≤ (ji5)
  ·rw [if_pos c6] at H
   have c6b0 := eq_true c6
   have c6b1 : decide (0 ≤ (ji5)) = true := decide_eq_true c6
   clear c6
   obtain ⟨ji7, hji7⟩ : ∃ j_ : Int, (shl .i64 1 (ji5)) = j_ := ⟨_, rfl⟩
   replace H : (metric_Isqrt.l0 k t143 ji7) = some r := by first | (rw [hji7] at H; exact H) | (simp only [hji7] at H ⊢; exact H)
   (try rw [hji7] at A2)
   (try rw [hji7] at A4)
   have hji7_ : (IntKind.i64.wrap (1 * 2 ^ min (ji5).toNat 64)) = ji7 := hji7
   have hji7z : (ji5) ≤ 64 → (IntKind.i64.wrap (1 * 2 ^ (ji5).toNat)) = ji7 := shl_small hji7
   have hji7u : (IntKind.i64.wrap (2 ^ min (ji5).toNat 64)) = ji7 := by have h_ := hji7_; rw [Int.one_mul] at h_; exact h_
   have hji7v : (ji5) ≤ 64 → (IntKind.i64.wrap (2 ^ (ji5).toNat)) = ji7 := fun hle_ => by have h_ := hji7z hle_; rw [Int.one_mul] at h_; exact h_
   have hji7y : (wrap64 (1 * 2 ^ min (ji5).toNat 64)) = ji7 := (i64_w _).symm.trans hji7_
   have hji7x : (ji5) ≤ 64 → (wrap64 (1 * 2 ^ (ji5).toNat)) = ji7 := fun h_ => (i64_w _).symm.trans (hji7z h_)
   have H' := Aside0.mk H
   clear H
   go_enter Try.func83, Try.ntmps83
   go_wp2_with (first | ((with_reducible refine gate_callee (f := 86) rfl ?_); refine goesL_ (some 6) rfl rfl Try.func86 (by kernel_rfl) rfl #[.int .i64 a0, .int .i64 0, .int .i64 1152921504606846976] rfl (by (try simp only [List.map_toArray, List.map_cons, List.map_nil]); first | done | rfl | (simp only [List.length_drop, List.length_take]; rfl)) ?_; (with_reducible refine (metric_clamp_int.calls a0 0 1152921504606846976 t143 _ A2.out).mono ?_); rintro e w' ⟨rfl, ⟨nd, rfl⟩⟩; refine ⟨_, rfl, ?_⟩) | ((with_reducible refine gate_callee (f := 87) rfl ?_); refine goesL_ (some 11) rfl rfl Try.func87 (by kernel_rfl) rfl #[.int .u64 (IntKind.u64.wrap (t143))] rfl (by (try simp only [List.map_toArray, List.map_cons, List.map_nil]); first | done | rfl | (simp only [List.length_drop, List.length_take]; rfl)) ?_; (with_reducible refine (bits_Len.calls (IntKind.u64.wrap (t143)) t144 _ A4.out).mono ?_); rintro e w' ⟨rfl, ⟨nd, rfl⟩⟩; refine ⟨_, rfl, ?_⟩))
   go_loopg [3] k (fun kq v3 w' => ∃ (x3_1 : Int), v3 = .int .i64 x3_1 ∧ Aside0 (metric_Isqrt.l0 kq t143 x3_1 = some r) ∧ Aside0 (kq ≤ k) ∧ Drawn0 w w')
   case atStart => exact ⟨(ji7), (by first | rfl | (simp; done) | (simp only [← hji7] <;> (first | rfl | simp)) | (simp [*]; done)), H', ⟨Nat.le_refl _⟩, by repeat (first | exact Drawn0.refl _ | apply Drawn0.step)⟩
   case round =>
    clear H'
    try clear p2
    try clear c3
    try clear c3b0
    try clear c3b1
    try clear c6
    try clear c6b0
    try clear c6b1
    try clear p6
    obtain ⟨x3_1, rfl, HA, HK1, ⟨m1, rfl⟩⟩ := hrel
    cases gk with
    | zero => exact absurd HA.out (by simp [metric_Isqrt.l0])
    | succ k1 =>
     have H := HA.out
     clear HA
     simp only [metric_Isqrt.l0] at H
     by_cases c8 : x3_1 = 0
     ·rw [if_pos c8] at H
      exact absurd H (by simp)
     ·rw [if_neg c8] at H
      have c8b0 : (x3_1 == 0) = false := beq_eq_false_iff_ne.mpr c8
      have c8b1 : (x3_1 != 0) = true := bne_iff_ne.mpr c8
      by_cases c9 : (wrap64 (Int.tdiv (wrap64 (x3_1 + (wrap64 (Int.tdiv t143 x3_1)))) 2)) ≥ x3_1
      ·rw [if_pos c9] at H
       have c9b0 : decide (x3_1 ≤ (wrap64 (Int.tdiv (wrap64 (x3_1 + (wrap64 (Int.tdiv t143 x3_1)))) 2))) = true := decide_eq_true c9
       clear c9
       obtain rfl := Option.some.inj H
       go_wp2
       go_ret
       exact ⟨by first | rfl | (simp; done) | (simp only [← hji5, ← hji7] <;> (first | rfl | simp)) | (simp [*]; done), by repeat (first | exact Drawn0.refl _ | apply Drawn0.step)⟩
      ·rw [if_neg c9] at H
       have c9b0 : decide (x3_1 ≤ (wrap64 (Int.tdiv (wrap64 (x3_1 + (wrap64 (Int.tdiv t143 x3_1)))) 2))) = false := decide_eq_false c9
       clear c9
       have H' := Aside0.mk H
       clear H
       go_wp2
       go_roundg k1
       case measure => have := HK1.out; omega
       case rel => exact ⟨(wrap64 (Int.tdiv (wrap64 (x3_1 + (wrap64 (Int.tdiv t143 x3_1)))) 2)), (by first | rfl | (simp; done) | (simp [*]; done)), H', ⟨by have := HK1.out; omega⟩, by repeat (first | exact Drawn0.refl _ | apply Drawn0.step)⟩
  ·rw [if_neg c6] at H
   exact absurd H (by simp)
theorem metric_Isqrt.loop (n : Int) (hn1 : 1 ≤ n) (hn2 : n ≤ 1152921504606846976) (d : Nat) : ∀ (k : Nat) (x : Int), 1 ≤ x → x ≤ 2147483648 → n < (x + 1) * (x + 1) → x ≤ d → d < k → metric_Isqrt.l0 k n x = some (Plain.root n) := by
 induction d with
 | zero => intro k x h1 _ _ h2 _; omega
 | succ d ih =>
  intro k x h1 h2 h3 h4 h5
  obtain ⟨k, rfl⟩ : ∃ m, k = m + 1 := ⟨k - 1, by omega⟩
  simp only [metric_Isqrt.l0]
  rw [if_neg (by omega)]
  have hq0 : 0 ≤ n / x := Int.ediv_nonneg (by omega) (by omega)
  have hq1 : n / x ≤ n := Int.ediv_le_self _ (by omega)
  have hq2 : x * (n / x) ≤ n := Int.mul_ediv_self_le (by omega)
  have hq3 : n < x * (n / x + 1) := by
   have := Int.lt_mul_ediv_self_add (x := n) (k := x) (by omega)
   rw [Int.mul_add]
   omega
  have e1 : wrap64 (Int.tdiv n x) = n / x := by
   rw [Int.tdiv_eq_ediv_of_nonneg (by omega)]
   unfold wrap64
   omega
  have e2 : wrap64 (x + n / x) = x + n / x := by unfold wrap64; omega
  have e3 : wrap64 (Int.tdiv (x + n / x) 2) = (x + n / x) / 2 := by
   rw [Int.tdiv_eq_ediv_of_nonneg (by omega)]
   unfold wrap64
   omega
  rw [e1, e2, e3]
  generalize n / x = q at hq0 hq1 hq2 hq3
  by_cases hy : (x + q) / 2 ≥ x
  ·rw [if_pos hy]
   congr 1
   symm
   refine Plain.root_unique (by omega) (by omega) ?_ h3
   have : x * x ≤ x * q := Int.mul_le_mul_of_nonneg_left (by omega) (by omega)
   omega
  ·rw [if_neg hy]
   refine ih k _ ?_ (by omega) ?_ (by omega) (by omega)
   ·by_cases hx : x = 1
    ·subst hx
     omega
    ·omega
   ·have h6 : x + (q + 1) ≤ 2 * ((x + q) / 2 + 1) := by omega
    generalize (x + q) / 2 + 1 = y at h6
    have h7 := Plain.sq_le_sq (show (0 : Int) ≤ x + (q + 1) by omega) h6
    have h8 : 4 * (x * (q + 1)) ≤ (x + (q + 1)) * (x + (q + 1)) := by
     have h9 : (0 : Int) ≤ (x - (q + 1)) * (x - (q + 1)) := by
      rcases Int.le_total 0 (x - (q + 1)) with h | h
      ·exact Int.mul_nonneg h h
      ·exact Int.mul_nonneg_of_nonpos_of_nonpos h h
     generalize q + 1 = z at h9 ⊢
     have e4 : (x - z) * (x - z) = x * x - 2 * (x * z) + z * z := by
      rw [Int.sub_mul, Int.mul_sub, Int.mul_sub, Int.mul_comm z x]; omega
     have e5 : (x + z) * (x + z) = x * x + 2 * (x * z) + z * z := by
      rw [Int.add_mul, Int.mul_add, Int.mul_add, Int.mul_comm z x]; omega
     omega
    have e6 : 2 * y * (2 * y) = 4 * (y * y) := by
     rw [Int.mul_assoc, Int.mul_left_comm y 2 y, ← Int.mul_assoc]; rfl
    omega
theorem metric_clamp60 (n : Int) : metric_clamp_int.f n 0 1152921504606846976 = some (Plain.clamp60 n) := by
 unfold metric_clamp_int.f mx mn Plain.clamp60
 congr 1
 by_cases h : n < 0
 ·rw [if_pos h, if_neg (show ¬ (1152921504606846976 < n) by omega), if_neg (by omega)]
 ·rw [if_neg h]
  by_cases h2 : n > 1152921504606846976
  ·rw [if_pos h2, if_pos (by omega)]
  ·rw [if_neg h2]
   by_cases h3 : n = 0
   ·rw [h3]; rfl
   ·rw [if_pos (by omega)]
theorem metric_shl_pow (l : Nat) (h : l ≤ 31) : shl .i64 1 (l : Int) = ((2 ^ l : Nat) : Int) := by
 unfold shl
 rw [show min (l : Int).toNat IntKind.i64.bits = l by rw [show IntKind.i64.bits = 64 from rfl]; omega, Int.one_mul]
 have h1 : 2 ^ l ≤ 2 ^ 31 := Nat.pow_le_pow_right (by omega) h
 rw [IntKind.wrap_i64]
 have h2 : ((2 : Int) ^ l) = ((2 ^ l : Nat) : Int) := by push_cast; rfl
 rw [h2]
 generalize 2 ^ l = z at h1
 omega
theorem metric_Isqrt.start (m : Int) (l : Nat) (h0 : 1 ≤ m) (h1 : m ≤ 1152921504606846976) (hlt : m.toNat < 2 ^ l) (hle : l ≤ 61) : ∃ k, metric_Isqrt.l0 k m (shl .i64 1 (((l + 1) / 2 : Nat) : Int)) = some (Plain.root m) := by
 rw [metric_shl_pow _ (by omega)]
 have hp1 : 1 ≤ 2 ^ ((l + 1) / 2) := Nat.one_le_two_pow
 have hp2 : 2 ^ ((l + 1) / 2) ≤ 2 ^ 31 := Nat.pow_le_pow_right (by omega) (by omega)
 have hp3 : 2 ^ l ≤ 2 ^ ((l + 1) / 2) * 2 ^ ((l + 1) / 2) := by rw [← Nat.pow_add]; exact Nat.pow_le_pow_right (by omega) (by omega)
 have h3 : m.toNat < 2 ^ ((l + 1) / 2) * 2 ^ ((l + 1) / 2) := Nat.lt_of_lt_of_le hlt hp3
 clear hlt hp3
 generalize 2 ^ ((l + 1) / 2) = x at hp1 hp2 h3 ⊢
 refine ⟨x + 1, metric_Isqrt.loop m h0 h1 x (x + 1) x (by omega) (by omega) ?_ (by omega) (by omega)⟩
 have h4 : ((m.toNat : Nat) : Int) < ((x * x : Nat) : Int) := by omega
 rw [Int.natCast_mul] at h4
 have := Plain.sq_le_sq (a := (x : Int)) (b := (x : Int) + 1) (by omega) (by omega)
 omega
theorem bits_Len.is (m : Int) (h0 : 0 ≤ m) (h1 : m ≤ 1152921504606846976) : ∃ l : Nat, bits_Len.f m = some (l : Int) ∧ m.toNat < 2 ^ l ∧ l ≤ 61 :=
 ⟨Lib.bitLen m.toNat, if_pos ⟨h0, h1⟩, Plain.bitLen_lt m.toNat (by omega), Plain.bitLen_le m.toNat 60 (by omega)⟩
theorem metric_Isqrt.is (n : Int) : ∃ k, metric_Isqrt.f k n = some (Plain.root (Plain.clamp60 n)) := by
 obtain ⟨hm0, hm1⟩ := Plain.clamp60_range n
 have hc := metric_clamp60 n
 generalize Plain.clamp60 n = m at hm0 hm1 hc ⊢
 unfold metric_Isqrt.f
 by_cases h0 : m = 0
 ·refine ⟨0, Plain.bind_of hc ?_⟩
  rw [if_pos h0, h0]
  exact congrArg some (Plain.root_sq (x := 0) (by omega)).symm
 ·obtain ⟨l, hl, hlt, hle⟩ := bits_Len.is m hm0 hm1
  obtain ⟨k, hk⟩ := metric_Isqrt.start m l (by omega) hm1 hlt hle
  have hw : IntKind.u64.wrap m = m := by
   rw [IntKind.wrap_u64]
   omega
  have e1 : wrap64 ((l : Int) + 1) = ((l + 1 : Nat) : Int) := by unfold wrap64; omega
  have e2 : wrap64 (Int.tdiv ((l + 1 : Nat) : Int) 2) = (((l + 1) / 2 : Nat) : Int) := by
   rw [Int.tdiv_eq_ediv_of_nonneg (by omega)]
   unfold wrap64
   omega
  refine ⟨k, Plain.bind_of hc ?_⟩
  rw [if_neg h0, hw]
  refine Plain.bind_of hl ?_
  rw [e1, e2, if_pos (by omega)]
  exact hk
theorem metric_Isqrt.called (n : Int) (w : World) (h0 : 0 ≤ n) (h1 : n ≤ 1152921504606846976) :
  Calls Try.prog 83 #[.int .i64 n] w fun e w' => e = .returned (.int .i64 (Plain.root n)) ∧ ∃ k, w' = w.drewN k := by
 obtain ⟨k, hk⟩ := metric_Isqrt.is n
 rw [Plain.clamp60_in h0 h1] at hk
 exact (metric_Isqrt.calls k n _ w hk).mono fun e w' h => ⟨h.1, h.2.out⟩
theorem metric_side.calls (s : Int) (w : World) : Calls Try.prog 81 #[.int .i64 s] w fun e w' => e = .returned (.func (.func 82) #[] #[.pointer (some ⟨w.heap.size, 0, none⟩)]) ∧ w' = w.alloc (.cells #[.int .i64 s] 3) := by
 have hmf : ∀ (fn : Fn) (first cap : Array Value) (w : World), (Instr.makeFunc fn first cap).run Try.prog w = .ok (.func fn first cap) w := fun _ _ _ _ => rfl
 go_enter Try.func81, Try.ntmps81
 go_wp2
 go_ret
 exact ⟨rfl, rfl⟩
set_option maxHeartbeats 400000 in
theorem metric_side1.calls (s a b : Int) (ad : Addr) (w : World) (hc : w.cell? ad = some (.int .i64 s)) (hs0 : -1 ≤ s) (hs1 : s ≤ 1) (ha : 0 ≤ a) (ha' : a ≤ 134217728) (hb : 0 ≤ b) (hb' : b ≤ 134217728) :
  Calls Try.prog 82 #[.int .i64 a, .int .i64 b, .pointer (some ad)] w fun e w' => e = .returned (.int .i64 (a + b + s * Plain.root (4 * a * b))) ∧ Drawn0 w w' := by
 have hr0 := Plain.root_nonneg (4 * a * b)
 have hr1 := Plain.root4_le (a := a) (b := b) ⟨ha, ha'⟩ ⟨hb, hb'⟩
 have hab0 : 0 ≤ 4 * a * b := Int.mul_nonneg (by omega) hb
 have hab1 : 4 * a * b ≤ 72057594037927936 := by
  have := Int.mul_le_mul (a := 4 * a) (b := b) (c := 536870912) (d := 134217728) (by omega) hb' hb (by omega)
  omega
 have hm : -268435456 ≤ s * Plain.root (4 * a * b) ∧ s * Plain.root (4 * a * b) ≤ 268435456 := by
  rcases (show s = -1 ∨ s = 0 ∨ s = 1 by omega) with h | h | h <;> subst h <;> constructor <;> omega
 obtain ⟨hm0, hm1⟩ := hm
 have e1 : IntKind.i64.wrap (a + b) = a + b := IntWalk.i64_in _ (by omega)
 have e2 : IntKind.i64.wrap (4 * a) = 4 * a := IntWalk.i64_in _ (by omega)
 have e3 : IntKind.i64.wrap (4 * a * b) = 4 * a * b := IntWalk.i64_in _ (by omega)
 have e4 : IntKind.i64.wrap (s * Plain.root (4 * a * b)) = s * Plain.root (4 * a * b) := IntWalk.i64_in _ (by omega)
 have e5 : IntKind.i64.wrap (a + b + s * Plain.root (4 * a * b)) = a + b + s * Plain.root (4 * a * b) := IntWalk.i64_in _ (by omega)
 go_enter Try.func82, Try.ntmps82
 go_wp2
 go_quiet ((go_at_call 83; exact Calls.quiet_of (metric_Isqrt.called _ _ (by omega) (by omega))))
 go_wp2
 go_ret
 exact ⟨rfl, by repeat (first | exact Drawn0.refl _ | apply Drawn0.step)⟩
theorem metric_low_sum.calls (a b : Int) (w : World) (ha : 0 ≤ a) (ha' : a ≤ 134217728) (hb : 0 ≤ b) (hb' : b ≤ 134217728) :
  Calls Try.prog 84 #[.int .i64 a, .int .i64 b] w fun e w' => e = .returned (.int .i64 (mx a b - mn a b)) ∧ Drawn0 w w' := by
 obtain ⟨x, hx⟩ : ∃ x, mx a b = x := ⟨_, rfl⟩
 obtain ⟨y, hy⟩ : ∃ y, mn a b = y := ⟨_, rfl⟩
 have hx0 : 0 ≤ x ∧ x ≤ 134217728 := by rw [← hx]; unfold mx; omega
 have hy0 : 0 ≤ y ∧ y ≤ 134217728 := by rw [← hy]; unfold mn; omega
 obtain ⟨hx1, hx2⟩ := hx0
 obtain ⟨hy1, hy2⟩ := hy0
 rw [hx, hy]
 unfold mx at hx
 unfold mn at hy
 go_enter Try.func84, Try.ntmps84
 go_wp2
 go_ret
 exact ⟨rfl, Drawn0.refl _⟩
theorem metric_high_sum.calls (a b : Int) (w : World) (ha : 0 ≤ a) (ha' : a ≤ 134217728) (hb : 0 ≤ b) (hb' : b ≤ 134217728) :
  Calls Try.prog 85 #[.int .i64 a, .int .i64 b] w fun e w' => e = .returned (.int .i64 (a + b)) ∧ Drawn0 w w' := by
 go_enter Try.func85, Try.ntmps85
 go_wp2
 go_ret
 exact ⟨rfl, Drawn0.refl _⟩
/-- the two functions of a metric's rules, as values -/
def metric_isLow (m : Int) (v : Value) (w : World) : Prop := (m ≠ 2 ∧ v = .func (.func 84) #[] #[]) ∨ (m = 2 ∧ ∃ ad, v = .func (.func 82) #[] #[.pointer (some ad)] ∧ w.cell? ad = some (.int .i64 (-1)))
def metric_isHigh (m : Int) (v : Value) (w : World) : Prop := (m ≠ 2 ∧ v = .func (.func 85) #[] #[]) ∨ (m = 2 ∧ ∃ ad, v = .func (.func 82) #[] #[.pointer (some ad)] ∧ w.cell? ad = some (.int .i64 1))
theorem metric_sum.calls (w : World) : Calls Try.prog 76 #[] w fun e w' => e = .returned (.agg #[.func (.func 84) #[] #[], .func (.func 85) #[] #[]]) ∧ w' = w.alloc (.cells #[.func (.func 84) #[] #[], .func (.func 85) #[] #[]] 88) := by
 go_enter Try.func76, Try.ntmps76
 go_wp2
 exact bodyPost_ret (v := .agg #[.func (.func 84) #[] #[], .func (.func 85) #[] #[]]) (by simp [results, Try.results76, go_sem]) rfl ⟨rfl, rfl⟩
theorem metric_square.calls (w : World) : Calls Try.prog 75 #[] w fun e w' => e = .returned (.agg #[.func (.func 82) #[] #[.pointer (some ⟨w.heap.size + 1, 0, none⟩)], .func (.func 82) #[] #[.pointer (some ⟨w.heap.size + 1 + 1, 0, none⟩)]]) ∧
  w' = (((w.alloc (.cells #[.func (.func 82) #[] #[.pointer (some ⟨w.heap.size + 1, 0, none⟩)], .func (.func 82) #[] #[.pointer (some ⟨w.heap.size + 1 + 1, 0, none⟩)]] 88)).alloc (.cells #[.int .i64 (-1)] 3)).alloc (.cells #[.int .i64 1] 3)) := by
 go_enter Try.func75, Try.ntmps75
 go_wp2_with (go_at_call 81; refine (metric_side.calls _ _).mono ?_; rintro e w' ⟨rfl, rfl⟩)
 exact bodyPost_ret (v := .agg #[.func (.func 82) #[] #[.pointer (some ⟨w.heap.size + 1, 0, none⟩)], .func (.func 82) #[] #[.pointer (some ⟨w.heap.size + 1 + 1, 0, none⟩)]]) (by simp [results, Try.results75, go_sem]) rfl ⟨rfl, rfl⟩
/-- what of hands back -/
def metric_RulesPost (m : Int) (w : World) (e : Ending) (w' : World) : Prop := ∃ l h, e = .returned (.agg #[l, h]) ∧ metric_isLow m l w' ∧ metric_isHigh m h w' ∧ Below w.heap.size w w'
theorem metric_of.calls (m : Int) (w : World) : Calls Try.prog 69 #[.int .i64 m] w (metric_RulesPost m w) := by
 by_cases hm : m = 2
 ·have hm1 : (m == 2) = true := beq_iff_eq.mpr hm
  obtain rfl := hm
  go_enter Try.func69, Try.ntmps69
  go_wp2_with (go_at_call 75; refine (metric_square.calls _).mono ?_; rintro e w' ⟨rfl, rfl⟩)
  refine bodyPost_ret (v := .agg #[.func (.func 82) #[] #[.pointer (some ⟨w.heap.size + 1 + 1, 0, none⟩)], .func (.func 82) #[] #[.pointer (some ⟨w.heap.size + 1 + 1 + 1, 0, none⟩)]]) (by simp [results, Try.results69, go_sem]) rfl ⟨_, _, rfl, .inr ⟨rfl, _, rfl, by simp [go_sem]⟩, .inr ⟨rfl, _, rfl, by simp [go_sem]⟩, ?_⟩
  repeat (first | exact Below.refl _ _ | apply below_alloc)
 ·have hm1 : (m == 2) = false := beq_eq_false_iff_ne.mpr hm
  have Hm := Lib.hid hm
  clear hm
  go_enter Try.func69, Try.ntmps69
  go_wp2_with (go_at_call 76; refine (metric_sum.calls _).mono ?_; rintro e w' ⟨rfl, rfl⟩)
  refine bodyPost_ret (v := .agg #[.func (.func 84) #[] #[], .func (.func 85) #[] #[]]) (by simp [results, Try.results69, go_sem]) rfl ⟨_, _, rfl, .inl ⟨Hm.out, rfl⟩, .inl ⟨Hm.out, rfl⟩, ?_⟩
  repeat (first | exact Below.refl _ _ | apply below_alloc)
/-- the two functions, whichever the metric is -/
theorem metric_rules_cases {m : Int} {l h : Value} {w : World} (hl : metric_isLow m l w) (hh : metric_isHigh m h w) :
  (m ≠ 2 ∧ l = .func (.func 84) #[] #[] ∧ h = .func (.func 85) #[] #[]) ∨
  (m = 2 ∧ ∃ ad ad2, l = .func (.func 82) #[] #[.pointer (some ad)] ∧ h = .func (.func 82) #[] #[.pointer (some ad2)] ∧ w.cell? ad = some (.int .i64 (-1)) ∧ w.cell? ad2 = some (.int .i64 1)) := by
 rcases hl with ⟨h1, h2⟩ | ⟨h1, ad, h2, h3⟩
 ·rcases hh with ⟨_, h4⟩ | ⟨h4, _⟩
  ·exact .inl ⟨h1, h2, h4⟩
  ·exact absurd h4 h1
 ·rcases hh with ⟨h4, _⟩ | ⟨_, ad2, h4, h5⟩
  ·exact absurd h1 h4
  ·exact .inr ⟨h1, ad, ad2, h2, h4, h3, h5⟩
def metric_Low.f (a0 a1 a2 : Int) : Option Int := if Plain.isKey a1 ∧ Plain.isKey a2 then some (Plain.low a0 a1 a2) else none
theorem metric_Low.calls (a0 a1 a2 r : Int) (w : World) (h : metric_Low.f a0 a1 a2 = some r) :
  Calls Try.prog 51 #[.int .i64 a0, .int .i64 a1, .int .i64 a2] w fun e w' => e = .returned (.int .i64 r) ∧ Below w.heap.size w w' := by
 unfold metric_Low.f at h
 by_cases hk : Plain.isKey a1 ∧ Plain.isKey a2
 ·rw [if_pos hk] at h
  obtain rfl := Option.some.inj h
  clear h
  obtain ⟨⟨h10, h11⟩, ⟨h20, h21⟩⟩ := hk
  go_enter Try.func51, Try.ntmps51
  go_wp2_with fail
  refine (metric_of.calls _ _).mono ?_
  rintro e w1 ⟨l, h, rfl, hl, hh, hb⟩
  rcases metric_rules_cases hl hh with ⟨hm, rfl, rfl⟩ | ⟨rfl, ad, ad2, rfl, rfl, hc, hc2⟩
  ·have Hv : Hid (Plain.low a0 a1 a2 = mx a1 a2 - mn a1 a2) := by unfold Plain.low; rw [if_neg hm]; unfold mx mn; show _ = _; split <;> omega
   clear hm hl hh
   have hf : ∀ w, (Instr.field 88 (.agg #[.func (.func 84) #[] #[], .func (.func 85) #[] #[]]) 0).run Try.prog w = .ok (.func (.func 84) #[] #[]) w := fun _ => by kernel_rfl
   go_wp2_with fail
   refine (metric_low_sum.calls _ _ _ h10 h11 h20 h21).mono ?_
   rintro e w2 ⟨rfl, hd⟩
   go_wp2
   go_ret
   exact ⟨by rw [Hv.out]; rfl, below_step hb hd.below⟩
  ·clear hl hh hc2
   have hf : ∀ w, (Instr.field 88 (.agg #[.func (.func 82) #[] #[.pointer (some ad)], .func (.func 82) #[] #[.pointer (some ad2)]]) 0).run Try.prog w = .ok (.func (.func 82) #[] #[.pointer (some ad)]) w := fun _ => by kernel_rfl
   go_wp2_with fail
   refine (metric_side1.calls _ _ _ _ _ hc (by omega) (by omega) h10 h11 h20 h21).mono ?_
   rintro e w2 ⟨rfl, hd⟩
   go_wp2
   go_ret
   exact ⟨by unfold Plain.low; rw [if_pos rfl]; simp; omega, below_step hb hd.below⟩
 ·rw [if_neg hk] at h; cases h
def metric_High.f (a0 a1 a2 : Int) : Option Int := if Plain.isKey a1 ∧ Plain.isKey a2 then some (Plain.high a0 a1 a2) else none
theorem metric_High.calls (a0 a1 a2 r : Int) (w : World) (h : metric_High.f a0 a1 a2 = some r) :
  Calls Try.prog 52 #[.int .i64 a0, .int .i64 a1, .int .i64 a2] w fun e w' => e = .returned (.int .i64 r) ∧ Below w.heap.size w w' := by
 unfold metric_High.f at h
 by_cases hk : Plain.isKey a1 ∧ Plain.isKey a2
 ·rw [if_pos hk] at h
  obtain rfl := Option.some.inj h
  clear h
  obtain ⟨⟨h10, h11⟩, ⟨h20, h21⟩⟩ := hk
  go_enter Try.func52, Try.ntmps52
  go_wp2_with fail
  refine (metric_of.calls _ _).mono ?_
  rintro e w1 ⟨l, h, rfl, hl, hh, hb⟩
  rcases metric_rules_cases hl hh with ⟨hm, rfl, rfl⟩ | ⟨rfl, ad, ad2, rfl, rfl, hc, hc2⟩
  ·have Hv : Hid (Plain.high a0 a1 a2 = mn (a1 + a2) 134217728) := by unfold Plain.high; rw [if_neg hm]; unfold mn; exact rfl
   clear hm hl hh
   have hf : ∀ w, (Instr.field 88 (.agg #[.func (.func 84) #[] #[], .func (.func 85) #[] #[]]) 1).run Try.prog w = .ok (.func (.func 85) #[] #[]) w := fun _ => by kernel_rfl
   go_wp2_with fail
   refine (metric_high_sum.calls _ _ _ h10 h11 h20 h21).mono ?_
   rintro e w2 ⟨rfl, hd⟩
   obtain ⟨x, hx⟩ : ∃ x, mn (a1 + a2) 134217728 = x := ⟨_, rfl⟩
   rw [hx] at Hv
   unfold mn at hx
   go_wp2
   go_ret
   exact ⟨by rw [Hv.out]; rfl, below_step hb hd.below⟩
  ·clear hl hh hc
   have Hv : Hid (Plain.high 2 a1 a2 = mn (a1 + a2 + 1 * Plain.root (4 * a1 * a2)) 134217728) := by unfold Plain.high; rw [if_pos rfl]; unfold mn; rw [Int.one_mul]; exact rfl
   have hf : ∀ w, (Instr.field 88 (.agg #[.func (.func 82) #[] #[.pointer (some ad)], .func (.func 82) #[] #[.pointer (some ad2)]]) 1).run Try.prog w = .ok (.func (.func 82) #[] #[.pointer (some ad2)]) w := fun _ => by kernel_rfl
   go_wp2_with fail
   refine (metric_side1.calls _ _ _ _ _ hc2 (by omega) (by omega) h10 h11 h20 h21).mono ?_
   rintro e w2 ⟨rfl, hd⟩
   obtain ⟨y, hy⟩ : ∃ y, a1 + a2 + 1 * Plain.root (4 * a1 * a2) = y := ⟨_, rfl⟩
   obtain ⟨x, hx⟩ : ∃ x, mn y 134217728 = x := ⟨_, rfl⟩
   rw [hy] at Hv ⊢
   rw [hx] at Hv
   clear hy
   unfold mn at hx
   go_wp2
   go_ret
   exact ⟨by rw [Hv.out]; rfl, below_step hb hd.below⟩
 ·rw [if_neg hk] at h; cases h
def code_Bounds.f (a0 : Int) (a1 : Int) (a2 : Int) : Option (Int × Int) := (metric_Low.f a0 a1 a2).bind fun t145 => ((metric_High.f a0 a1 a2).bind fun t146 => (some (t145, t146)))
set_option maxHeartbeats 8000000 in
set_option maxRecDepth 100000 in
theorem code_Bounds.calls (a0 : Int) (a1 : Int) (a2 : Int) (r1 : Int) (r2 : Int) (w : World) (h : code_Bounds.f a0 a1 a2 = some (r1, r2)) :
  Calls Try.prog 23 #[.int .i64 a0, .int .i64 a1, .int .i64 a2] w fun e w' => e = .returned (.tuple #[.int .i64 r1, .int .i64 r2]) ∧ Below w.heap.size w w' := by
 have HB := Aside0.mk (Below.refl w.heap.size w)
 have H : ((metric_Low.f a0 a1 a2).bind fun t145 => ((metric_High.f a0 a1 a2).bind fun t146 => (some (t145, t146)))) = some (r1, r2) := h
 clear h
 replace H := Option.bind_eq_some_iff.mp H
 obtain ⟨t145, A40, H⟩ := H
 replace H : ((metric_High.f a0 a1 a2).bind fun t146 => (some (t145, t146))) = some (r1, r2) := H
 have A4 := Aside0.mk A40
 clear A40
 replace H := Option.bind_eq_some_iff.mp H
 obtain ⟨t146, A50, H⟩ := H
 replace H : (some (t145, t146)) = some (r1, r2) := H
 have A5 := Aside0.mk A50
 clear A50
 simp only [Option.some.injEq, Prod.mk.injEq] at H
 obtain ⟨rfl, rfl⟩ := H
 go_enter Try.func23, Try.ntmps23
 go_wp2_with (first | ((with_reducible refine gate_callee (f := 51) rfl ?_); refine goesL_ (some 11) rfl rfl Try.func51 (by kernel_rfl) rfl #[.int .i64 a0, .int .i64 a1, .int .i64 a2] rfl (by (try simp only [List.map_toArray, List.map_cons, List.map_nil]); first | done | rfl | (simp only [List.length_drop, List.length_take]; rfl)) ?_; (with_reducible refine (metric_Low.calls a0 a1 a2 t145 _ A4.out).mono ?_); rintro e w6 ⟨rfl, hb⟩; refine ⟨_, rfl, ?_⟩; have n0_ := Aside0.mk (below_step (by repeat (first | (with_reducible first | exact HB.out | apply below_alloc | apply pw_below_drewN | apply below_drew1) | exact HB.out)) hb); clear HB; have HB := n0_; clear n0_; (try clear hb); (try clear hb2); (try clear hk); (try clear hi)) | ((with_reducible refine gate_callee (f := 52) rfl ?_); refine goesL_ (some 15) rfl rfl Try.func52 (by kernel_rfl) rfl #[.int .i64 a0, .int .i64 a1, .int .i64 a2] rfl (by (try simp only [List.map_toArray, List.map_cons, List.map_nil]); first | done | rfl | (simp only [List.length_drop, List.length_take]; rfl)) ?_; (with_reducible refine (metric_High.calls a0 a1 a2 t146 _ A5.out).mono ?_); rintro e w7 ⟨rfl, hb⟩; refine ⟨_, rfl, ?_⟩; have n0_ := Aside0.mk (below_step (by repeat (first | (with_reducible first | exact HB.out | apply below_alloc | apply pw_below_drewN | apply below_drew1) | exact HB.out)) hb); clear HB; have HB := n0_; clear n0_; (try clear hb); (try clear hb2); (try clear hk); (try clear hi)))
 go_ret2
 exact ⟨by first | rfl | (simp [errW_none, errW_some] <;> rfl) | (simp [*, errW_none, errW_some] <;> rfl), by repeat (first | (with_reducible first | exact HB.out | apply below_alloc | apply pw_below_drewN | apply below_drew1) | exact HB.out)⟩
end Go.Proofs.Ytgpdfalopdhjlaa.Q
end
