import Derived.Test.YtagmdljdcnmpdaaTree
set_option linter.unusedVariables false
set_option linter.unusedSimpArgs false
namespace Go.Proofs.Ytagmdljdcnmpdaa
open Go Go.RowKit

set_option maxHeartbeats 2000000 in
theorem toIntS_calls (A : Option Addr) (c : Nat) (xs : List Int) (B : Nat) (w0 w : World) (hb : Below B w0 w) (hB : B ≤ w.heap.size) (hl : xs.length ≤ 1048576) (hx : IntsAt B w0 A xs) :
    Calls Try.prog 28 #[.slice A xs.length c] w fun e w' => e = .returned (.slice (some ⟨w.heap.size, 0, none⟩) xs.length xs.length) ∧ RowBlk (fun n : Int => Value.int .i64 n) 3 w' w.heap.size xs ∧ Below w.heap.size w w' := by
  have hmk := make_ints xs.length (by omega)
  replace hb := Lib.hid hb
  replace hx := Lib.hid hx
  go_enter Try.func28, Try.ntmps28
  go_wp2_with fail
  go_loopw [4] (fun i wr => ∃ (j : Nat), j ≤ xs.length ∧ i = .int .i64 j ∧ Hid (RowBlk (fun n : Int => Value.int .i64 n) 3 wr w.heap.size (xs.take j ++ List.replicate (xs.length - j) 0)) ∧ Hid (Below w.heap.size w wr)) (fun i _ => xs.length - (intOf i).toNat)
  case atStart => exact ⟨0, Nat.zero_le _, rfl, Lib.hid (made_blk (z := (0 : Int)) (heap_new rfl)), Lib.hid (below_al (Below.refl _ _) _)⟩
  case round =>
    obtain ⟨j, hj, rfl, hR, hw⟩ := hrel
    have hz := hR.out.lt
    by_cases hlt : j < xs.length
    · obtain ⟨b, o, rfl, hbl, y⟩ := hx.out.at (below_up' hb.out hB hw.out) (Nat.le_trans hB hw.out.size) j hlt
      have f0 := hR.out.frozen j
      have c0 := hR.out.cell (i := j) (by simp; omega)
      have hset := hR.out.set j xs[j]
      have e : (xs.take j ++ List.replicate (xs.length - j) 0).set j xs[j] = xs.take (j + 1) ++ List.replicate (xs.length - (j + 1)) 0 := by
        rw [List.set_append_right _ _ (by simp; omega), List.take_succ_eq_append_getElem hlt]
        rw [show xs.length - j = (xs.length - (j + 1)) + 1 by omega, List.replicate_succ]
        rw [show j - (xs.take j).length = 0 by simp; omega, List.set_cons_zero, List.append_assoc]; rfl
      rw [e] at hset
      have hw2 : Below w.heap.size w (wr.setCell ⟨w.heap.size, j, none⟩ ((fun n : Int => Value.int .i64 n) xs[j])) := hw.out.setCell (by simp) _
      replace hset := Lib.hid hset
      replace hw2 := Lib.hid hw2
      replace e := Lib.hid e
      go_wp2_with fail
      go_roundw
      case rel => exact ⟨j + 1, by omega, by go_num, hset, hw2⟩
      case measure => simp [intOf]; omega
    · have ej : j = xs.length := by omega
      subst ej
      have hR2 := hR.out
      rw [List.take_length, Nat.sub_self, List.replicate_zero, List.append_nil] at hR2
      replace hR2 := Lib.hid hR2
      go_wp2_with fail
      go_ret
      exact ⟨rfl, hR2.out, hw.out⟩

set_option maxHeartbeats 2000000 in
theorem toBoolS_calls (A : Option Addr) (c : Nat) (xs : List Bool) (B : Nat) (w0 w : World) (hb : Below B w0 w) (hB : B ≤ w.heap.size) (hl : xs.length ≤ 1048576) (hx : BoolsAt B w0 A xs) :
    Calls Try.prog 60 #[.slice A xs.length c] w fun e w' => e = .returned (.slice (some ⟨w.heap.size, 0, none⟩) xs.length xs.length) ∧ RowBlk (fun b : Bool => Value.bool b) 4 w' w.heap.size xs ∧ Below w.heap.size w w' := by
  have hmk := make_bools xs.length (by omega)
  replace hb := Lib.hid hb
  replace hx := Lib.hid hx
  go_enter Try.func60, Try.ntmps60
  go_wp2_with fail
  go_loopw [4] (fun i wr => ∃ (j : Nat), j ≤ xs.length ∧ i = .int .i64 j ∧ Hid (RowBlk (fun b : Bool => Value.bool b) 4 wr w.heap.size (xs.take j ++ List.replicate (xs.length - j) false)) ∧ Hid (Below w.heap.size w wr)) (fun i _ => xs.length - (intOf i).toNat)
  case atStart => exact ⟨0, Nat.zero_le _, rfl, Lib.hid (made_blk (z := (false : Bool)) (heap_new rfl)), Lib.hid (below_al (Below.refl _ _) _)⟩
  case round =>
    obtain ⟨j, hj, rfl, hR, hw⟩ := hrel
    have hz := hR.out.lt
    by_cases hlt : j < xs.length
    · obtain ⟨b, o, rfl, hbl, y⟩ := hx.out.at (below_up' hb.out hB hw.out) (Nat.le_trans hB hw.out.size) j hlt
      have f0 := hR.out.frozen j
      have c0 := hR.out.cell (i := j) (by simp; omega)
      have hset := hR.out.set j xs[j]
      have e : (xs.take j ++ List.replicate (xs.length - j) false).set j xs[j] = xs.take (j + 1) ++ List.replicate (xs.length - (j + 1)) false := by
        rw [List.set_append_right _ _ (by simp; omega), List.take_succ_eq_append_getElem hlt]
        rw [show xs.length - j = (xs.length - (j + 1)) + 1 by omega, List.replicate_succ]
        rw [show j - (xs.take j).length = 0 by simp; omega, List.set_cons_zero, List.append_assoc]; rfl
      rw [e] at hset
      have hw2 : Below w.heap.size w (wr.setCell ⟨w.heap.size, j, none⟩ ((fun b : Bool => Value.bool b) xs[j])) := hw.out.setCell (by simp) _
      replace hset := Lib.hid hset
      replace hw2 := Lib.hid hw2
      replace e := Lib.hid e
      go_wp2_with fail
      go_roundw
      case rel => exact ⟨j + 1, by omega, by go_num, hset, hw2⟩
      case measure => simp [intOf]; omega
    · have ej : j = xs.length := by omega
      subst ej
      have hR2 := hR.out
      rw [List.take_length, Nat.sub_self, List.replicate_zero, List.append_nil] at hR2
      replace hR2 := Lib.hid hR2
      go_wp2_with fail
      go_ret
      exact ⟨rfl, hR2.out, hw.out⟩
end Go.Proofs.Ytagmdljdcnmpdaa
