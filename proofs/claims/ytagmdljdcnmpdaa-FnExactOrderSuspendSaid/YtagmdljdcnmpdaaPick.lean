import Derived.Test.YtagmdljdcnmpdaaHeap
set_option linter.unusedVariables false
set_option linter.unusedSimpArgs false
namespace Go.Proofs.Ytagmdljdcnmpdaa
open Go Go.RowKit

/-! the reader of a code -/
theorem xor_i64 (a b : Nat) (ha : a < 1099511627776) (hb : b < 1099511627776) : 0 ≤ bits .xor .i64 (a : Int) (b : Int) := by
  have hx : a ^^^ b < 2 ^ 40 := Nat.xor_lt_two_pow (by omega) (by omega)
  have h1 : (BitVec.ofInt 64 (a : Int)).toNat = a := by
    rw [BitVec.ofInt_natCast, BitVec.toNat_ofNat]; exact Nat.mod_eq_of_lt (by omega)
  have h2 : (BitVec.ofInt 64 (b : Int)).toNat = b := by
    rw [BitVec.ofInt_natCast, BitVec.toNat_ofNat]; exact Nat.mod_eq_of_lt (by omega)
  show 0 ≤ IntKind.i64.wrap ((BitVec.ofInt 64 (a : Int) ^^^ BitVec.ofInt 64 (b : Int)).toNat : Int)
  rw [BitVec.toNat_xor, h1, h2]
  have e : IntKind.i64.wrap ((a ^^^ b : Nat) : Int) = wrap64 ((a ^^^ b : Nat) : Int) := by
    simp [IntKind.wrap, wrap64, IntKind.bits, IntKind.signed]; omega
  rw [e]; unfold wrap64; omega
theorem xor_tmod (x n : Int) (h0 : 0 ≤ x) (h1 : x ≤ 1000000000) (hn : 1 ≤ n) : 0 ≤ (bits .xor .i64 x (x / 64)).tmod n ∧ (bits .xor .i64 x (x / 64)).tmod n < n := by
  obtain ⟨a, rfl⟩ := Int.eq_ofNat_of_zero_le h0
  have h := xor_i64 a (a / 64) (by omega) (by omega)
  have e : ((a / 64 : Nat) : Int) = (a : Int) / 64 := by omega
  rw [e] at h
  exact ⟨Int.tmod_nonneg _ h, Int.tmod_lt_of_pos _ (by omega)⟩
structure RdEnv where
  A : Option Addr
  c : Nat
  bytes : List Int
  B : Nat
  w0 : World
  g : Nat
structure RdEnv.Good (R : RdEnv) : Prop where
  row : RowAt (fun b : Int => Value.int .u8 b) R.B R.w0 R.A R.bytes
  len : R.bytes.length ≤ 2000
  le : R.bytes.length ≤ R.c
  cap : R.c ≤ maxLen
  byte : ∀ b ∈ R.bytes, 0 ≤ b ∧ b ≤ 255
  hg : R.B ≤ R.g
structure RdAt (R : RdEnv) (p : Nat) (w : World) : Prop where
  blk : w.heap[R.g]? = some (.cells #[.slice R.A R.bytes.length R.c, .int .i64 p] 101 (0, 0))
  below : Below R.B R.w0 w
  size : R.B ≤ w.heap.size
def Picks (R : RdEnv) (p : Nat) (n : Int) (w : World) (e : Ending) (w' : World) : Prop :=
  ∃ v : Int, e = .returned (.int .i64 v) ∧ 0 ≤ v ∧ (v < n ∨ v = 0) ∧ RdAt R (p + 1) w' ∧ Turn (· = R.g) (· = R.g) w w'

theorem RdAt.step {R : RdEnv} {p : Nat} {w : World} (h : RdAt R p w) (hg : R.B ≤ R.g) : RdAt R (p + 1) (w.setCell ⟨R.g, 1, none⟩ (.int .i64 (p + 1 : Nat))) ∧ Turn (· = R.g) (· = R.g) w (w.setCell ⟨R.g, 1, none⟩ (.int .i64 (p + 1 : Nat))) := by
  have t := setCell_turn (F := (· = R.g)) (w := w) (a := ⟨R.g, 1, none⟩) rfl (.int .i64 (p + 1 : Nat))
  exact ⟨⟨(setCell_block h.blk 1 _).trans rfl, h.below.trans (t.below h.size (fun i hi => by cases hi; exact hg)), Nat.le_trans h.size t.size⟩, t⟩
theorem RdAt.drewN {R : RdEnv} {p : Nat} {w : World} (h : RdAt R p w) (n : Nat) : RdAt R p (w.drewN n) := ⟨h.blk, ⟨h.below.os, h.below.tape, h.below.output, h.below.size, h.below.block⟩, h.size⟩

set_option maxHeartbeats 1000000 in
theorem pick_zero (R : RdEnv) (hR : R.Good) (p : Nat) (hp : p ≤ 1000000) (n : Int) (w : World) (h : RdAt R p w) (hn : n < 1 ∨ R.bytes = []) :
    Calls Try.prog 39 #[.pointer (some ⟨R.g, 0, none⟩), .int .i64 n] w (Picks R p n w) := by
  have x1 : w.cell? ⟨R.g, 1, none⟩ = some (.int .i64 p) := (cellm h.blk 1).trans rfl
  have f1 : w.frozen? ⟨R.g, 1, none⟩ = false := frozenm h.blk 1
  have hs := h.step hR.hg
  have y0 : (w.setCell ⟨R.g, 1, none⟩ (.int .i64 (p + 1 : Nat))).cell? ⟨R.g, 0, none⟩ = some (.slice R.A R.bytes.length R.c) := (cellm hs.1.blk 0).trans rfl
  have e1 : ((p + 1 : Nat) : Int) = (p : Int) + 1 := by omega
  rw [e1] at y0
  simp only [e1] at hs
  by_cases h1 : n < 1
  · replace hs := Lib.hid hs
    replace e1 := Lib.hid e1
    clear h hR hn y0
    go_enter Try.func39, Try.ntmps39
    go_wp2_with fail
    go_ret
    exact ⟨0, rfl, by omega, .inr rfl, hs.out.1, hs.out.2⟩
  · have hb : R.bytes = [] := hn.resolve_left h1
    have hb' : ((R.bytes.length : Nat) : Int) = 0 := by rw [hb]; rfl
    replace hs := Lib.hid hs
    replace e1 := Lib.hid e1
    replace hb := Lib.hid hb
    clear h hR hn
    go_enter Try.func39, Try.ntmps39
    go_wp2_with fail
    go_ret
    exact ⟨0, rfl, by omega, .inr rfl, hs.out.1, hs.out.2⟩

set_option maxHeartbeats 1000000 in
theorem pick_some (R : RdEnv) (hR : R.Good) (p : Nat) (hp : p ≤ 1000000) (n : Int) (w : World) (h : RdAt R p w) (hn : 1 ≤ n) (hb : R.bytes ≠ []) :
    Calls Try.prog 39 #[.pointer (some ⟨R.g, 0, none⟩), .int .i64 n] w (Picks R p n w) := by
  have x1 : w.cell? ⟨R.g, 1, none⟩ = some (.int .i64 p) := (cellm h.blk 1).trans rfl
  have f1 : w.frozen? ⟨R.g, 1, none⟩ = false := frozenm h.blk 1
  have hs := h.step hR.hg
  have hlen := hR.len
  have hpos : 0 < R.bytes.length := by
    cases hb2 : R.bytes with
    | nil => exact absurd hb2 hb
    | cons x l => simp
  have hb' : (((R.bytes.length : Nat) : Int) == 0) = false := by simp; omega
  have e1 : ((p + 1 : Nat) : Int) = (p : Int) + 1 := by omega
  simp only [e1] at hs
  obtain ⟨w1, hw1⟩ : ∃ w1, w.setCell ⟨R.g, 1, none⟩ (.int .i64 ((p : Int) + 1)) = w1 := ⟨_, rfl⟩
  rw [hw1] at hs
  have y0 : w1.cell? ⟨R.g, 0, none⟩ = some (.slice R.A R.bytes.length R.c) := (cellm hs.1.blk 0).trans rfl
  have y1 : w1.cell? ⟨R.g, 1, none⟩ = some (.int .i64 ((p : Int) + 1)) := by have := (cellm hs.1.blk 1).trans rfl; rw [e1] at this; exact this
  have hcell := fun (w2 : World) (hb2 : Below R.B R.w0 w2) (hB2 : R.B ≤ w2.heap.size) (i : Nat) (hi : i < R.bytes.length) => hR.row.at hb2 hB2 i hi
  by_cases hlt : p < R.bytes.length
  · obtain ⟨b, o, e2, hbl, hc⟩ := hcell w1 hs.1.below hs.1.size p hlt
    have hby := hR.byte _ (List.getElem_mem hlt)
    generalize hx : R.bytes[p] = x at *
    replace hs := Lib.hid hs
    replace e1 := Lib.hid e1
    replace hx := Lib.hid hx
    replace hcell := Lib.hid hcell
    clear h hR hb
    go_enter Try.func39, Try.ntmps39
    go_wp2_with fail
    go_ret
    exact ⟨_, rfl, Int.emod_nonneg _ (by omega), .inl (Int.emod_lt_of_pos _ (by omega)), hs.out.1, hs.out.2⟩
  · have hL0 : (0 : Int) < (R.bytes.length : Int) := by omega
    have hi1 : p % R.bytes.length < R.bytes.length := Nat.mod_lt _ hpos
    have hi2 : (p * 7 + 3) % R.bytes.length < R.bytes.length := Nat.mod_lt _ hpos
    obtain ⟨b, o, e2, hbl, hc1⟩ := hcell w1 hs.1.below hs.1.size _ hi1
    obtain ⟨b', o', e3, _, hc2⟩ := hcell w1 hs.1.below hs.1.size _ hi2
    rw [e2] at e3
    cases e3
    have hby1 := hR.byte _ (List.getElem_mem hi1)
    have hby2 := hR.byte _ (List.getElem_mem hi2)
    generalize hx : R.bytes[p % R.bytes.length] = x at *
    generalize hy : R.bytes[(p * 7 + 3) % R.bytes.length] = y at *
    have j1 : 0 ≤ (p : Int) % (R.bytes.length : Int) := Int.emod_nonneg _ (by omega)
    have j2 : (p : Int) % (R.bytes.length : Int) < (R.bytes.length : Int) := Int.emod_lt_of_pos _ hL0
    have j3 : 0 ≤ ((p : Int) * 7 + 3) % (R.bytes.length : Int) := Int.emod_nonneg _ (by omega)
    have j4 : ((p : Int) * 7 + 3) % (R.bytes.length : Int) < (R.bytes.length : Int) := Int.emod_lt_of_pos _ hL0
    have j5 : 0 ≤ (p : Int) / (R.bytes.length : Int) := Int.ediv_nonneg (by omega) (by omega)
    have j6 : (p : Int) / (R.bytes.length : Int) ≤ (p : Int) := Int.ediv_le_self _ (by omega)
    replace hs := Lib.hid hs
    replace e1 := Lib.hid e1
    replace hx := Lib.hid hx
    replace hy := Lib.hid hy
    replace hcell := Lib.hid hcell
    clear h hR hb
    go_enter Try.func39, Try.ntmps39
    go_wp2_with fail
    go_quiet (fail)
    go_wp2_with fail
    go_ret
    have hj7 : (p : Int) / (R.bytes.length : Int) * 53 ≤ 53000000 := by omega
    have hx := xor_tmod (x * 131 + y * 1117 + (p : Int) * 29 + (p : Int) / (R.bytes.length : Int) * 53) n (by omega) (by omega) hn
    exact ⟨_, rfl, hx.1, .inl hx.2, hs.out.1.drewN _, hs.out.2.drewN _⟩

theorem pick_calls (R : RdEnv) (hR : R.Good) (p : Nat) (hp : p ≤ 1000000) (n : Int) (w : World) (h : RdAt R p w) :
    Calls Try.prog 39 #[.pointer (some ⟨R.g, 0, none⟩), .int .i64 n] w (Picks R p n w) := by
  by_cases hn : 1 ≤ n
  · by_cases hb : R.bytes = []
    · exact pick_zero R hR p hp n w h (.inr hb)
    · exact pick_some R hR p hp n w h hn hb
  · exact pick_zero R hR p hp n w h (.inl (by omega))
end Go.Proofs.Ytagmdljdcnmpdaa
