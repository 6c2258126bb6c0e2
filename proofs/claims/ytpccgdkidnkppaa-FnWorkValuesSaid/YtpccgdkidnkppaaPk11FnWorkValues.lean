import Derived.Test.YtpccgdkidnkppaaPk2FnWorkValues
import Derived.Test.YtpccgdkidnkppaaPk3FnWorkValues
import Derived.Test.YtpccgdkidnkppaaPk4FnWorkValues
set_option linter.unusedVariables false
set_option linter.unusedSimpArgs false
namespace Go.Proofs.Ytpccgdkidnkppaa
open Go Go.RowKit

/-! the reader of a code -/
theorem xor_i64 (a b : Nat) (ha : a < 1099511627776) (hb : b < 1099511627776) : 0 ≤ bits .xor .i64 (a : Int) (b : Int) := by
  have hx : a ^^^ b < 2 ^ 40 := Nat.xor_lt_two_pow (by omega) (by omega)
  have h1 : (BitVec.ofInt 64 (a : Int)).toNat = a := by
    rw [BitVec.ofInt_natCast, BitVec.toNat_ofNat]; exact Nat.mod_eq_of_lt (by omega)
  have h2 : (BitVec.ofInt 64 (b : Int)).toNat = b := by
    rw [BitVec.ofInt_natCast, BitVec.toNat_ofNat]; exact Nat.mod_eq_of_lt (by omega)
  show 0 ≤ IntKind.i64.wrap ((BitVec.ofInt 64 (a : Int) ^^^ BitVec.ofInt 64 (b : Int)).toNat : Int)
  rw [BitVec.toNat_xor, h1, h2]
  have e : IntKind.i64.wrap ((a ^^^ b : Nat) : Int) = wrap64 ((a ^^^ b : Nat) : Int) := by
    simp [IntKind.wrap, wrap64, IntKind.bits, IntKind.signed]; omega
  rw [e]; unfold wrap64; omega
theorem xor_tmod (x n : Int) (h0 : 0 ≤ x) (h1 : x ≤ 1000000000) (hn : 1 ≤ n) : 0 ≤ (bits .xor .i64 x (x / 64)).tmod n ∧ (bits .xor .i64 x (x / 64)).tmod n < n := by
  obtain ⟨a, rfl⟩ := Int.eq_ofNat_of_zero_le h0
  have h := xor_i64 a (a / 64) (by omega) (by omega)
  have e : ((a / 64 : Nat) : Int) = (a : Int) / 64 := by omega
  rw [e] at h
  exact ⟨Int.tmod_nonneg _ h, Int.tmod_lt_of_pos _ (by omega)⟩
structure RdEnv where
  A : Option Addr
  c : Nat
  bytes : List Int
  B : Nat
  w0 : World
  g : Nat
structure RdEnv.Good (R : RdEnv) : Prop where
  row : RowAt (fun b : Int => Value.int .u8 b) R.B R.w0 R.A R.bytes
  len : R.bytes.length ≤ 2000
  le : R.bytes.length ≤ R.c
  cap : R.c ≤ maxLen
  byte : ∀ b ∈ R.bytes, 0 ≤ b ∧ b ≤ 255
  hg : R.B ≤ R.g
structure RdAt (R : RdEnv) (p : Nat) (w : World) : Prop where
  blk : w.heap[R.g]? = some (.cells #[.slice R.A R.bytes.length R.c, .int .i64 p] 142 (0, 0))
  below : Below R.B R.w0 w
  size : R.B ≤ w.heap.size
def Picks (R : RdEnv) (p : Nat) (n : Int) (w : World) (e : Ending) (w' : World) : Prop :=
  ∃ v : Int, e = .returned (.int .i64 v) ∧ 0 ≤ v ∧ (v < n ∨ v = 0) ∧ RdAt R (p + 1) w' ∧ Turn (· = R.g) (· = R.g) w w'

theorem RdAt.step {R : RdEnv} {p : Nat} {w : World} (h : RdAt R p w) (hg : R.B ≤ R.g) : RdAt R (p + 1) (w.setCell ⟨R.g, 1, none⟩ (.int .i64 (p + 1 : Nat))) ∧ Turn (· = R.g) (· = R.g) w (w.setCell ⟨R.g, 1, none⟩ (.int .i64 (p + 1 : Nat))) := by
  have t := setCell_turn (F := (· = R.g)) (w := w) (a := ⟨R.g, 1, none⟩) rfl (.int .i64 (p + 1 : Nat))
  exact ⟨⟨(setCell_block h.blk 1 _).trans rfl, h.below.trans (t.below h.size (fun i hi => by cases hi; exact hg)), Nat.le_trans h.size t.size⟩, t⟩
theorem RdAt.drewN {R : RdEnv} {p : Nat} {w : World} (h : RdAt R p w) (n : Nat) : RdAt R p (w.drewN n) := ⟨h.blk, ⟨h.below.os, h.below.tape, h.below.output, h.below.size, h.below.block⟩, h.size⟩

set_option maxHeartbeats 1000000 in
theorem pick_zero (R : RdEnv) (hR : R.Good) (p : Nat) (hp : p ≤ 1000000) (n : Int) (w : World) (h : RdAt R p w) (hn : n < 1 ∨ R.bytes = []) :
    Calls Try.prog 70 #[.pointer (some ⟨R.g, 0, none⟩), .int .i64 n] w (Picks R p n w) := by
  have x1 : w.cell? ⟨R.g, 1, none⟩ = some (.int .i64 p) := (cellm h.blk 1).trans rfl
  have f1 : w.frozen? ⟨R.g, 1, none⟩ = false := frozenm h.blk 1
  have hs := h.step hR.hg
  have y0 : (w.setCell ⟨R.g, 1, none⟩ (.int .i64 (p + 1 : Nat))).cell? ⟨R.g, 0, none⟩ = some (.slice R.A R.bytes.length R.c) := (cellm hs.1.blk 0).trans rfl
  have e1 : ((p + 1 : Nat) : Int) = (p : Int) + 1 := by omega
  rw [e1] at y0
  simp only [e1] at hs
  by_cases h1 : n < 1
  · replace hs := Lib.hid hs
    replace e1 := Lib.hid e1
    clear h hR hn y0
    go_enter Try.func70, Try.ntmps70
    go_wp2_with fail
    go_ret
    exact ⟨0, rfl, by omega, .inr rfl, hs.out.1, hs.out.2⟩
  · have hb : R.bytes = [] := hn.resolve_left h1
    have hb' : ((R.bytes.length : Nat) : Int) = 0 := by rw [hb]; rfl
    replace hs := Lib.hid hs
    replace e1 := Lib.hid e1
    replace hb := Lib.hid hb
    clear h hR hn
    go_enter Try.func70, Try.ntmps70
    go_wp2_with fail
    go_ret
    exact ⟨0, rfl, by omega, .inr rfl, hs.out.1, hs.out.2⟩

set_option maxHeartbeats 1000000 in
theorem pick_some (R : RdEnv) (hR : R.Good) (p : Nat) (hp : p ≤ 1000000) (n : Int) (w : World) (h : RdAt R p w) (hn : 1 ≤ n) (hb : R.bytes ≠ []) :
    Calls Try.prog 70 #[.pointer (some ⟨R.g, 0, none⟩), .int .i64 n] w (Picks R p n w) := by
  have x1 : w.cell? ⟨R.g, 1, none⟩ = some (.int .i64 p) := (cellm h.blk 1).trans rfl
  have f1 : w.frozen? ⟨R.g, 1, none⟩ = false := frozenm h.blk 1
  have hs := h.step hR.hg
  have hlen := hR.len
  have hpos : 0 < R.bytes.length := by
    cases hb2 : R.bytes with
    | nil => exact absurd hb2 hb
    | cons x l => simp
  have hb' : (((R.bytes.length : Nat) : Int) == 0) = false := by simp; omega
  have e1 : ((p + 1 : Nat) : Int) = (p : Int) + 1 := by omega
  simp only [e1] at hs
  obtain ⟨w1, hw1⟩ : ∃ w1, w.setCell ⟨R.g, 1, none⟩ (.int .i64 ((p : Int) + 1)) = w1 := ⟨_, rfl⟩
  rw [hw1] at hs
  have y0 : w1.cell? ⟨R.g, 0, none⟩ = some (.slice R.A R.bytes.length R.c) := (cellm hs.1.blk 0).trans rfl
  have y1 : w1.cell? ⟨R.g, 1, none⟩ = some (.int .i64 ((p : Int) + 1)) := by have := (cellm hs.1.blk 1).trans rfl; rw [e1] at this; exact this
  have hcell := fun (w2 : World) (hb2 : Below R.B R.w0 w2) (hB2 : R.B ≤ w2.heap.size) (i : Nat) (hi : i < R.bytes.length) => hR.row.at hb2 hB2 i hi
  by_cases hlt : p < R.bytes.length
  · obtain ⟨b, o, e2, hbl, hc⟩ := hcell w1 hs.1.below hs.1.size p hlt
    have hby := hR.byte _ (List.getElem_mem hlt)
    generalize hx : R.bytes[p] = x at *
    replace hs := Lib.hid hs
    replace e1 := Lib.hid e1
    replace hx := Lib.hid hx
    replace hcell := Lib.hid hcell
    clear h hR hb
    go_enter Try.func70, Try.ntmps70
    go_wp2_with fail
    go_ret
    exact ⟨_, rfl, Int.emod_nonneg _ (by omega), .inl (Int.emod_lt_of_pos _ (by omega)), hs.out.1, hs.out.2⟩
  · have hL0 : (0 : Int) < (R.bytes.length : Int) := by omega
    have hi1 : p % R.bytes.length < R.bytes.length := Nat.mod_lt _ hpos
    have hi2 : (p * 7 + 3) % R.bytes.length < R.bytes.length := Nat.mod_lt _ hpos
    obtain ⟨b, o, e2, hbl, hc1⟩ := hcell w1 hs.1.below hs.1.size _ hi1
    obtain ⟨b', o', e3, _, hc2⟩ := hcell w1 hs.1.below hs.1.size _ hi2
    rw [e2] at e3
    cases e3
    have hby1 := hR.byte _ (List.getElem_mem hi1)
    have hby2 := hR.byte _ (List.getElem_mem hi2)
    generalize hx : R.bytes[p % R.bytes.length] = x at *
    generalize hy : R.bytes[(p * 7 + 3) % R.bytes.length] = y at *
    have j1 : 0 ≤ (p : Int) % (R.bytes.length : Int) := Int.emod_nonneg _ (by omega)
    have j2 : (p : Int) % (R.bytes.length : Int) < (R.bytes.length : Int) := Int.emod_lt_of_pos _ hL0
    have j3 : 0 ≤ ((p : Int) * 7 + 3) % (R.bytes.length : Int) := Int.emod_nonneg _ (by omega)
    have j4 : ((p : Int) * 7 + 3) % (R.bytes.length : Int) < (R.bytes.length : Int) := Int.emod_lt_of_pos _ hL0
    have j5 : 0 ≤ (p : Int) / (R.bytes.length : Int) := Int.ediv_nonneg (by omega) (by omega)
    have j6 : (p : Int) / (R.bytes.length : Int) ≤ (p : Int) := Int.ediv_le_self _ (by omega)
    replace hs := Lib.hid hs
    replace e1 := Lib.hid e1
    replace hx := Lib.hid hx
    replace hy := Lib.hid hy
    replace hcell := Lib.hid hcell
    clear h hR hb
    go_enter Try.func70, Try.ntmps70
    go_wp2_with fail
    go_quiet (fail)
    go_wp2_with fail
    go_ret
    have hj7 : (p : Int) / (R.bytes.length : Int) * 53 ≤ 53000000 := by omega
    have hx := xor_tmod (x * 131 + y * 1117 + (p : Int) * 29 + (p : Int) / (R.bytes.length : Int) * 53) n (by omega) (by omega) hn
    exact ⟨_, rfl, hx.1, .inl hx.2, hs.out.1.drewN _, hs.out.2.drewN _⟩

theorem pick_calls (R : RdEnv) (hR : R.Good) (p : Nat) (hp : p ≤ 1000000) (n : Int) (w : World) (h : RdAt R p w) :
    Calls Try.prog 70 #[.pointer (some ⟨R.g, 0, none⟩), .int .i64 n] w (Picks R p n w) := by
  by_cases hn : 1 ≤ n
  · by_cases hb : R.bytes = []
    · exact pick_zero R hR p hp n w h (.inr hb)
    · exact pick_some R hR p hp n w h hn hb
  · exact pick_zero R hR p hp n w h (.inl (by omega))
end Go.Proofs.Ytpccgdkidnkppaa

set_option linter.unusedVariables false
set_option linter.unusedSimpArgs false
namespace Go.Proofs.Ytpccgdkidnkppaa
open Go Go.RowKit

theorem PartsIs.of_get {B : Nat} {w : World} {A : Option Addr} : ∀ {ps : List Task} {k : Nat}, (∀ i (h : i < ps.length), ∃ b o x y z, A = some ⟨b, o, none⟩ ∧ b < B ∧ w.cell? ⟨b, o + (k + i) * 3, none⟩ = some x ∧ w.cell? ⟨b, o + (k + i) * 3 + 1, none⟩ = some y ∧
      w.cell? ⟨b, o + (k + i) * 3 + 2, none⟩ = some z ∧ TaskIs B w (.agg #[x, y, z]) ps[i]) → PartsIs B w A k ps := by
  intro ps
  induction ps with
  | nil => intro k _; rw [PartsIs]; trivial
  | cons t ts ih =>
    intro k h
    rw [PartsIs]
    refine ⟨?_, ih (fun i hi => ?_)⟩
    · obtain ⟨b, o, x, y, z, e, hb, h1, h2, h3, h4⟩ := h 0 (by simp)
      exact ⟨b, o, x, y, z, e, hb, by simpa using h1, by simpa using h2, by simpa using h3, h4⟩
    · obtain ⟨b, o, x, y, z, e, hb, h1, h2, h3, h4⟩ := h (i + 1) (by simpa using hi)
      rw [show k + (i + 1) = k + 1 + i from by omega] at h1 h2 h3
      exact ⟨b, o, x, y, z, e, hb, h1, h2, h3, h4⟩

/-- a task that is owned: all its rows of parts are in blocks of their own, from B on; d: more than its depth -/
def OwnT : Nat → World → Nat → Value → Task → List Nat → Prop
  | 0, _, _, _, _, _ => False
  | d + 1, w, B, v, T, L => ∃ A c, v = .agg #[.int .i64 T.kind, .int .i64 T.n, .slice A T.parts.length c] ∧ T.parts.length ≤ c ∧ c ≤ maxLen ∧ L.Nodup ∧
      ((T.parts = [] ∧ L = []) ∨ ∃ (b : Nat) (cs : Array Value) (Ls : List (List Nat)), A = some ⟨b, 0, none⟩ ∧ B ≤ b ∧ w.heap[b]? = some (.cells cs 48 (0, 0)) ∧ Ls.length = T.parts.length ∧ L = b :: Ls.flatten ∧
        ∀ i (h : i < T.parts.length), ∃ x y z, cs[i * 3]? = some x ∧ cs[i * 3 + 1]? = some y ∧ cs[i * 3 + 2]? = some z ∧ OwnT d w B (.agg #[x, y, z]) T.parts[i] (Ls.getD i []))

theorem getD_mem_flatten {Ls : List (List Nat)} {i b : Nat} (h : b ∈ Ls.getD i []) : b ∈ Ls.flatten := by
  by_cases hi : i < Ls.length
  · rw [getD_at _ hi] at h
    exact List.mem_flatten.2 ⟨_, List.getElem_mem hi, h⟩
  · rw [getD_out _ (by omega)] at h; cases h
theorem OwnT.keep {w w' : World} {B : Nat} : ∀ {d : Nat} {v : Value} {T : Task} {L : List Nat}, OwnT d w B v T L → (∀ b ∈ L, w'.heap[b]? = w.heap[b]?) → OwnT d w' B v T L := by
  intro d
  induction d with
  | zero => intro v T L h; exact h.elim
  | succ d ih =>
    intro v T L h hk
    obtain ⟨A, c, e, hc, hm, hn, h⟩ := h
    refine ⟨A, c, e, hc, hm, hn, h.imp id ?_⟩
    rintro ⟨b, cs, Ls, rfl, hB, hb, hl, rfl, hi⟩
    refine ⟨b, cs, Ls, rfl, hB, (hk b (by simp)).trans hb, hl, rfl, fun i h => ?_⟩
    obtain ⟨x, y, z, h1, h2, h3, h4⟩ := hi i h
    exact ⟨x, y, z, h1, h2, h3, ih h4 (fun b' hb' => hk b' (List.mem_cons_of_mem _ (getD_mem_flatten hb')))⟩
theorem OwnT.lt {w : World} {B : Nat} : ∀ {d : Nat} {v : Value} {T : Task} {L : List Nat}, OwnT d w B v T L → ∀ b ∈ L, B ≤ b ∧ b < w.heap.size := by
  intro d
  induction d with
  | zero => intro v T L h; exact h.elim
  | succ d ih =>
    intro v T L h b hb
    obtain ⟨A, c, e, hc, hm, hn, h⟩ := h
    rcases h with ⟨_, rfl⟩ | ⟨b', cs, Ls, rfl, hB, hb', hl, rfl, hi⟩
    · cases hb
    · rcases List.mem_cons.1 hb with rfl | hb
      · exact ⟨hB, block_lt hb'⟩
      · obtain ⟨l, hl', hbl⟩ := List.mem_flatten.1 hb
        obtain ⟨i, hi', rfl⟩ := List.getElem_of_mem hl'
        obtain ⟨x, y, z, _, _, _, h4⟩ := hi i (by omega)
        rw [getD_at _ hi'] at h4
        exact ih h4 b hbl
theorem OwnT.mono {w : World} {B B' : Nat} (hB : B' ≤ B) : ∀ {d : Nat} {v : Value} {T : Task} {L : List Nat}, OwnT d w B v T L → OwnT d w B' v T L := by
  intro d
  induction d with
  | zero => intro v T L h; exact h.elim
  | succ d ih =>
    intro v T L h
    obtain ⟨A, c, e, hc, hm, hn, h⟩ := h
    refine ⟨A, c, e, hc, hm, hn, h.imp id ?_⟩
    rintro ⟨b, cs, Ls, rfl, hB', hb, hl, rfl, hi⟩
    refine ⟨b, cs, Ls, rfl, by omega, hb, hl, rfl, fun i h => ?_⟩
    obtain ⟨x, y, z, h1, h2, h3, h4⟩ := hi i h
    exact ⟨x, y, z, h1, h2, h3, ih h4⟩
theorem OwnT.deeper {w : World} {B : Nat} : ∀ {d : Nat} {v : Value} {T : Task} {L : List Nat}, OwnT d w B v T L → OwnT (d + 1) w B v T L := by
  intro d
  induction d with
  | zero => intro v T L h; exact h.elim
  | succ d ih =>
    intro v T L h
    obtain ⟨A, c, e, hc, hm, hn, h⟩ := h
    refine ⟨A, c, e, hc, hm, hn, h.imp id ?_⟩
    rintro ⟨b, cs, Ls, rfl, hB', hb, hl, rfl, hi⟩
    refine ⟨b, cs, Ls, rfl, hB', hb, hl, rfl, fun i h => ?_⟩
    obtain ⟨x, y, z, h1, h2, h3, h4⟩ := hi i h
    exact ⟨x, y, z, h1, h2, h3, ih h4⟩
theorem OwnT.turn {w w' : World} {B g d : Nat} {v : Value} {T : Task} {L : List Nat} {F' : Nat → Prop} (h : OwnT d w B v T L) (t : Turn (· = g) F' w w') (hg : g < B) : OwnT d w' B v T L :=
  h.keep (fun b hb => t.block b (h.lt b hb).2 (fun e => by have := (h.lt b hb).1; omega))
theorem OwnT.alloc {w : World} {B d : Nat} {v : Value} {T : Task} {L : List Nat} (h : OwnT d w B v T L) (o : Obj) : OwnT d (w.alloc o) B v T L :=
  h.keep (fun b hb => heap_old (h.lt b hb).2)
/-- a task that is owned reads as one -/
theorem OwnT.reads {w : World} {B : Nat} : ∀ {d : Nat} {v : Value} {T : Task} {L : List Nat}, OwnT d w B v T L → TaskIs w.heap.size w v T := by
  intro d
  induction d with
  | zero => intro v T L h; exact h.elim
  | succ d ih =>
    intro v T L h
    obtain ⟨A, c, e, hc, hm, hn, h⟩ := h
    cases T with
    | mk k n ps =>
      simp only [Task.kind, Task.n, Task.parts] at *
      rw [TaskIs]
      refine ⟨A, c, e, hc, hm, ?_⟩
      rcases h with ⟨rfl, _⟩ | ⟨b, cs, Ls, rfl, hB, hb, hl, rfl, hi⟩
      · rw [PartsIs]; trivial
      · refine PartsIs.of_get (fun i h => ?_)
        obtain ⟨x, y, z, h1, h2, h3, h4⟩ := hi i h
        exact ⟨b, 0, x, y, z, rfl, block_lt hb, by rw [cellm hb]; simpa using h1, by rw [cellm hb]; simpa using h2, by rw [cellm hb]; simpa using h3, ih h4⟩

theorem okcode (R : Prop) : R → R := id

theorem RdAt.up {R : RdEnv} {p : Nat} {w w' : World} (h : RdAt R p w) (hw : Below w.heap.size w w') : RdAt R p w' :=
  ⟨(hw.block _ (block_lt h.blk)).trans h.blk, below_up' h.below h.size hw, Nat.le_trans h.size hw.size⟩
theorem RdAt.kept {R : RdEnv} {p : Nat} {w w' : World} (h : RdAt R p w) (hk : w'.heap[R.g]? = w.heap[R.g]?) (hb : Below R.B R.w0 w') (hs : R.B ≤ w'.heap.size) : RdAt R p w' := ⟨hk.trans h.blk, hb, hs⟩

set_option maxHeartbeats 1000000 in
theorem l6Open_calls (A : Option Addr) (c : Nat) (bytes : List Int) (B : Nat) (w0 w : World) (hb : Below B w0 w) (hB : B ≤ w.heap.size) (hx : RowAt (fun b : Int => Value.int .u8 b) B w0 A bytes) (hl : bytes.length ≤ c) (hc : c ≤ maxLen) (hby : ∀ b ∈ bytes, 0 ≤ b ∧ b ≤ 255) :
    Calls Try.prog 66 #[.slice A bytes.length c] w fun e w' => ∃ R : RdEnv, e = .returned (.pointer (some ⟨R.g, 0, none⟩)) ∧ R.Good ∧ R.B = B ∧ R.w0 = w0 ∧ w.heap.size ≤ R.g ∧ RdAt R 0 w' ∧ Below w.heap.size w w' := by
  have hcm := hc
  unfold maxLen at hcm
  by_cases h1 : bytes.length ≤ 2000
  · replace hx := Lib.hid hx
    replace hb := Lib.hid hb
    replace hby := Lib.hid hby
    go_enter Try.func66, Try.ntmps66
    go_wp2_with fail
    go_ret
    exact ⟨⟨A, c, bytes, B, w0, w.heap.size⟩, rfl, ⟨hx.out, h1, hl, hc, hby.out, hB⟩, rfl, rfl, Nat.le_refl _, ⟨heap_new rfl, below_al' hb.out _ hB, by simp; omega⟩, below_al (Below.refl _ _) _⟩
  · have e : (bytes.take 2000).length = 2000 := by simp; omega
    have hx' : RowAt (fun b : Int => Value.int .u8 b) B w0 A (bytes.take 2000) := fun i hi => by
      obtain ⟨b, o, e1, e2, e3⟩ := hx i (by simp at hi; omega)
      exact ⟨b, o, e1, e2, by simpa using e3⟩
    have hby' : ∀ b ∈ bytes.take 2000, 0 ≤ b ∧ b ≤ 255 := fun b hb => hby b (List.mem_of_mem_take hb)
    replace hx := Lib.hid hx
    replace hx' := Lib.hid hx'
    replace hb := Lib.hid hb
    replace hby := Lib.hid hby
    replace hby' := Lib.hid hby'
    replace e := Lib.hid e
    go_enter Try.func66, Try.ntmps66
    go_wp2_with fail
    go_ret
    refine ⟨⟨A, c, bytes.take 2000, B, w0, w.heap.size⟩, rfl, ⟨hx'.out, by simp only []; rw [e.out]; omega, by simp only []; rw [e.out]; omega, hc, hby'.out, hB⟩, rfl, rfl, Nat.le_refl _, ⟨?_, below_al' hb.out _ hB, by simp; omega⟩, below_al (Below.refl _ _) _⟩
    simp only []
    rw [e.out]
    exact heap_new rfl
end Go.Proofs.Ytpccgdkidnkppaa

set_option linter.unusedVariables false
set_option linter.unusedSimpArgs false
namespace Go.Proofs.Ytpccgdkidnkppaa
open Go Go.RowKit

/-! drawn tasks: G tells of a block that it is a row of parts, its rank and how many parts it has -/
def Rows := Nat → Option (Nat × Nat)
def TyV (G : Rows) (r : Nat) (v : Value) : Prop := ∃ (k n : Int) (A : Option Addr) (m c : Nat), v = .agg #[.int .i64 k, .int .i64 n, .slice A m c] ∧ m ≤ 3 ∧ m ≤ c ∧ c ≤ maxLen ∧ (k = 5 → 1 ≤ m) ∧
  (m = 0 ∨ ∃ b r', A = some ⟨b, 0, none⟩ ∧ G b = some (r', m) ∧ r' < r)
def TyH (g B : Nat) (G : Rows) (w : World) : Prop := ∀ b r m, G b = some (r, m) → B ≤ b ∧ b ≠ g ∧ ∃ cs, w.heap[b]? = some (.cells cs 48 (0, 0)) ∧
  ∀ i, i < m → ∃ x y z, cs[i * 3]? = some x ∧ cs[i * 3 + 1]? = some y ∧ cs[i * 3 + 2]? = some z ∧ TyV G r (.agg #[x, y, z])
structure Ext (G G' : Rows) (n : Nat) : Prop where
  old : ∀ b x, G b = some x → G' b = some x
  new : ∀ b x, G' b = some x → G b = some x ∨ n ≤ b
theorem Ext.refl (G : Rows) (n : Nat) : Ext G G n := ⟨fun _ _ h => h, fun _ _ h => .inl h⟩
theorem Ext.trans {G G' G2 : Rows} {n n' : Nat} (h : Ext G G' n) (k : Ext G' G2 n') (hn : n ≤ n') : Ext G G2 n :=
  ⟨fun b x hx => k.old b x (h.old b x hx), fun b x hx => (k.new b x hx).elim (h.new b x) (fun h => .inr (by omega))⟩
theorem TyV.ext {G G' : Rows} {n r r2 : Nat} {v : Value} (h : TyV G r v) (k : Ext G G' n) (hr : r ≤ r2) : TyV G' r2 v := by
  obtain ⟨kk, nn, A, m, c, e, h1, h2, h3, h5, h4⟩ := h
  refine ⟨kk, nn, A, m, c, e, h1, h2, h3, h5, h4.imp id ?_⟩
  rintro ⟨b, r', e, hb, hr'⟩
  exact ⟨b, r', e, k.old _ _ hb, by omega⟩
theorem TyH.turn {g B : Nat} {G : Rows} {w w' : World} (h : TyH g B G w) {F F' : Nat → Prop} (t : Turn F F' w w') (hF : ∀ b x, G b = some x → ¬ F b) : TyH g B G w' := by
  intro b r m hb
  obtain ⟨h1, h2, cs, h3, h4⟩ := h b r m hb
  exact ⟨h1, h2, cs, (t.block b (block_lt h3) (hF b _ hb)).trans h3, h4⟩
theorem TyH.turng {g B : Nat} {G : Rows} {w w' : World} (h : TyH g B G w) {F' : Nat → Prop} (t : Turn (· = g) F' w w') : TyH g B G w' :=
  h.turn t (fun b x hb => (h b x.1 x.2 hb).2.1)
theorem TyH.alloc {g B : Nat} {G : Rows} {w : World} (h : TyH g B G w) (o : Obj) : TyH g B G (w.alloc o) :=
  h.turn ((Turn.refl (fun _ => False) w).alloc o) (fun _ _ _ h => h)
theorem TyH.drew {g B : Nat} {G : Rows} {w : World} (h : TyH g B G w) : TyH g B G w.drew := h
theorem TyH.set {g B : Nat} {G : Rows} {w : World} (h : TyH g B G w) {b o : Nat} (v : Value) (hb : ∀ x, G b ≠ some x) : TyH g B G (w.setCell ⟨b, o, none⟩ v) :=
  h.turn (setCell_turn (F := (· = b)) rfl v) (fun b' x hx e => by cases e; exact hb _ hx)
def withRow (G : Rows) (b r m : Nat) : Rows := fun i => if i = b then some (r, m) else G i
theorem TyH.lt {g B : Nat} {G : Rows} {w : World} (h : TyH g B G w) {b : Nat} {x : Nat × Nat} (hb : G b = some x) : b < w.heap.size := by
  obtain ⟨_, _, _, h3, _⟩ := h b x.1 x.2 hb
  exact block_lt h3
theorem Ext.row (G : Rows) {g B : Nat} {w : World} (h : TyH g B G w) (r m : Nat) : Ext G (withRow G w.heap.size r m) w.heap.size := by
  refine ⟨fun b x hb => ?_, fun b x hb => ?_⟩
  · have := h.lt hb
    unfold withRow
    rw [if_neg (by omega)]; exact hb
  · unfold withRow at hb
    split at hb
    · right; omega
    · exact .inl hb
theorem TyH.row {g B : Nat} {G : Rows} {w : World} (h : TyH g B G w) (r m : Nat) (cs : Array Value) (hB : B ≤ w.heap.size) (hg : g < w.heap.size)
    (hi : ∀ i, i < m → ∃ x y z, cs[i * 3]? = some x ∧ cs[i * 3 + 1]? = some y ∧ cs[i * 3 + 2]? = some z ∧ TyV G r (.agg #[x, y, z])) :
    TyH g B (withRow G w.heap.size r m) (w.alloc (.cells cs 48 (0, 0))) := by
  have he := Ext.row G h r m
  intro b r' m' hb
  unfold withRow at hb
  split at hb
  · rename_i e
    cases hb; subst e
    refine ⟨hB, by omega, cs, heap_new rfl, fun i h' => ?_⟩
    obtain ⟨x, y, z, h1, h2, h3, h4⟩ := hi i h'
    exact ⟨x, y, z, h1, h2, h3, h4.ext he (Nat.le_refl _)⟩
  · obtain ⟨h1, h2, cs', h3, h4⟩ := h b r' m' hb
    refine ⟨h1, h2, cs', (heap_old (block_lt h3)).trans h3, fun i h' => ?_⟩
    obtain ⟨x, y, z, k1, k2, k3, k4⟩ := h4 i h'
    exact ⟨x, y, z, k1, k2, k3, k4.ext he (Nat.le_refl _)⟩
theorem tyv_leaf (G : Rows) (r : Nat) (k n : Int) (hk : k ≠ 5) : TyV G r (.agg #[.int .i64 k, .int .i64 n, .slice none 0 0]) :=
  ⟨k, n, none, 0, 0, rfl, by omega, by omega, by simp [maxLen], fun e => (hk e).elim, .inl rfl⟩
theorem tyv_row (G : Rows) (b r m : Nat) (k n : Int) (hm : m ≤ 3) (h1 : 1 ≤ m) : TyV (withRow G b r m) (r + 1) (.agg #[.int .i64 k, .int .i64 n, .slice (some ⟨b, 0, none⟩) m m]) :=
  ⟨k, n, _, m, m, rfl, hm, by omega, by simp [maxLen]; omega, fun _ => h1, .inr ⟨b, r, rfl, by simp [withRow], by omega⟩⟩

def cost : Nat → Nat
  | 0 => 3
  | d + 1 => 3 * cost d + 3
/-- what a draw of a task brings -/
def DrawT (R : RdEnv) (G : Rows) (p c r : Nat) (w : World) (e : Ending) (w' : World) : Prop :=
  ∃ p' G' v, e = .returned v ∧ TyV G' r v ∧ p ≤ p' ∧ p' ≤ p + c ∧ RdAt R p' w' ∧ Turn (· = R.g) (· = R.g) w w' ∧ Ext G G' w.heap.size ∧ TyH R.g R.B G' w'

set_option maxHeartbeats 1000000 in
theorem l91Key_calls (R : RdEnv) (hR : R.Good) (p : Nat) (hp : p + 2 ≤ 1000000) (below : Int) (w : World) (h : RdAt R p w) :
    Calls Try.prog 161 #[.pointer (some ⟨R.g, 0, none⟩), .int .i64 below] w fun e w' => ∃ p' v, e = .returned (.int .i64 v) ∧ p ≤ p' ∧ p' ≤ p + 2 ∧ RdAt R p' w' ∧ Turn (· = R.g) (· = R.g) w w' := by
  have h1 := pick_calls R hR p (by omega) 25 w h
  replace h1 := Lib.hid h1
  replace h := Lib.hid h
  go_enter Try.func161, Try.ntmps161
  go_wp2_with fail
  refine h1.out.mono ?_
  rintro e w1 ⟨k, rfl, hk0, hk1, hr, ht⟩
  have h2 := pick_calls R hR (p + 1) (by omega) below w1 hr
  replace hr := Lib.hid hr
  replace ht := Lib.hid ht
  replace h2 := Lib.hid h2
  by_cases hk : k = 0
  · subst hk
    go_wp2_with fail
    go_ret
    exact ⟨p + 1, 9, rfl, by omega, by omega, hr.out, ht.out⟩
  · have e1 : (k == 0) = false := by simp [hk]
    go_wp2_with fail
    refine h2.out.mono ?_
    rintro e w2 ⟨v, rfl, _, _, hr2, ht2⟩
    replace hr2 := Lib.hid hr2
    replace ht2 := Lib.hid ht2
    go_wp2_with fail
    go_ret
    exact ⟨p + 1 + 1, v, rfl, by omega, by omega, hr2.out, ht.out.trans ht2.out⟩
theorem ret_task {fn : Func} {t : Nat} {tmps : Array Value} {Q : Ending → World → Prop} {W : World} {m : Nat} {a b c : Value} (hr : fn.results = #[.cell t 48])
    (ht : tmps.getD t undef = .pointer (some ⟨m, 0, none⟩)) (hW : W.heap[m]? = some (.cells #[a, b, c] 48 (0, 0))) (K : Q (.returned (.agg #[a, b, c])) W) : bodyPost Try.prog fn Q .ret ⟨tmps, []⟩ W := by
  have y0 : W.cell? ⟨m, 0, none⟩ = some a := cellm hW 0
  have y1 : W.cell? ⟨m, 1, none⟩ = some b := cellm hW 1
  have y2 : W.cell? ⟨m, 2, none⟩ = some c := cellm hW 2
  refine bodyPost_ret (v := .agg #[a, b, c]) ?_ rfl K
  have ht' : tmps[t]?.getD undef = .pointer (some ⟨m, 0, none⟩) := by simpa using ht
  simp [results, hr, ht', go_sem, y0, y1, y2]

/-- behind w, whose next block is the result's: what a draw has brought so far -/
structure DSt (R : RdEnv) (G : Rows) (w : World) (G' : Rows) (p' : Nat) (w' : World) : Prop where
  rd : RdAt R p' w'
  turn : Turn (· = R.g) (· = R.g) w w'
  ext : Ext G G' (w.heap.size + 1)
  ty : TyH R.g R.B G' w'
  res : w'.heap[w.heap.size]? = some (.cells #[.int .i64 0, .int .i64 0, .slice none 0 0] 48 (0, 0))
  old : ∀ x, G w.heap.size ≠ some x
  glt : R.g < w.heap.size
  bw : R.B ≤ w.heap.size
section
variable {R : RdEnv} {G G1 : Rows} {w w1 : World} {p p1 : Nat}
theorem DSt.start (h : RdAt R p w) (hG : TyH R.g R.B G w) : DSt R G w G p (w.alloc (.cells #[.int .i64 0, .int .i64 0, .slice none 0 0] 48 (0, 0))) :=
  ⟨h.up (below_al (Below.refl _ _) _), (Turn.refl _ _).alloc _, Ext.refl _ _, hG.alloc _, heap_new rfl, fun x hx => by have := hG.lt hx; omega, block_lt h.blk, h.size⟩
theorem DSt.lt (h : DSt R G w G1 p1 w1) : w.heap.size < w1.heap.size := block_lt h.res
theorem DSt.draw (h : DSt R G w G1 p1 w1) {G2 : Rows} {p2 : Nat} {w2 : World} (rd : RdAt R p2 w2) (t : Turn (· = R.g) (· = R.g) w1 w2) (he : Ext G1 G2 w1.heap.size) (ty : TyH R.g R.B G2 w2) : DSt R G w G2 p2 w2 :=
  ⟨rd, h.turn.trans t, h.ext.trans he (by have := h.lt; omega), ty, (t.block _ h.lt (by intro e; have := h.glt; omega)).trans h.res, h.old, h.glt, h.bw⟩
theorem DSt.step (h : DSt R G w G1 p1 w1) {p2 : Nat} {w2 : World} (rd : RdAt R p2 w2) (t : Turn (· = R.g) (· = R.g) w1 w2) : DSt R G w G1 p2 w2 :=
  h.draw rd t (Ext.refl _ _) (h.ty.turng t)
theorem DSt.row (h : DSt R G w G1 p1 w1) (r m : Nat) (cs : Array Value) (hi : ∀ i, i < m → ∃ x y z, cs[i * 3]? = some x ∧ cs[i * 3 + 1]? = some y ∧ cs[i * 3 + 2]? = some z ∧ TyV G1 r (.agg #[x, y, z])) :
    DSt R G w (withRow G1 w1.heap.size r m) p1 (w1.alloc (.cells cs 48 (0, 0))) :=
  h.draw (h.rd.up (below_al (Below.refl _ _) _)) ((Turn.refl _ _).alloc _) (Ext.row G1 h.ty r m) (h.ty.row r m cs h.rd.size (block_lt h.rd.blk) hi)
theorem DSt.done (h : DSt R G w G1 p1 w1) {p c r : Nat} {x y z : Value} {fn : Func} {t : Nat} {tmps : Array Value} (hr : fn.results = #[.cell t 48])
    (ht : tmps.getD t undef = .pointer (some ⟨w.heap.size, 0, none⟩)) (hv : TyV G1 r (.agg #[x, y, z])) (hp : p ≤ p1 ∧ p1 ≤ p + c) :
    bodyPost Try.prog fn (DrawT R G p c r w) .ret ⟨tmps, []⟩ (((w1.setCell ⟨w.heap.size, 0, none⟩ x).setCell ⟨w.heap.size, 1, none⟩ y).setCell ⟨w.heap.size, 2, none⟩ z) := by
  have hne : ∀ q, G1 w.heap.size ≠ some q := fun q hq => (h.ext.new _ _ hq).elim (h.old q) (fun hn => by omega)
  have hgl := h.glt
  have t3 : Turn (· = w.heap.size) (· = w.heap.size) w1 (((w1.setCell ⟨w.heap.size, 0, none⟩ x).setCell ⟨w.heap.size, 1, none⟩ y).setCell ⟨w.heap.size, 2, none⟩ z) :=
    ((setCell_turn (F := (· = w.heap.size)) rfl x).trans (setCell_turn (F := (· = w.heap.size)) rfl y)).trans (setCell_turn (F := (· = w.heap.size)) rfl z)
  have hb : Below w.heap.size w1 (((w1.setCell ⟨w.heap.size, 0, none⟩ x).setCell ⟨w.heap.size, 1, none⟩ y).setCell ⟨w.heap.size, 2, none⟩ z) := t3.below (Nat.le_of_lt h.lt) (fun i e => by cases e; exact Nat.le_refl _)
  refine ret_task hr ht ((setCell_block (setCell_block (setCell_block h.res 0 x) 1 y) 2 z).trans rfl) ⟨p1, G1, _, rfl, hv, hp.1, hp.2, ?_, ?_, ?_, ?_⟩
  · exact h.rd.kept (hb.block _ hgl) (h.rd.below.trans (hb.mono h.bw)) (Nat.le_trans h.rd.size hb.size)
  · exact ⟨hb.os.trans h.turn.os, hb.tape.trans h.turn.tape, hb.output.trans h.turn.output, Nat.le_trans h.turn.size hb.size, fun i hi hF => (hb.block i hi).trans (h.turn.block i hi hF), h.turn.fresh⟩
  · exact ⟨h.ext.old, fun b q hq => (h.ext.new b q hq).imp id (fun hn => by omega)⟩
  · exact h.ty.turn t3 (fun b q hq e => by cases e; exact hne _ hq)
theorem DSt.done' {ob : Obj} (h : DSt R G w G1 p1 (w1.alloc ob)) (hl : w.heap.size < w1.heap.size) {p c r : Nat} {x y z : Value} {fn : Func} {t : Nat} {tmps : Array Value} (hr : fn.results = #[.cell t 48])
    (ht : tmps.getD t undef = .pointer (some ⟨w.heap.size, 0, none⟩)) (hv : TyV G1 r (.agg #[x, y, z])) (hp : p ≤ p1 ∧ p1 ≤ p + c) :
    bodyPost Try.prog fn (DrawT R G p c r w) .ret ⟨tmps, []⟩ ((((w1.setCell ⟨w.heap.size, 0, none⟩ x).setCell ⟨w.heap.size, 1, none⟩ y).setCell ⟨w.heap.size, 2, none⟩ z).alloc ob) := by
  have := h.done hr ht hv hp
  rwa [World.setCell_alloc_past _ _ _ _ hl, World.setCell_alloc_past _ _ _ _ (by simpa using hl), World.setCell_alloc_past _ _ _ _ (by simpa using hl)] at this
theorem row1 {G : Rows} {r : Nat} {a b c : Value} (h : TyV G r (.agg #[a, b, c])) : ∀ i, i < 1 → ∃ x y z, (#[a, b, c] : Array Value)[i * 3]? = some x ∧ (#[a, b, c] : Array Value)[i * 3 + 1]? = some y ∧ (#[a, b, c] : Array Value)[i * 3 + 2]? = some z ∧ TyV G r (.agg #[x, y, z]) := by
  intro i hi
  obtain rfl : i = 0 := by omega
  exact ⟨_, _, _, rfl, rfl, rfl, h⟩
theorem row2 {G : Rows} {r : Nat} {a b c a2 b2 c2 : Value} (h : TyV G r (.agg #[a, b, c])) (h2 : TyV G r (.agg #[a2, b2, c2])) : ∀ i, i < 2 → ∃ x y z, (#[a, b, c, a2, b2, c2] : Array Value)[i * 3]? = some x ∧ (#[a, b, c, a2, b2, c2] : Array Value)[i * 3 + 1]? = some y ∧ (#[a, b, c, a2, b2, c2] : Array Value)[i * 3 + 2]? = some z ∧ TyV G r (.agg #[x, y, z]) := by
  intro i hi
  rcases (show i = 0 ∨ i = 1 by omega) with rfl | rfl
  · exact ⟨_, _, _, rfl, rfl, rfl, h⟩
  · exact ⟨_, _, _, rfl, rfl, rfl, h2⟩
theorem row3 {G : Rows} {r : Nat} {a b c a2 b2 c2 a3 b3 c3 : Value} (h : TyV G r (.agg #[a, b, c])) (h2 : TyV G r (.agg #[a2, b2, c2])) (h3 : TyV G r (.agg #[a3, b3, c3])) : ∀ i, i < 3 → ∃ x y z, (#[a, b, c, a2, b2, c2, a3, b3, c3] : Array Value)[i * 3]? = some x ∧ (#[a, b, c, a2, b2, c2, a3, b3, c3] : Array Value)[i * 3 + 1]? = some y ∧ (#[a, b, c, a2, b2, c2, a3, b3, c3] : Array Value)[i * 3 + 2]? = some z ∧ TyV G r (.agg #[x, y, z]) := by
  intro i hi
  rcases (show i = 0 ∨ i = 1 ∨ i = 2 by omega) with rfl | rfl | rfl
  · exact ⟨_, _, _, rfl, rfl, rfl, h⟩
  · exact ⟨_, _, _, rfl, rfl, rfl, h2⟩
  · exact ⟨_, _, _, rfl, rfl, rfl, h3⟩
/-- the facts that the store of the result asks for -/
theorem DSt.cells (h : DSt R G w G1 p1 w1) : w1.cell? ⟨w.heap.size, 0, none⟩ = some (.int .i64 0) ∧ w1.cell? ⟨w.heap.size, 1, none⟩ = some (.int .i64 0) ∧ w1.cell? ⟨w.heap.size, 2, none⟩ = some (.slice none 0 0) ∧
    w1.frozen? ⟨w.heap.size, 0, none⟩ = false ∧ w1.frozen? ⟨w.heap.size, 1, none⟩ = false ∧ w1.frozen? ⟨w.heap.size, 2, none⟩ = false :=
  ⟨cellm h.res 0, cellm h.res 1, cellm h.res 2, frozenm h.res 0, frozenm h.res 1, frozenm h.res 2⟩
end
theorem ret_sheet {fn : Func} {t : Nat} {tmps : Array Value} {Q : Ending → World → Prop} {W : World} {m : Nat} {a b : Value} (hr : fn.results = #[.cell t 31])
    (ht : tmps.getD t undef = .pointer (some ⟨m, 0, none⟩)) (hW : W.heap[m]? = some (.cells #[a, b] 31 (0, 0))) (K : Q (.returned (.agg #[a, b])) W) : bodyPost Try.prog fn Q .ret ⟨tmps, []⟩ W := by
  have y0 : W.cell? ⟨m, 0, none⟩ = some a := cellm hW 0
  have y1 : W.cell? ⟨m, 1, none⟩ = some b := cellm hW 1
  refine bodyPost_ret (v := .agg #[a, b]) ?_ rfl K
  have ht' : tmps[t]?.getD undef = .pointer (some ⟨m, 0, none⟩) := by simpa using ht
  simp [results, hr, ht', go_sem, y0, y1]
end Go.Proofs.Ytpccgdkidnkppaa

set_option linter.unusedVariables false
set_option linter.unusedSimpArgs false
namespace Go.Proofs.Ytpccgdkidnkppaa
open Go Go.RowKit

set_option maxHeartbeats 1000000 in
theorem task_zero (R : RdEnv) (hR : R.Good) (G : Rows) (p : Nat) (hp : p + 3 ≤ 1000000) (below : Int) (w : World) (h : RdAt R p w) (hG : TyH R.g R.B G w) :
    Calls Try.prog 147 #[.pointer (some ⟨R.g, 0, none⟩), .int .i64 below, .int .i64 0] w (DrawT R G p 3 0 w) := by
  have hs := DSt.start h hG
  have h1 := pick_calls R hR p (by omega) 9 _ hs.rd
  replace h1 := Lib.hid h1
  replace hs := Lib.hid hs
  clear h hG
  go_enter Try.func147, Try.ntmps147
  go_wp2_with fail
  refine h1.out.mono ?_
  rintro e w1 ⟨k, rfl, hk0, hk1, hr, ht⟩
  have hk1 : k < 9 := by omega
  have hs1 := hs.out.step hr ht
  have h2 := pick_calls R hR (p + 1) (by omega) 97 w1 hr
  have h3 := l91Key_calls R hR (p + 1) (by omega) below w1 hr
  replace hs1 := Lib.hid hs1
  replace h2 := Lib.hid h2
  replace h3 := Lib.hid h3
  clear hs h1 hr ht
  by_cases c1 : k % 2 = 0 ∨ below = 0
  · have arm : ∀ (K : Prop), ((k % 2 == 0) = true → K) → ((k % 2 == 0) = false → (below == 0) = true → K) → K := by
      intro K a b
      by_cases c2 : k % 2 = 0
      · exact a (by simp [c2])
      · exact b (by simp [c2]) (by simp; omega)
    refine arm _ (fun e1 => ?_) (fun e1 e2 => ?_) <;>
    · go_wp2_with fail
      refine h2.out.mono ?_
      rintro e w2 ⟨n, rfl, _, _, hr2, ht2⟩
      have hs2 := hs1.out.step hr2 ht2
      obtain ⟨x0, x1, x2, f0, f1, f2⟩ := hs2.cells
      have z2 := hs2.lt
      replace hs2 := Lib.hid hs2
      clear h2 h3 hr2 ht2
      go_wp2_with fail
      exact hs2.out.done rfl rfl (tyv_leaf _ _ _ _ (by omega)) ⟨by omega, by omega⟩
  · have e1 : (k % 2 == 0) = false := by simp; omega
    have e2 : (below == 0) = false := by simp; omega
    go_wp2_with fail
    refine h3.out.mono ?_
    rintro e w2 ⟨p2, n, rfl, hp1, hp2, hr2, ht2⟩
    have hs2 := hs1.out.step hr2 ht2
    obtain ⟨x0, x1, x2, f0, f1, f2⟩ := hs2.cells
    have z2 := hs2.lt
    replace hs2 := Lib.hid hs2
    clear h2 h3 hr2 ht2
    go_wp2_with fail
    exact hs2.out.done rfl rfl (tyv_leaf _ _ _ _ (by omega)) ⟨by omega, by omega⟩

/-- draws of tasks, so deep -/
def TaskDraws (R : RdEnv) (D : Int) (c r : Nat) : Prop := ∀ (G : Rows) (p : Nat) (below : Int) (w : World), p + c ≤ 1000000 → RdAt R p w → TyH R.g R.B G w →
    Calls Try.prog 147 #[.pointer (some ⟨R.g, 0, none⟩), .int .i64 below, .int .i64 D] w (DrawT R G p c r w)

set_option maxHeartbeats 2000000 in
theorem task_succ (R : RdEnv) (hR : R.Good) (D : Int) (c r : Nat) (hD : 1 ≤ D) (hD3 : D ≤ 3) (hc : 3 ≤ c) (ih : TaskDraws R (D - 1) c r) : TaskDraws R D (3 * c + 3) (r + 1) := by
  intro G p below w hp h hG
  have hs := DSt.start h hG
  have h1 := pick_calls R hR p (by omega) 9 _ hs.rd
  have e0 : (D == 0) = false := by simp; omega
  replace h1 := Lib.hid h1
  replace hs := Lib.hid hs
  replace ih := Lib.hid ih
  clear h hG
  go_enter Try.func147, Try.ntmps147
  go_wp2_with fail
  refine h1.out.mono ?_
  rintro e w1 ⟨k, rfl, hk0, hk1, hr, ht⟩
  have hk1 : k < 9 := by omega
  have hs1 := hs.out.step hr ht
  replace hs1 := Lib.hid hs1
  clear hs h1 hr ht
  by_cases c1 : k < 3
  · have h2 := pick_calls R hR (p + 1) (by omega) 97 w1 hs1.out.rd
    have h3 := l91Key_calls R hR (p + 1) (by omega) below w1 hs1.out.rd
    replace h2 := Lib.hid h2
    replace h3 := Lib.hid h3
    by_cases c1 : k % 2 = 0 ∨ below = 0
    · have arm : ∀ (K : Prop), ((k % 2 == 0) = true → K) → ((k % 2 == 0) = false → (below == 0) = true → K) → K := by
        intro K a b
        by_cases c2 : k % 2 = 0
        · exact a (by simp [c2])
        · exact b (by simp [c2]) (by simp; omega)
      refine arm _ (fun e1 => ?_) (fun e1 e2 => ?_) <;>
      · go_wp2_with fail
        refine h2.out.mono ?_
        rintro e w2 ⟨n, rfl, _, _, hr2, ht2⟩
        have hs2 := hs1.out.step hr2 ht2
        obtain ⟨x0, x1, x2, f0, f1, f2⟩ := hs2.cells
        have z2 := hs2.lt
        replace hs2 := Lib.hid hs2
        clear h2 h3 hr2 ht2
        go_wp2_with fail
        exact hs2.out.done rfl rfl (tyv_leaf _ _ _ _ (by omega)) ⟨by omega, by omega⟩
    · have e1 : (k % 2 == 0) = false := by simp; omega
      have e2 : (below == 0) = false := by simp; omega
      go_wp2_with fail
      refine h3.out.mono ?_
      rintro e w2 ⟨p2, n, rfl, hp1, hp2, hr2, ht2⟩
      have hs2 := hs1.out.step hr2 ht2
      obtain ⟨x0, x1, x2, f0, f1, f2⟩ := hs2.cells
      have z2 := hs2.lt
      replace hs2 := Lib.hid hs2
      clear h2 h3 hr2 ht2
      go_wp2_with fail
      exact hs2.out.done rfl rfl (tyv_leaf _ _ _ _ (by omega)) ⟨by omega, by omega⟩
  by_cases c2 : k < 5
  · have hd1 := ih.out G (p + 1) below w1 (by omega) hs1.out.rd hs1.out.ty
    replace hd1 := Lib.hid hd1
    go_wp2_with fail
    refine hd1.out.mono ?_
    rintro e W1 ⟨q1, G1, v1, rfl, hv1, hq1, hQ1, hr1, ht1, he1, hy1⟩
    have hs2 := hs1.out.draw hr1 ht1 he1 hy1
    replace hs2 := Lib.hid hs2
    have hv1' := hv1
    obtain ⟨a1, b1, A1, m1, d1, rfl, _⟩ := hv1'
    clear hr1 ht1 hy1 hd1
    replace hv1 := Lib.hid hv1
    replace he1 := Lib.hid he1
    have hd2 := ih.out G1 (q1) below W1 (by omega) hs2.out.rd hs2.out.ty
    replace hd2 := Lib.hid hd2
    go_wp2_with fail
    refine hd2.out.mono ?_
    rintro e W2 ⟨q2, G2, v2, rfl, hv2, hq2, hQ2, hr2, ht2, he2, hy2⟩
    have hs3 := hs2.out.draw hr2 ht2 he2 hy2
    replace hs3 := Lib.hid hs3
    have hv2' := hv2
    obtain ⟨a2, b2, A2, m2, d2, rfl, _⟩ := hv2'
    clear hr2 ht2 hy2 hd2
    replace hv2 := Lib.hid hv2
    replace he2 := Lib.hid he2
    have hs' := hs3.out.row r 2 #[.int .i64 a1, .int .i64 b1, .slice A1 m1 d1, .int .i64 a2, .int .i64 b2, .slice A2 m2 d2] (row2 (hv1.out.ext he2.out (Nat.le_refl _)) hv2.out)
    obtain ⟨x0, x1, x2, f0, f1, f2⟩ := hs3.out.cells
    have z2 := hs3.out.lt
    replace hs' := Lib.hid hs'
    clear hs2 hs3 hv1 he1 hv2 he2 ih
    go_wp2_with fail
    exact hs'.out.done' z2 rfl rfl (tyv_row _ _ _ 2 2 _ (by omega) (by omega)) ⟨by omega, by omega⟩
  by_cases c3 : k = 5
  · subst c3
    have hd1 := ih.out G (p + 1) below w1 (by omega) hs1.out.rd hs1.out.ty
    replace hd1 := Lib.hid hd1
    go_wp2_with fail
    refine hd1.out.mono ?_
    rintro e W1 ⟨q1, G1, v1, rfl, hv1, hq1, hQ1, hr1, ht1, he1, hy1⟩
    have hs2 := hs1.out.draw hr1 ht1 he1 hy1
    replace hs2 := Lib.hid hs2
    have hv1' := hv1
    obtain ⟨a1, b1, A1, m1, d1, rfl, _⟩ := hv1'
    clear hr1 ht1 hy1 hd1
    replace hv1 := Lib.hid hv1
    replace he1 := Lib.hid he1
    have hd2 := ih.out G1 (q1) below W1 (by omega) hs2.out.rd hs2.out.ty
    replace hd2 := Lib.hid hd2
    go_wp2_with fail
    refine hd2.out.mono ?_
    rintro e W2 ⟨q2, G2, v2, rfl, hv2, hq2, hQ2, hr2, ht2, he2, hy2⟩
    have hs3 := hs2.out.draw hr2 ht2 he2 hy2
    replace hs3 := Lib.hid hs3
    have hv2' := hv2
    obtain ⟨a2, b2, A2, m2, d2, rfl, _⟩ := hv2'
    clear hr2 ht2 hy2 hd2
    replace hv2 := Lib.hid hv2
    replace he2 := Lib.hid he2
    have hs' := hs3.out.row r 2 #[.int .i64 a1, .int .i64 b1, .slice A1 m1 d1, .int .i64 a2, .int .i64 b2, .slice A2 m2 d2] (row2 (hv1.out.ext he2.out (Nat.le_refl _)) hv2.out)
    obtain ⟨x0, x1, x2, f0, f1, f2⟩ := hs3.out.cells
    have z2 := hs3.out.lt
    replace hs' := Lib.hid hs'
    clear hs2 hs3 hv1 he1 hv2 he2 ih
    go_wp2_with fail
    exact hs'.out.done' z2 rfl rfl (tyv_row _ _ _ 2 3 _ (by omega) (by omega)) ⟨by omega, by omega⟩
  have e3 : (k == 5) = false := by simp [c3]
  by_cases c4 : k < 8
  · have hd1 := ih.out G (p + 1) below w1 (by omega) hs1.out.rd hs1.out.ty
    replace hd1 := Lib.hid hd1
    go_wp2_with fail
    refine hd1.out.mono ?_
    rintro e W1 ⟨q1, G1, v1, rfl, hv1, hq1, hQ1, hr1, ht1, he1, hy1⟩
    have hs2 := hs1.out.draw hr1 ht1 he1 hy1
    replace hs2 := Lib.hid hs2
    have hv1' := hv1
    obtain ⟨a1, b1, A1, m1, d1, rfl, _⟩ := hv1'
    clear hr1 ht1 hy1 hd1
    replace hv1 := Lib.hid hv1
    replace he1 := Lib.hid he1
    have hd2 := ih.out G1 (q1) below W1 (by omega) hs2.out.rd hs2.out.ty
    replace hd2 := Lib.hid hd2
    go_wp2_with fail
    refine hd2.out.mono ?_
    rintro e W2 ⟨q2, G2, v2, rfl, hv2, hq2, hQ2, hr2, ht2, he2, hy2⟩
    have hs3 := hs2.out.draw hr2 ht2 he2 hy2
    have hsz2 := ht2.size
    replace hs3 := Lib.hid hs3
    have hv2' := hv2
    obtain ⟨a2, b2, A2, m2, d2, rfl, _⟩ := hv2'
    clear hr2 ht2 hy2 hd2
    replace hv2 := Lib.hid hv2
    replace he2 := Lib.hid he2
    have hd3 := ih.out G2 (q2) below W2 (by omega) hs3.out.rd hs3.out.ty
    replace hd3 := Lib.hid hd3
    go_wp2_with fail
    refine hd3.out.mono ?_
    rintro e W3 ⟨q3, G3, v3, rfl, hv3, hq3, hQ3, hr3, ht3, he3, hy3⟩
    have hs4 := hs3.out.draw hr3 ht3 he3 hy3
    replace hs4 := Lib.hid hs4
    have hv3' := hv3
    obtain ⟨a3, b3, A3, m3, d3, rfl, _⟩ := hv3'
    clear hr3 ht3 hy3 hd3
    replace hv3 := Lib.hid hv3
    replace he3 := Lib.hid he3
    have hr_le1 : W1.heap.size ≤ W2.heap.size := hsz2
    have hs' := hs4.out.row r 3 #[.int .i64 a1, .int .i64 b1, .slice A1 m1 d1, .int .i64 a2, .int .i64 b2, .slice A2 m2 d2, .int .i64 a3, .int .i64 b3, .slice A3 m3 d3] (row3 (hv1.out.ext (he2.out.trans he3.out (by have := hr_le1; omega)) (Nat.le_refl _)) (hv2.out.ext he3.out (Nat.le_refl _)) hv3.out)
    obtain ⟨x0, x1, x2, f0, f1, f2⟩ := hs4.out.cells
    have z2 := hs4.out.lt
    replace hs' := Lib.hid hs'
    clear hs2 hs3 hs4 hv1 he1 hv2 he2 hv3 he3 ih
    go_wp2_with fail
    exact hs'.out.done' z2 rfl rfl (tyv_row _ _ _ 3 4 _ (by omega) (by omega)) ⟨by omega, by omega⟩
  have hpk := pick_calls R hR (p + 1) (by omega) 3 w1 hs1.out.rd
  replace hpk := Lib.hid hpk
  go_wp2_with fail
  refine hpk.out.mono ?_
  rintro e w2 ⟨k2, rfl, hk2, _, hr2, ht2⟩
  have hs0 := hs1.out.step hr2 ht2
  replace hs0 := Lib.hid hs0
  clear hpk hr2 ht2 hs1
  by_cases c5 : 0 < k2
  · have hd1 := ih.out G (p + 1 + 1) below w2 (by omega) hs0.out.rd hs0.out.ty
    replace hd1 := Lib.hid hd1
    go_wp2_with fail
    refine hd1.out.mono ?_
    rintro e W1 ⟨q1, G1, v1, rfl, hv1, hq1, hQ1, hr1, ht1, he1, hy1⟩
    have hs2 := hs0.out.draw hr1 ht1 he1 hy1
    replace hs2 := Lib.hid hs2
    have hv1' := hv1
    obtain ⟨a1, b1, A1, m1, d1, rfl, _⟩ := hv1'
    clear hr1 ht1 hy1 hd1
    replace hv1 := Lib.hid hv1
    replace he1 := Lib.hid he1
    have hd2 := ih.out G1 (q1) below W1 (by omega) hs2.out.rd hs2.out.ty
    replace hd2 := Lib.hid hd2
    go_wp2_with fail
    refine hd2.out.mono ?_
    rintro e W2 ⟨q2, G2, v2, rfl, hv2, hq2, hQ2, hr2, ht2, he2, hy2⟩
    have hs3 := hs2.out.draw hr2 ht2 he2 hy2
    have hsz2 := ht2.size
    replace hs3 := Lib.hid hs3
    have hv2' := hv2
    obtain ⟨a2, b2, A2, m2, d2, rfl, _⟩ := hv2'
    clear hr2 ht2 hy2 hd2
    replace hv2 := Lib.hid hv2
    replace he2 := Lib.hid he2
    have hd3 := ih.out G2 (q2) below W2 (by omega) hs3.out.rd hs3.out.ty
    replace hd3 := Lib.hid hd3
    go_wp2_with fail
    refine hd3.out.mono ?_
    rintro e W3 ⟨q3, G3, v3, rfl, hv3, hq3, hQ3, hr3, ht3, he3, hy3⟩
    have hs4 := hs3.out.draw hr3 ht3 he3 hy3
    replace hs4 := Lib.hid hs4
    have hv3' := hv3
    obtain ⟨a3, b3, A3, m3, d3, rfl, _⟩ := hv3'
    clear hr3 ht3 hy3 hd3
    replace hv3 := Lib.hid hv3
    replace he3 := Lib.hid he3
    have hr_le1 : W1.heap.size ≤ W2.heap.size := hsz2
    have hs' := hs4.out.row r 3 #[.int .i64 a1, .int .i64 b1, .slice A1 m1 d1, .int .i64 a2, .int .i64 b2, .slice A2 m2 d2, .int .i64 a3, .int .i64 b3, .slice A3 m3 d3] (row3 (hv1.out.ext (he2.out.trans he3.out (by have := hr_le1; omega)) (Nat.le_refl _)) (hv2.out.ext he3.out (Nat.le_refl _)) hv3.out)
    obtain ⟨x0, x1, x2, f0, f1, f2⟩ := hs4.out.cells
    have z2 := hs4.out.lt
    replace hs' := Lib.hid hs'
    clear hs2 hs3 hs4 hv1 he1 hv2 he2 hv3 he3 ih
    go_wp2_with fail
    exact hs'.out.done' z2 rfl rfl (tyv_row _ _ _ 3 4 _ (by omega) (by omega)) ⟨by omega, by omega⟩
  · have hpk := pick_calls R hR (p + 1 + 1) (by omega) 10 w2 hs0.out.rd
    replace hpk := Lib.hid hpk
    go_wp2_with fail
    refine hpk.out.mono ?_
    rintro e w3 ⟨k3, rfl, hk3, _, hr2, ht2⟩
    have hs1 := hs0.out.step hr2 ht2
    replace hs1 := Lib.hid hs1
    clear hpk hr2 ht2 hs0
    have hd1 := ih.out G (p + 1 + 1 + 1) below w3 (by omega) hs1.out.rd hs1.out.ty
    replace hd1 := Lib.hid hd1
    go_wp2_with fail
    refine hd1.out.mono ?_
    rintro e W1 ⟨q1, G1, v1, rfl, hv1, hq1, hQ1, hr1, ht1, he1, hy1⟩
    have hs2 := hs1.out.draw hr1 ht1 he1 hy1
    replace hs2 := Lib.hid hs2
    have hv1' := hv1
    obtain ⟨a1, b1, A1, m1, d1, rfl, _⟩ := hv1'
    clear hr1 ht1 hy1 hd1
    replace hv1 := Lib.hid hv1
    replace he1 := Lib.hid he1
    have hs' := hs2.out.row r 1 #[.int .i64 a1, .int .i64 b1, .slice A1 m1 d1] (row1 hv1.out)
    obtain ⟨x0, x1, x2, f0, f1, f2⟩ := hs2.out.cells
    have z2 := hs2.out.lt
    replace hs' := Lib.hid hs'
    clear hs2 hv1 he1 ih
    go_wp2_with fail
    exact hs'.out.done' z2 rfl rfl (tyv_row _ _ _ 1 5 _ (by omega) (by omega)) ⟨by omega, by omega⟩
end Go.Proofs.Ytpccgdkidnkppaa

set_option linter.unusedVariables false
set_option linter.unusedSimpArgs false
namespace Go.Proofs.Ytpccgdkidnkppaa
open Go Go.RowKit

def dom (G : Rows) (b : Nat) : Prop := ∃ x, G b = some x
theorem TyH.put {g B : Nat} {G : Rows} {w : World} (h : TyH g B G w) {b r m i : Nat} {x y z : Value} (hb : G b = some (r, m)) (hi : i < m) (hv : TyV G r (.agg #[x, y, z])) :
    TyH g B G (((w.setCell ⟨b, i * 3, none⟩ x).setCell ⟨b, i * 3 + 1, none⟩ y).setCell ⟨b, i * 3 + 2, none⟩ z) := by
  intro b' r' m' hb'
  obtain ⟨h1, h2, cs, h3, h4⟩ := h b' r' m' hb'
  by_cases e : b' = b
  · subst e
    rw [hb] at hb'; cases hb'
    refine ⟨h1, h2, _, setCell_block (setCell_block (setCell_block h3 _ x) _ y) _ z, fun j hj => ?_⟩
    by_cases e : j = i
    · subst e
      obtain ⟨a, b, c, k1, k2, k3, _⟩ := h4 j hi
      have l1 := (Array.getElem?_eq_some_iff.1 k1).1
      have l2 := (Array.getElem?_eq_some_iff.1 k2).1
      have l3 := (Array.getElem?_eq_some_iff.1 k3).1
      exact ⟨x, y, z, by simp [Array.getElem?_setIfInBounds, l1], by simp [Array.getElem?_setIfInBounds, l2], by simp [Array.getElem?_setIfInBounds, l3], hv⟩
    · obtain ⟨a, b, c, k1, k2, k3, k4⟩ := h4 j hj
      refine ⟨a, b, c, ?_, ?_, ?_, k4⟩
      · rw [Array.getElem?_setIfInBounds_ne (by omega), Array.getElem?_setIfInBounds_ne (by omega), Array.getElem?_setIfInBounds_ne (by omega)]; exact k1
      · rw [Array.getElem?_setIfInBounds_ne (by omega), Array.getElem?_setIfInBounds_ne (by omega), Array.getElem?_setIfInBounds_ne (by omega)]; exact k2
      · rw [Array.getElem?_setIfInBounds_ne (by omega), Array.getElem?_setIfInBounds_ne (by omega), Array.getElem?_setIfInBounds_ne (by omega)]; exact k3
  · exact ⟨h1, h2, cs, (setCell_far e).trans ((setCell_far e).trans ((setCell_far e).trans h3)), h4⟩

/-- the worlds in a run of l91Lower: the task's box and the result's block are the next ones -/
structure LSt (g B : Nat) (G : Rows) (w : World) (a b c : Value) (wr : World) : Prop where
  ty : TyH g B G wr
  turn : Turn (dom G) (dom G) w wr
  box : wr.heap[w.heap.size]? = some (.cells #[a, b, c] 48 (0, 0))
  res : wr.heap[w.heap.size + 1]? = some (.cells #[.int .i64 0, .int .i64 0, .slice none 0 0] 48 (0, 0))
  old : ∀ i, dom G i → i < w.heap.size
section
variable {g B : Nat} {G : Rows} {w w1 w2 : World} {a b c : Value}
theorem LSt.start (h : TyH g B G w) (a b c : Value) : LSt g B G w a b c ((w.alloc (.cells #[a, b, c] 48 (0, 0))).alloc (.cells #[.int .i64 0, .int .i64 0, .slice none 0 0] 48 (0, 0))) :=
  ⟨(h.alloc _).alloc _, ((Turn.refl _ _).alloc _).alloc _, (heap_old (by simp)).trans (heap_new rfl), heap_new (by simp), fun i ⟨x, hx⟩ => h.lt hx⟩
theorem LSt.step (h : LSt g B G w a b c w1) (ty : TyH g B G w2) (t : Turn (dom G) (dom G) w1 w2) : LSt g B G w a b c w2 :=
  ⟨ty, h.turn.trans t, (t.block _ (block_lt h.box) (fun hd => by have := h.old _ hd; omega)).trans h.box, (t.block _ (block_lt h.res) (fun hd => by have := h.old _ hd; omega)).trans h.res, h.old⟩
theorem LSt.drew (h : LSt g B G w a b c w1) : LSt g B G w a b c w1.drew := h.step h.ty ((Turn.refl _ _).drew)
theorem LSt.put (h : LSt g B G w a b c w1) {p r m i : Nat} {x y z : Value} (hb : G p = some (r, m)) (hi : i < m) (hv : TyV G r (.agg #[x, y, z])) :
    LSt g B G w a b c (((w1.setCell ⟨p, i * 3, none⟩ x).setCell ⟨p, i * 3 + 1, none⟩ y).setCell ⟨p, i * 3 + 2, none⟩ z) :=
  h.step (h.ty.put hb hi hv) (((setCell_turn (F := dom G) ⟨_, hb⟩ x).trans (setCell_turn (F := dom G) ⟨_, hb⟩ y)).trans (setCell_turn (F := dom G) ⟨_, hb⟩ z))
theorem LSt.cells (h : LSt g B G w a b c w1) : w1.cell? ⟨w.heap.size, 0, none⟩ = some a ∧ w1.cell? ⟨w.heap.size, 1, none⟩ = some b ∧ w1.cell? ⟨w.heap.size, 2, none⟩ = some c ∧
    w1.cell? ⟨w.heap.size + 1, 0, none⟩ = some (.int .i64 0) ∧ w1.cell? ⟨w.heap.size + 1, 1, none⟩ = some (.int .i64 0) ∧ w1.cell? ⟨w.heap.size + 1, 2, none⟩ = some (.slice none 0 0) ∧
    w1.frozen? ⟨w.heap.size + 1, 0, none⟩ = false ∧ w1.frozen? ⟨w.heap.size + 1, 1, none⟩ = false ∧ w1.frozen? ⟨w.heap.size + 1, 2, none⟩ = false ∧ w.heap.size + 1 < w1.heap.size :=
  ⟨cellm h.box 0, cellm h.box 1, cellm h.box 2, cellm h.res 0, cellm h.res 1, cellm h.res 2, frozenm h.res 0, frozenm h.res 1, frozenm h.res 2, block_lt h.res⟩
/-- what a run of l91Lower brings -/
def Lowers (g B : Nat) (G : Rows) (r : Nat) (w : World) (e : Ending) (w' : World) : Prop := ∃ v', e = .returned v' ∧ TyV G r v' ∧ TyH g B G w' ∧ Turn (dom G) (dom G) w w'
theorem LSt.done (h : LSt g B G w a b c w1) {r : Nat} {x y z : Value} {fn : Func} {t : Nat} {tmps : Array Value} (hr : fn.results = #[.cell t 48])
    (ht : tmps.getD t undef = .pointer (some ⟨w.heap.size + 1, 0, none⟩)) (hv : TyV G r (.agg #[x, y, z])) :
    bodyPost Try.prog fn (Lowers g B G r w) .ret ⟨tmps, []⟩ (((w1.setCell ⟨w.heap.size + 1, 0, none⟩ x).setCell ⟨w.heap.size + 1, 1, none⟩ y).setCell ⟨w.heap.size + 1, 2, none⟩ z) := by
  have t3 : Turn (· = w.heap.size + 1) (· = w.heap.size + 1) w1 (((w1.setCell ⟨w.heap.size + 1, 0, none⟩ x).setCell ⟨w.heap.size + 1, 1, none⟩ y).setCell ⟨w.heap.size + 1, 2, none⟩ z) :=
    ((setCell_turn (F := (· = w.heap.size + 1)) rfl x).trans (setCell_turn (F := (· = w.heap.size + 1)) rfl y)).trans (setCell_turn (F := (· = w.heap.size + 1)) rfl z)
  refine ret_task hr ht ((setCell_block (setCell_block (setCell_block h.res 0 x) 1 y) 2 z).trans rfl) ⟨_, rfl, hv, h.ty.turn t3 (fun b q hq e => ?_), ?_⟩
  · cases e; have := h.old _ ⟨_, hq⟩; omega
  · exact ⟨t3.os.trans h.turn.os, t3.tape.trans h.turn.tape, t3.output.trans h.turn.output, Nat.le_trans h.turn.size t3.size, fun i hi hF => (t3.block i (Nat.lt_of_lt_of_le hi h.turn.size) (by intro e; omega)).trans (h.turn.block i hi hF), h.turn.fresh⟩
end

set_option maxHeartbeats 2000000 in
theorem l91Lower_calls (g B : Nat) (G : Rows) (k : Int) : ∀ (r : Nat) (v : Value) (w : World), TyV G r v → TyH g B G w →
    Calls Try.prog 116 #[v, .int .i64 k] w (Lowers g B G r w) := by
  intro r
  induction r using Nat.strongRecOn with
  | ind r ih =>
  intro v w hv h
  have hv' := hv
  obtain ⟨kd, n, A, m, c, rfl, hm3, hmc, hcm, hk5, hrow⟩ := hv'
  have hs := LSt.start h (.int .i64 kd) (.int .i64 n) (.slice A m c)
  unfold maxLen at hcm
  replace ih := Lib.hid ih
  replace hs := Lib.hid hs
  replace hv := Lib.hid hv
  clear h
  by_cases e5 : kd = 5
  · subst e5
    have hm1 := hk5 rfl
    obtain ⟨b, r', rfl, hG, hr'⟩ := hrow.resolve_left (by omega)
    obtain ⟨_, _, cs, hb, hi⟩ := hs.out.ty b r' m hG
    obtain ⟨x, y, z, c0, c1, c2, hx⟩ := hi 0 (by omega)
    have hcall := ih.out r' hr' _ _ hx hs.out.ty
    have hx' := hx
    obtain ⟨xk, xn, xA, xm, xc, ex, _⟩ := hx'
    simp only [Value.agg.injEq, Array.mk.injEq, List.cons.injEq, and_true] at ex
    obtain ⟨rfl, rfl, rfl⟩ := ex
    have y0 := (cellm hb 0).trans c0
    have y1 := (cellm hb 1).trans c1
    have y2 := (cellm hb 2).trans c2
    have hbl := hs.out.old _ ⟨_, hG⟩
    rw [cell_al (by simp; omega), cell_al hbl] at y0 y1 y2
    replace hcall := Lib.hid hcall
    replace hG := Lib.hid hG
    clear hb hi hx c0 c1 c2
    go_enter Try.func116, Try.ntmps116
    go_wp2_with fail
    refine hcall.out.mono ?_
    rintro e w1 ⟨v', rfl, hv1, hy1, ht1⟩
    have hs1 := hs.out.step hy1 ht1
    have hv2 := hv1.ext (Ext.refl G 0) (Nat.le_of_lt hr')
    obtain ⟨xk, xn, xA, xm, xc, rfl, _⟩ := hv1
    obtain ⟨-, -, -, x0, x1, x2, f0, f1, f2, z1⟩ := hs1.cells
    replace hs1 := Lib.hid hs1
    replace hv2 := Lib.hid hv2
    clear hcall hs hv hrow y0 y1 y2 hy1 ht1
    go_wp2_with fail
    exact hs1.out.done rfl rfl hv2.out
  · have e1 : (kd == 5) = false := by simp [e5]
    go_enter Try.func116, Try.ntmps116
    go_wp2_with fail
    go_loopw [5] (fun i wr => ∃ (j : Nat), j ≤ m ∧ i = .int .i64 j ∧ Hid (LSt g B G w (.int .i64 kd) (.int .i64 n) (.slice A m c) wr)) (fun i _ => m - (intOf i).toNat)
    case atStart => exact ⟨0, Nat.zero_le _, rfl, hs⟩
    case round =>
      obtain ⟨j, hj, rfl, hL⟩ := hrel
      obtain ⟨b0, b1, b2, x0, x1, x2, f0, f1, f2, z1⟩ := hL.out.cells
      by_cases hlt : j < m
      · obtain ⟨b, r', rfl, hG, hr'⟩ := hrow.resolve_left (by omega)
        obtain ⟨_, _, cs, hb, hi⟩ := hL.out.ty b r' m hG
        obtain ⟨x, y, z, c0, c1, c2, hx⟩ := hi j hlt
        have hx' := hx
        obtain ⟨xk, xn, xA, xm, xc, ex, _⟩ := hx'
        simp only [Value.agg.injEq, Array.mk.injEq, List.cons.injEq, and_true] at ex
        obtain ⟨rfl, rfl, rfl⟩ := ex
        have hcall := ih.out r' hr' _ _ hx hL.out.drew.ty
        have y0 := (cellm hb (j * 3)).trans c0
        have y1 := (cellm hb (j * 3 + 1)).trans c1
        have y2 := (cellm hb (j * 3 + 2)).trans c2
        have hbl := block_lt hb
        replace hcall := Lib.hid hcall
        replace hG := Lib.hid hG
        clear hb hi hx c0 c1 c2
        go_wp2_with fail
        go_region_law (go_simp; go_at_call 116; refine hcall.out.mono ?_; rintro e w2 ⟨v', rfl, hv1, hy1, ht1⟩; have hL2 := hL.out.drew.step hy1 ht1; have b2' := hL2.cells.2.2.1; have hst := fun x y z hv => hL2.put (i := j) (x := x) (y := y) (z := z) hG.out hlt hv; obtain ⟨_, _, cs2, hb2, hi2⟩ := hy1 b r' m hG.out; obtain ⟨x', y', z', c0, c1, c2, _⟩ := hi2 j hlt; have g0 := (cellm hb2 (j * 3)).trans c0; have g1 := (cellm hb2 (j * 3 + 1)).trans c1; have g2 := (cellm hb2 (j * 3 + 2)).trans c2; have k0 := frozenm hb2 (j * 3); have k1 := frozenm hb2 (j * 3 + 1); have k2 := frozenm hb2 (j * 3 + 2); have hv2 := hv1; obtain ⟨nk, nn, nA, nm, nc, rfl, _⟩ := hv2; have hst2 := hst _ _ _ hv1; replace hst2 := Lib.hid hst2; clear hst hL2 hb2 hi2 c0 c1 c2 hv1 hy1 ht1 y0 y1 y2)
        all_goals
          go_wp2_with fail
          go_roundw
          case rel => exact ⟨j + 1, by omega, by go_num, hst2⟩
          case measure => simp [intOf]; omega
      · have ej : j = m := by omega
        subst ej
        go_wp2_with fail
        exact hL.out.done rfl rfl hv.out
end Go.Proofs.Ytpccgdkidnkppaa

set_option linter.unusedVariables false
set_option linter.unusedSimpArgs false
namespace Go.Proofs.Ytpccgdkidnkppaa
open Go Go.RowKit

def nb : Nat → Int
  | 0 => 1
  | r + 1 => 1 + 3 * nb r
theorem nb_pos : ∀ r, 1 ≤ nb r
  | 0 => by simp [nb]
  | r + 1 => by have := nb_pos r; simp only [nb]; omega
theorem nb_le : ∀ {a b : Nat}, a ≤ b → nb a ≤ nb b := by
  intro a b h
  induction h with
  | refl => exact Int.le_refl _
  | step _ ih => simp only [nb]; have := nb_pos a; rename_i m _; have := nb_pos m; omega
theorem nodesL_le {x : Int} : ∀ {ps : List Task}, (∀ t ∈ ps, nodes t ≤ x) → nodesL ps ≤ ps.length * x := by
  intro ps
  induction ps with
  | nil => intro _; simp [nodesL]
  | cons t ts ih =>
    intro h
    rw [nodesL]
    have h1 := h t (by simp)
    have h2 := ih (fun u hu => h u (by simp [hu]))
    simp only [List.length_cons, Int.natCast_add, Int.add_mul]
    omega
theorem TyV.reads {g B : Nat} {G : Rows} {w : World} (h : TyH g B G w) : ∀ (r : Nat) (v : Value), TyV G r v → ∃ T, TaskIs w.heap.size w v T ∧ nodes T ≤ nb r := by
  intro r
  induction r using Nat.strongRecOn with
  | ind r ih =>
  intro v hv
  obtain ⟨k, n, A, m, c, rfl, hm3, hmc, hcm, hk5, hrow⟩ := hv
  rcases hrow with rfl | ⟨b, r', rfl, hG, hr'⟩
  · refine ⟨.mk k n [], ?_, ?_⟩
    · rw [TaskIs]
      exact ⟨A, c, rfl, by simp, hcm, by rw [PartsIs]; trivial⟩
    · have := nb_pos r
      simp [nodes, nodesL]; omega
  · obtain ⟨_, _, cs, hb, hi⟩ := h b r' m hG
    have h1 : ∀ i, ∃ T, i < m → ∃ x y z, cs[i * 3]? = some x ∧ cs[i * 3 + 1]? = some y ∧ cs[i * 3 + 2]? = some z ∧ TaskIs w.heap.size w (.agg #[x, y, z]) T ∧ nodes T ≤ nb r' := by
      intro i
      by_cases hlt : i < m
      · obtain ⟨x, y, z, c0, c1, c2, hx⟩ := hi i hlt
        obtain ⟨T, hT⟩ := ih r' hr' _ hx
        exact ⟨T, fun _ => ⟨x, y, z, c0, c1, c2, hT⟩⟩
      · exact ⟨default, fun hh => (hlt hh).elim⟩
    obtain ⟨f, hf⟩ := Classical.axiomOfChoice h1
    refine ⟨.mk k n ((List.range m).map f), ?_, ?_⟩
    · rw [TaskIs]
      refine ⟨some ⟨b, 0, none⟩, c, by simp, by simpa using hmc, hcm, PartsIs.of_get (fun i hl => ?_)⟩
      have hl' : i < m := by simpa using hl
      obtain ⟨x, y, z, c0, c1, c2, hT, _⟩ := hf i hl'
      exact ⟨b, 0, x, y, z, rfl, block_lt hb, by rw [cellm hb]; simpa using c0, by rw [cellm hb]; simpa using c1, by rw [cellm hb]; simpa using c2, by simpa using hT⟩
    · obtain ⟨q, rfl⟩ : ∃ q, r = q + 1 := ⟨r - 1, by omega⟩
      have h2 : ∀ t ∈ (List.range m).map f, nodes t ≤ nb q := by
        intro t ht
        obtain ⟨i, hi, rfl⟩ := List.mem_map.1 ht
        obtain ⟨_, _, _, _, _, _, _, hn⟩ := hf i (by simpa using hi)
        have := nb_le (show r' ≤ q by omega)
        omega
      have h3 := nodesL_le h2
      have h4 := nb_pos q
      have h5 : (m : Int) * nb q ≤ 3 * nb q := Int.mul_le_mul_of_nonneg_right (by omega) (by omega)
      simp only [List.length_map, List.length_range] at h3
      simp only [nodes, nb]
      omega

theorem task0 (R : RdEnv) (hR : R.Good) : TaskDraws R 0 3 0 := fun G p below w hp h hG => task_zero R hR G p hp below w h hG
theorem task1 (R : RdEnv) (hR : R.Good) : TaskDraws R 1 12 1 := task_succ R hR 1 3 0 (by omega) (by omega) (by omega) (task0 R hR)
theorem task2 (R : RdEnv) (hR : R.Good) : TaskDraws R 2 39 2 := task_succ R hR 2 12 1 (by omega) (by omega) (by omega) (task1 R hR)
theorem task3 (R : RdEnv) (hR : R.Good) : TaskDraws R 3 120 3 := task_succ R hR 3 39 2 (by omega) (by omega) (by omega) (task2 R hR)

theorem DSt.up {R : RdEnv} {G G1 : Rows} {w w1 w2 : World} {p1 : Nat} (h : DSt R G w G1 p1 w1) (hb : Below w1.heap.size w1 w2) : DSt R G w G1 p1 w2 :=
  h.step (h.rd.up hb) (below_turn hb)

set_option maxHeartbeats 1000000 in
theorem l91Fit_calls (R : RdEnv) (hR : R.Good) (G : Rows) (p : Nat) (hp : p + 40 ≤ 1000000) (below : Int) (w : World) (h : RdAt R p w) (hG : TyH R.g R.B G w) :
    Calls Try.prog 115 #[.pointer (some ⟨R.g, 0, none⟩), .int .i64 below] w (DrawT R G p 40 2 w) := by
  have hs := DSt.start h hG
  have h1 := task2 R hR G p below _ (by omega) hs.rd hs.ty
  replace h1 := Lib.hid h1
  replace hs := Lib.hid hs
  clear h hG
  go_enter Try.func115, Try.ntmps115
  go_wp2_with fail
  refine h1.out.mono ?_
  rintro e w1 ⟨q, G1, v, rfl, hv, hq, hQ, hr, ht, he, hy⟩
  have hs1 := hs.out.draw hr ht he hy
  have hv' := hv
  obtain ⟨a, b, A, m, d, rfl, _⟩ := hv'
  have hs2 := hs1.up (below_al (Below.refl _ _) (.cells #[.int .i64 a, .int .i64 b, .slice A m d] 48 (0, 0)))
  obtain ⟨T, hT, hn⟩ := TyV.reads hs2.ty 2 _ hv
  cases T with
  | mk k' n' ps =>
  rw [TaskIs] at hT
  obtain ⟨A', c', e, hc, hcm, hps⟩ := hT
  simp only [Value.agg.injEq, Array.mk.injEq, List.cons.injEq, and_true, Value.int.injEq, true_and, Value.slice.injEq] at e
  obtain ⟨rfl, rfl, rfl, rfl, rfl⟩ := e
  have hok := specTaskOk_calls (.mk a b ps) A d _ _ _ (by simp [nb] at hn; omega) (Below.refl _ _) (Nat.le_refl _) hc hcm hps
  simp only [Task.kind, Task.n, Task.parts] at hok
  generalize okT (.mk a b ps) = ok at hok
  have hz := hs1.lt
  replace hok := Lib.hid hok
  replace hs1 := Lib.hid hs1
  replace hs2 := Lib.hid hs2
  replace hv := Lib.hid hv
  clear hr ht he hy h1 hs hps hn hc
  go_wp2_with fail
  refine hok.out.mono ?_
  rintro e w2 ⟨rfl, hb⟩
  have hs3 := hs2.out.up hb
  have y0 : w2.cell? ⟨w1.heap.size, 0, none⟩ = some (.int .i64 a) := (hb.cell (p := ⟨w1.heap.size, 0, none⟩) (by simp)).trans (by simp)
  have y1 : w2.cell? ⟨w1.heap.size, 1, none⟩ = some (.int .i64 b) := (hb.cell (p := ⟨w1.heap.size, 1, none⟩) (by simp)).trans (by simp)
  have y2 : w2.cell? ⟨w1.heap.size, 2, none⟩ = some (.slice A ps.length d) := (hb.cell (p := ⟨w1.heap.size, 2, none⟩) (by simp)).trans (by simp)
  have hpk := pick_calls R hR q (by omega) 10 w2 hs3.rd
  obtain ⟨x0, x1, x2, f0, f1, f2⟩ := hs3.cells
  have z2 := hs3.lt
  replace hs3 := Lib.hid hs3
  replace hpk := Lib.hid hpk
  clear hb hok hs1 hs2
  cases ok with
  | true =>
    go_wp2_with fail
    exact hs3.out.done rfl rfl hv.out ⟨by omega, by omega⟩
  | false =>
    go_wp2_with fail
    refine hpk.out.mono ?_
    rintro e w3 ⟨n3, rfl, _, _, hr2, ht2⟩
    have hs4 := hs3.out.step hr2 ht2
    obtain ⟨x0, x1, x2, f0, f1, f2⟩ := hs4.cells
    have z3 := hs4.lt
    replace hs4 := Lib.hid hs4
    clear hr2 ht2 hs3 hpk y0 y1 y2
    go_wp2_with fail
    exact hs4.out.done rfl rfl (tyv_leaf _ _ _ _ (by omega)) ⟨by omega, by omega⟩
end Go.Proofs.Ytpccgdkidnkppaa
