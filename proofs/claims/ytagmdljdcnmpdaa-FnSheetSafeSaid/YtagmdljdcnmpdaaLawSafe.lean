import Derived.Test.YtagmdljdcnmpdaaSafeI
import Derived.Test.YtagmdljdcnmpdaaSpecSafe
import Derived.Test.YtagmdljdcnmpdaaDrawSafe
import Derived.Deep.OwnRows
set_option linter.unusedVariables false
set_option linter.unusedSimpArgs false
namespace Go.Proofs.Ytagmdljdcnmpdaa
open Go Go.RowKit

theorem made_blk {α : Type} {f : α → Value} {T : TypeId} {w : World} {n : Nat} {z : α} {b : Nat} (hb : w.heap[b]? = some (.cells (madeCells #[f z] n) T (0, 0))) : RowBlk f T w b (List.replicate n z) := by
  unfold RowBlk
  rw [hb]
  congr 2
  apply Array.ext'
  apply List.ext_getElem
  · simp [madeCells]
  · intro i h1 h2
    simp [madeCells, Nat.mod_one]
theorem make_ints (n : Nat) (hn : n ≤ 1000000) : ∀ W : World, (Instr.makeSlice 27 (.int .i64 (n : Int)) (.int .i64 (n : Int))).run Try.prog W = .ok (.slice (some ⟨W.heap.size, 0, none⟩) n n) (W.alloc (.cells (madeCells #[.int .i64 0] n) 3)) :=
  fun W => run_make_row' 27 3 (.int .i64 0) 8 Try.underlying27 (by kernel_rfl) rfl .i64 .i64 n (by omega) (by omega) W
theorem make_bools (n : Nat) (hn : n ≤ 1000000) : ∀ W : World, (Instr.makeSlice 23 (.int .i64 (n : Int)) (.int .i64 (n : Int))).run Try.prog W = .ok (.slice (some ⟨W.heap.size, 0, none⟩) n n) (W.alloc (.cells (madeCells #[.bool false] n) 4)) :=
  fun W => run_make_row' 23 4 (.bool false) 1 Try.underlying23 (by kernel_rfl) rfl .i64 .i64 n (by omega) (by omega) W

/-- building all keys of whatever sheet: a truth; true if the sheet is safe -/
theorem buildAll_any (Am At Ai : Option Addr) (cm ct ci : Nat) (made : List Bool) (tasks : List Task) (inputs : List Int) (B : Nat) (w0 : World) (w : World) (hs : SheetAt B w0 Am cm At ct made tasks) (hi : IntsAt B w0 Ai inputs) (hli : inputs.length ≤ ci) (hci : ci ≤ maxLen)
    (hb : Below B w0 w) (hB : B ≤ w.heap.size) :
    Calls Try.prog 13 #[.agg #[.slice Am made.length cm, .slice At tasks.length ct], .slice Ai inputs.length ci] w fun e w' => ∃ v b, e = .returned (.tuple #[v, .bool b]) ∧ Below w.heap.size w w' ∧
      (safeP made tasks = true → takesOk made.length inputs = true → b = true) := by
  by_cases h : sheetOk made tasks = true ∧ takesOk made.length inputs = true
  · obtain ⟨h1, h2⟩ := h
    obtain ⟨tks, rfl, hS⟩ := ok_sh h1 h2
    have := buildAll_good ⟨Am, cm, At, ct, Ai, ci, B, w0⟩ ⟨made, tks, inputs⟩ ⟨hs, hi, hli, hci, hS⟩ w hb hB
    simp only [List.length_map]
    refine this.mono ?_
    rintro e w' ⟨v, rfl, hown, hw⟩
    exact ⟨v, _, rfl, hw, fun hsf _ => safe_build hS hsf⟩
  · have := buildAll_bad Am At Ai cm ct ci made tasks inputs B w0 w hs hi (Nat.le_trans hli hci) hb hB (fun h1 => by
      cases h2 : takesOk made.length inputs with
      | false => rfl
      | true => exact (h ⟨h1, h2⟩).elim)
    refine this.mono ?_
    rintro e w' ⟨rfl, hw⟩
    refine ⟨_, _, rfl, hw, fun hsf h2 => ?_⟩
    unfold safeP at hsf
    rw [Bool.and_eq_true] at hsf
    exact (h ⟨hsf.1, h2⟩).elim
theorem takes_rep {n : Nat} {z : Int} (hz : 0 ≤ z ∧ z ≤ 96) : takesOk n (List.replicate n z) = true := by
  simp only [takesOk, List.length_replicate, decide_true, Bool.true_and]
  rw [vals_iff]
  intro x hx
  rw [(List.mem_replicate.1 hx).2]; exact hz

set_option maxRecDepth 5000 in
set_option maxHeartbeats 4000000 in
theorem fnSheetSafe_calls (A : Option Addr) (c : Nat) (bytes : List Int) (w : World) (hx : RowAt (fun b : Int => Value.int .u8 b) w.heap.size w A bytes) (hl : bytes.length ≤ c) (hc : c ≤ maxLen) (hby : ∀ b ∈ bytes, 0 ≤ b ∧ b ≤ 255) :
    Calls Try.prog 4 #[.slice A bytes.length c] w fun e w' => e = .returned (.bool true) ∧ Below w.heap.size w w' := by
  have hcm := hc
  unfold maxLen at hcm
  by_cases hbig : 1048576 < bytes.length
  · clear hx hby
    go_enter Try.func4, Try.ntmps4
    go_wp2_with fail
    go_ret
    exact ⟨rfl, Below.refl _ _⟩
  have hdr := drawSheetSafe_calls A c bytes w.heap.size w w (Below.refl _ _) (Nat.le_refl _) hx hl hc hby
  replace hdr := Lib.hid hdr
  clear hx hby
  go_enter Try.func4, Try.ntmps4
  go_wp2_with fail
  refine hdr.out.mono ?_
  rintro e w1 ⟨Am, cm, At, ct, made, tasks, rfl, hs, hlt, h8, hnod, hb1⟩
  have hc1 := fun w2 (hw : Below w1.heap.size w1 w2) => sheetSafe_calls Am At cm ct made tasks w1.heap.size w1 w2 hw hw.size hs
  have hc2 := fun w2 (hw : Below w1.heap.size w1 w2) => specSheetSafe_calls Am At cm ct made tasks w1.heap.size w1 w2 hw hw.size hs (fun T hT => by have := hnod T hT; omega)
  have hc3 := fun (w3 w2 : World) (h3 : Below w1.heap.size w1 w3) (hw : Below w3.heap.size w3 w2) (Ai : Option Addr) (z : Int) (hi : IntsAt w3.heap.size w3 Ai (List.replicate made.length z)) =>
    buildAll_any Am At Ai cm ct made.length made tasks (List.replicate made.length z) w3.heap.size w3 w2 ⟨hs.lm, hs.mm, hs.lt, hs.mt, hs.made.up h3 h3.size, PartsIs.up h3 h3.size _ _ _ hs.tasks⟩ hi (by simp) (by unfold maxLen; omega) hw hw.size
  have hal := below_al (Below.refl w1.heap.size w1) (.cells #[.slice Am made.length cm, .slice At tasks.length ct] 26 (0, 0))
  have hmk := make_ints made.length (by omega)
  generalize safeP made tasks = sf at *
  replace hc1 := Lib.hid hc1
  replace hc2 := Lib.hid hc2
  replace hc3 := Lib.hid hc3
  replace hal := Lib.hid hal
  replace hb1 := Lib.hid hb1
  replace hlt := Lib.hid hlt
  clear hnod hs hdr
  go_wp2_with fail
  refine (hc1.out _ hal.out).mono ?_
  rintro e w2 ⟨rfl, h2⟩
  have x0 : w2.cell? ⟨w1.heap.size, 0, none⟩ = some (.slice Am made.length cm) := (h2.cell (p := ⟨w1.heap.size, 0, none⟩) (by simp)).trans (by simp)
  have x1 : w2.cell? ⟨w1.heap.size, 1, none⟩ = some (.slice At tasks.length ct) := (h2.cell (p := ⟨w1.heap.size, 1, none⟩) (by simp)).trans (by simp)
  have s2 : w1.heap.size < w2.heap.size := by have := h2.size; simp at this; omega
  have b2 : Below w1.heap.size w1 w2 := below_from h2
  replace b2 := Lib.hid b2
  clear h2
  go_wp2_with fail
  refine (hc2.out _ b2.out).mono ?_
  rintro e w3 ⟨rfl, h3⟩
  have y0 := kept_cell h3 s2 x0
  have y1 := kept_cell h3 s2 x1
  have s3 : w1.heap.size < w3.heap.size := by have := h3.size; omega
  have b3 := b2.out.trans (h3.mono (Nat.le_of_lt s2))
  have hneq : (sf != sf) = false := by cases sf <;> rfl
  replace b3 := Lib.hid b3
  clear h3 x0 x1 b2
  go_wp2_with fail
  go_loopw [8] (fun i wr => ∃ (j : Nat), j ≤ made.length ∧ i = .int .i64 j ∧ wr.cell? ⟨w1.heap.size, 0, none⟩ = some (.slice Am made.length cm) ∧ wr.cell? ⟨w1.heap.size, 1, none⟩ = some (.slice At tasks.length ct) ∧ Hid (RowBlk (fun n : Int => Value.int .i64 n) 3 wr w3.heap.size (List.replicate j 1 ++ List.replicate (made.length - j) 0)) ∧ Hid (Below w1.heap.size w1 wr)) (fun i _ => made.length - (intOf i).toNat)
  case atStart => exact ⟨0, by omega, rfl, (cell_al s3).trans y0, (cell_al s3).trans y1, Lib.hid (made_blk (z := (0 : Int)) (heap_new rfl)), Lib.hid (below_al' b3.out _ b3.out.size)⟩
  case round =>
    obtain ⟨j, hj, rfl, z0, z1, hR, hw⟩ := hrel
    have hz := hR.out.lt
    have hsz := hw.out.size
    by_cases hlt2 : j < made.length
    · have f0 := hR.out.frozen j
      have c0 := hR.out.cell (i := j) (by simp; omega)
      have hset := hR.out.set j 1
      have e : (List.replicate j (1 : Int) ++ List.replicate (made.length - j) 0).set j 1 = List.replicate (j + 1) 1 ++ List.replicate (made.length - (j + 1)) 0 := by
        rw [List.set_append_right _ _ (by simp)]
        rw [show made.length - j = (made.length - (j + 1)) + 1 by omega, List.replicate_succ, List.replicate_succ']
        simp
      rw [e] at hset
      have hne : w1.heap.size ≠ w3.heap.size := by omega
      have q0 : (wr.setCell ⟨w3.heap.size, j, none⟩ (.int .i64 1)).cell? ⟨w1.heap.size, 0, none⟩ = some (.slice Am made.length cm) := (World.cell?_of_block (setCell_far hne)).trans z0
      have q1 : (wr.setCell ⟨w3.heap.size, j, none⟩ (.int .i64 1)).cell? ⟨w1.heap.size, 1, none⟩ = some (.slice At tasks.length ct) := (World.cell?_of_block (setCell_far hne)).trans z1
      have hw2 : Below w1.heap.size w1 (wr.setCell ⟨w3.heap.size, j, none⟩ (.int .i64 1)) := hw.out.setCell (by simp; omega) _
      replace hset := Lib.hid hset
      replace hw2 := Lib.hid hw2
      replace q0 := Lib.hid q0
      replace q1 := Lib.hid q1
      replace e := Lib.hid e
      go_wp2_with fail
      go_roundw
      case rel => exact ⟨j + 1, by omega, by go_num, q0.out, q1.out, hset, hw2⟩
      case measure => simp [intOf]; omega
    · have e : j = made.length := by omega
      subst e
      have hR2 := hR.out
      rw [Nat.sub_self, List.replicate_zero, List.append_nil] at hR2
      have hi := hR2.row
      replace hR2 := Lib.hid hR2
      have s4 : w1.heap.size < wr.heap.size := by omega
      have hc4 := hc3.out (wr.drew.alloc (.cells (madeCells #[.int .i64 0] made.length) 3 (0, 0))) (wr.drew.alloc (.cells (madeCells #[.int .i64 0] made.length) 3 (0, 0))) ((below_al' hw.out.drew _ hsz)) (Below.refl _ _) (some ⟨wr.heap.size, 0, none⟩) 0 ((made_blk (f := fun n : Int => Value.int .i64 n) (z := (0 : Int)) (heap_new rfl)).row)
      replace hc4 := Lib.hid hc4
      replace hi := Lib.hid hi
      clear hR
      go_wp2_with fail
      go_region_held3 (fun w' => w'.cell? ⟨w1.heap.size, 0, none⟩ = some (.slice Am made.length cm) ∧ w'.cell? ⟨w1.heap.size, 1, none⟩ = some (.slice At tasks.length ct)) (first | exact ⟨k0, k1⟩ | exact ⟨z0, z1⟩ | exact ⟨(cell_al s4).trans z0, (cell_al s4).trans z1⟩)
        (first | (go_at_call 13; go_must (have hh := hc4.out; simp only [List.length_replicate] at hh; refine hh.mono ?_; rintro e w5 ⟨v, bb, rfl, h5, hbb⟩; have k0 : w5.cell? ⟨w1.heap.size, 0, none⟩ = some (.slice Am made.length cm) := kept_cell h5 (by simp; omega) ((cell_al s4).trans z0); have k1 : w5.cell? ⟨w1.heap.size, 1, none⟩ = some (.slice At tasks.length ct) := kept_cell h5 (by simp; omega) ((cell_al s4).trans z1); have b5 : Below wr.heap.size wr w5 := (below_al (Below.refl _ _).drew _).trans (h5.mono (by simp)); replace b5 := Lib.hid b5; replace hbb := Lib.hid hbb; clear h5)))
      all_goals
        have b6 : Below w1.heap.size w1 w5 := hw.out.trans (b5.out.mono hsz)
        have hc5 := hc3.out w5 w5 b6 (Below.refl _ _) (some ⟨w3.heap.size, 0, none⟩) 1 (hi.out.up b5.out b5.out.size)
        simp only [List.length_replicate] at hc5
        have hbb2 := fun h => hbb.out h (takes_rep (by omega))
        replace hc5 := Lib.hid hc5
        replace b6 := Lib.hid b6
        replace hbb2 := Lib.hid hbb2
        go_wp2_with fail
        refine hc5.out.mono ?_
        rintro e w6 ⟨v6, b6', rfl, h6, hbb6⟩
        have hbb7 := fun h => hbb6 h (takes_rep (by omega))
        have b7 : Below w1.heap.size w1 w6 := below_up' b6.out b6.out.size h6
        replace b7 := Lib.hid b7
        clear hbb6 h6
        cases sf with
        | false =>
          clear hbb7
          go_wp2_with fail
          go_ret
          exact ⟨rfl, hb1.out.trans (b7.out.mono hb1.out.size)⟩
        | true =>
          have e1 := hbb2.out rfl
          have e2 := hbb7 rfl
          subst e1 e2
          clear hbb7
          go_wp2_with fail
          go_ret
          exact ⟨rfl, hb1.out.trans (b7.out.mono hb1.out.size)⟩
end Go.Proofs.Ytagmdljdcnmpdaa
