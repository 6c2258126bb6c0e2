import Derived.Test.YtkbblekengdhaaaPk10Told
import Derived.Test.YtkbblekengdhaaaPk11Told
import Derived.Test.YtkbblekengdhaaaPk22Told
set_option linter.unusedVariables false
set_option linter.unusedSimpArgs false
namespace Go.Proofs.Ytkbblekengdhaaa
open Go Go.RowKit

/-- both sides give the same, the program's in memory of its own -/
def BothToldRuns (made : List Bool) (tasks : List Task) (x1 : List (List Int)) (x2 : List Int) (x3 : List Int) (r : List Int × Bool) : Prop :=
  (∀ (w : World) (Am At : Option Addr) (cm ct : Nat) (A1 : Option Addr) (c1 : Nat) (A2 : Option Addr) (c2 : Nat) (A3 : Option Addr) (c3 : Nat), SheetAt w.heap.size w Am cm At ct made tasks → RowsAt w.heap.size w A1 x1 → x1.length ≤ c1 → c1 ≤ maxLen → IntsAt w.heap.size w A2 x2 → x2.length ≤ c2 → c2 ≤ maxLen → IntsAt w.heap.size w A3 x3 → x3.length ≤ c3 → c3 ≤ maxLen → Calls Try.prog 15 #[.agg #[.slice Am made.length cm, .slice At tasks.length ct], .slice A1 x1.length c1, .slice A2 x2.length c2, .slice A3 x3.length c3] w (fun e w' => GivesOwn w.heap.size r e w w')) ∧
  (∀ (w : World) (Am At : Option Addr) (cm ct : Nat) (A1 : Option Addr) (c1 : Nat) (A2 : Option Addr) (c2 : Nat) (A3 : Option Addr) (c3 : Nat), SheetAt w.heap.size w Am cm At ct made tasks → RowsAt w.heap.size w A1 x1 → x1.length ≤ c1 → c1 ≤ maxLen → IntsAt w.heap.size w A2 x2 → x2.length ≤ c2 → c2 ≤ maxLen → IntsAt w.heap.size w A3 x3 → x3.length ≤ c3 → c3 ≤ maxLen → Calls Try.prog 16 #[.agg #[.slice Am made.length cm, .slice At tasks.length ct], .slice A1 x1.length c1, .slice A2 x2.length c2, .slice A3 x3.length c3] w (fun e w' => GivesList r e w w'))
set_option maxRecDepth 10000 in
set_option maxHeartbeats 16000000 in
theorem fnExactToldRuns_calls (Am At : Option Addr) (cm ct : Nat) (made : List Bool) (tasks : List Task) (A1 : Option Addr) (c1 : Nat) (x1 : List (List Int)) (A2 : Option Addr) (c2 : Nat) (x2 : List Int) (A3 : Option Addr) (c3 : Nat) (x3 : List Int) (w : World) (hs : SheetAt w.heap.size w Am cm At ct made tasks) (hi1 : RowsAt w.heap.size w A1 x1) (hl1 : x1.length ≤ c1) (hc1 : c1 ≤ maxLen) (hi2 : IntsAt w.heap.size w A2 x2) (hl2 : x2.length ≤ c2) (hc2 : c2 ≤ maxLen) (hi3 : IntsAt w.heap.size w A3 x3) (hl3 : x3.length ≤ c3) (hc3 : c3 ≤ maxLen) 
    (H : (made.length : Int) + nodesL tasks ≤ 1048576 → x2.length ≤ 1048576 → x3.length ≤ 1048576 → rowsL x1 ≤ 1048576 → ∃ r, r.1.length ≤ 1000000 ∧ BothToldRuns made tasks x1 x2 x3 r) :
    Calls Try.prog 7 #[.agg #[.slice Am made.length cm, .slice At tasks.length ct], .slice A1 x1.length c1, .slice A2 x2.length c2, .slice A3 x3.length c3] w fun e w' => e = .returned (.bool true) ∧ Below w.heap.size w w' := by
  have hsl := Nat.le_trans hs.lt hs.mt
  have hml := Nat.le_trans hs.lm hs.mm
  have hb2 := Nat.le_trans hl2 hc2
  have hb3 := Nat.le_trans hl3 hc3
  unfold maxLen at hsl hml hb2 hb3
  by_cases big2 : 1048576 < x2.length
  · clear H hs
    go_enter Try.func7, Try.ntmps7
    go_wp2_with fail
    go_ret
    exact ⟨rfl, below_al (Below.refl _ _) _⟩
  by_cases big3 : 1048576 < x3.length
  · clear H hs
    go_enter Try.func7, Try.ntmps7
    go_wp2_with fail
    go_ret
    exact ⟨rfl, below_al (Below.refl _ _) _⟩
  have li2 : x2.length ≤ 1048576 := by omega
  have li3 : x3.length ≤ 1048576 := by omega
  have hsz := fun w1 (hw : Below w.heap.size w w1) => szSheet_calls Am At made.length cm ct tasks 1048576 w.heap.size w w1 hw hw.size (Nat.le_trans hs.lm hs.mm) hs.lt hs.mt hs.tasks (by omega) (by omega)
  have hto := fun (h1 : made.length ≤ 1048576) (h2 : nodesL tasks ≤ 1048576) w1 (hw : Below w.heap.size w w1) => toSheet_calls Am At cm ct made tasks w.heap.size w w1 hw hw.size h1 hs.made h2 hs.lt hs.mt hs.tasks
  have hti2 := fun w1 (hw : Below w.heap.size w w1) => toIntS_calls A2 c2 x2 w.heap.size w w1 hw hw.size li2 hi2
  have hti3 := fun w1 (hw : Below w.heap.size w w1) => toIntS_calls A3 c3 x3 w.heap.size w w1 hw hw.size li3 hi3
  have hsz1 := fun (r : Int) w1 (hw : Below w.heap.size w w1) (a : 0 ≤ r) (b : r ≤ 1048576) => szIntSS_calls A1 c1 x1 r w.heap.size w w1 hw hw.size (Nat.le_trans hl1 hc1) hi1 a b
  have hti1 := fun (ho : rowsL x1 ≤ 1048576) w1 (hw : Below w.heap.size w w1) => toIntSS_calls A1 c1 x1 w.heap.size w w1 hw hw.size (by have := rowsL_len x1; omega) (fun x hx => by have := rowsL_mem x1 x hx; omega) hi1
  replace hsz := Lib.hid hsz
  replace hto := Lib.hid hto
  replace H := Lib.hid H
  replace hti2 := Lib.hid hti2
  replace hti3 := Lib.hid hti3
  replace hti1 := Lib.hid hti1
  replace hsz1 := Lib.hid hsz1
  clear hs hi2 hi3 hi1
  go_enter Try.func7, Try.ntmps7
  go_wp2_with fail
  refine (hsz.out _ (below_al (Below.refl _ _) _)).mono ?_
  rintro e w1 ⟨r, rfl, hz, h1⟩
  have bx1 := (h1.block w.heap.size (by simp)).trans (heap_new rfl)
  have b1 := below_from h1
  have s1 : w.heap.size < w1.heap.size := by have := h1.size; simp at this; omega
  replace b1 := Lib.hid b1
  clear h1 hsz
  rcases hz with rfl | ⟨hz0, hz1⟩
  · go_wp2_with fail
    go_ret
    exact ⟨rfl, b1.out⟩
  have hn : ¬ r < 0 := by omega
  have hnp := nodesL_pos tasks
  have htl := parts_len tasks
  have hm1 : made.length ≤ 1048576 := by omega
  have hn1 : nodesL tasks ≤ 1048576 := by omega
  have hszl : (made.length : Int) + nodesL tasks ≤ 1048576 := by omega
  have hto := hto.out hm1 hn1
  replace hz1 := Lib.hid hz1
  replace hto := Lib.hid hto
  replace bx1 := Lib.hid bx1
  have y0 : w1.cell? ⟨w.heap.size, 0, none⟩ = some (.slice Am made.length cm) := (cellm bx1.out 0).trans rfl
  have y1 : w1.cell? ⟨w.heap.size, 1, none⟩ = some (.slice At tasks.length ct) := (cellm bx1.out 1).trans rfl
  have hzi := hsz1.out r w1 b1.out (by omega) (by have := hz1.out; omega)
  replace hzi := Lib.hid hzi
  go_wp2_with fail
  refine hzi.out.mono ?_
  rintro e w2 ⟨r1, rfl, hz, h2⟩
  clear hzi hsz1
  have s2 : w1.heap.size ≤ w2.heap.size := h2.size
  have b2 := below_up b1.out h2
  have bx2 := (h2.block _ (block_lt bx1.out)).trans bx1.out
  replace b2 := Lib.hid b2
  replace bx2 := Lib.hid bx2
  clear y0 y1
  have y0 : w2.cell? ⟨w.heap.size, 0, none⟩ = some (.slice Am made.length cm) := (cellm bx2.out 0).trans rfl
  have y1 : w2.cell? ⟨w.heap.size, 1, none⟩ = some (.slice At tasks.length ct) := (cellm bx2.out 1).trans rfl
  clear h2 b1 bx1
  rcases hz with rfl | ⟨hz1a, hz1b⟩
  · go_wp2_with fail
    go_ret
    exact ⟨rfl, b2.out⟩
  have hng1 : ¬ r1 < 0 := by omega
  have hop1 := rowsL_pos x1
  have lo1 : rowsL x1 ≤ 1048576 := by have := hz1.out; omega
  have ll1 : (x1.length : Int) ≤ rowsL x1 := rowsL_len x1
  have hsm1 : ∀ x ∈ x1, x.length ≤ 1048576 := fun x hx => by have := rowsL_mem x1 x hx; omega
  have hsu1 : sumL x1 ≤ 1048576 := by unfold rowsL at lo1; omega
  have hsp1 := sumL_pos x1
  replace hsm1 := Lib.hid hsm1
  replace hz1b := Lib.hid hz1b
  obtain ⟨R, hRl, hIm, hSp⟩ := H.out hszl li2 li3 lo1
  obtain ⟨rl, rb⟩ := R
  dsimp only at hRl
  replace hIm := Lib.hid hIm
  replace hSp := Lib.hid hSp
  clear H
  have hti1 := hti1.out lo1
  replace hti1 := Lib.hid hti1
  go_wp2_with fail
  refine (hto.out _ b2.out).mono ?_
  rintro e w3 ⟨bma, bta, mida, rfl, hSa, h3⟩
  have s3 : w2.heap.size ≤ w3.heap.size := h3.size
  have b3 := below_up b2.out h3
  have bx3 := (h3.block _ (block_lt bx2.out)).trans bx2.out
  replace b3 := Lib.hid b3
  replace bx3 := Lib.hid bx3
  clear y0 y1
  have y0 : w3.cell? ⟨w.heap.size, 0, none⟩ = some (.slice Am made.length cm) := (cellm bx3.out 0).trans rfl
  have y1 : w3.cell? ⟨w.heap.size, 1, none⟩ = some (.slice At tasks.length ct) := (cellm bx3.out 1).trans rfl
  clear h3 b2 bx2
  have ea : w3.heap.size ≤ w3.heap.size := Nat.le_refl _
  replace hSa := Lib.hid hSa
  go_wp2_with fail
  refine (hti1.out _ b3.out).mono ?_
  rintro e w4 ⟨rfl, ⟨vs1a, hI1a⟩, sx4, h4⟩
  have s4 : w3.heap.size ≤ w4.heap.size := h4.size
  have b4 := below_up b3.out h4
  have bx4 := (h4.block _ (block_lt bx3.out)).trans bx3.out
  replace b4 := Lib.hid b4
  replace bx4 := Lib.hid bx4
  clear y0 y1
  have y0 : w4.cell? ⟨w.heap.size, 0, none⟩ = some (.slice Am made.length cm) := (cellm bx4.out 0).trans rfl
  have y1 : w4.cell? ⟨w.heap.size, 1, none⟩ = some (.slice At tasks.length ct) := (cellm bx4.out 1).trans rfl
  replace hSa := Lib.hid (hSa.out.kept (fun b q1 q2 => h4.block b (by omega)) (Nat.le_refl _))
  clear h4 b3 bx3
  replace hI1a := Lib.hid hI1a
  go_wp2_with fail
  refine (hti2.out _ b4.out).mono ?_
  rintro e w5 ⟨rfl, hI2a, h5⟩
  have s5 : w4.heap.size ≤ w5.heap.size := h5.size
  have b5 := below_up b4.out h5
  have bx5 := (h5.block _ (block_lt bx4.out)).trans bx4.out
  replace b5 := Lib.hid b5
  replace bx5 := Lib.hid bx5
  clear y0 y1
  have y0 : w5.cell? ⟨w.heap.size, 0, none⟩ = some (.slice Am made.length cm) := (cellm bx5.out 0).trans rfl
  have y1 : w5.cell? ⟨w.heap.size, 1, none⟩ = some (.slice At tasks.length ct) := (cellm bx5.out 1).trans rfl
  replace hSa := Lib.hid (hSa.out.kept (fun b q1 q2 => h5.block b (by omega)) (Nat.le_refl _))
  replace hI1a := Lib.hid (hI1a.out.keep (fun b q1 q2 => h5.block b (by omega)))
  clear h5 b4 bx4
  replace hI2a := Lib.hid hI2a
  go_wp2_with fail
  refine (hti3.out _ b5.out).mono ?_
  rintro e w6 ⟨rfl, hI3a, h6⟩
  have s6 : w5.heap.size ≤ w6.heap.size := h6.size
  have b6 := below_up b5.out h6
  have bx6 := (h6.block _ (block_lt bx5.out)).trans bx5.out
  replace b6 := Lib.hid b6
  replace bx6 := Lib.hid bx6
  clear y0 y1
  have y0 : w6.cell? ⟨w.heap.size, 0, none⟩ = some (.slice Am made.length cm) := (cellm bx6.out 0).trans rfl
  have y1 : w6.cell? ⟨w.heap.size, 1, none⟩ = some (.slice At tasks.length ct) := (cellm bx6.out 1).trans rfl
  replace hSa := Lib.hid (hSa.out.kept (fun b q1 q2 => h6.block b (by omega)) (Nat.le_refl _))
  replace hI1a := Lib.hid (hI1a.out.keep (fun b q1 q2 => h6.block b (by omega)))
  replace hI2a := Lib.hid (hI2a.out.turn (h6.block _ hI2a.out.lt))
  clear h6 b5 bx5
  replace hI3a := Lib.hid hI3a
  have hsp := hSp.out w6 (some ⟨bma, 0, none⟩) (some ⟨bta, 0, none⟩) made.length tasks.length (some ⟨w3.heap.size, 0, none⟩) x1.length (some ⟨w4.heap.size, 0, none⟩) x2.length (some ⟨w5.heap.size, 0, none⟩) x3.length (hSa.out.at (by omega) (by unfold maxLen; omega) (by unfold maxLen; omega)) hI1a.out.rowsAt (Nat.le_refl _) (by unfold maxLen; omega) hI2a.out.row (Nat.le_refl _) (by unfold maxLen; omega) hI3a.out.row (Nat.le_refl _) (by unfold maxLen; omega)
  replace hsp := Lib.hid hsp
  go_wp2_with fail
  refine hsp.out.mono ?_
  rintro e w7 ⟨Aw, cw, rfl, hw1, hw2, hW, h7⟩
  clear hsp hSp
  dsimp only at hw1 hW ⊢
  have s7 : w6.heap.size ≤ w7.heap.size := h7.size
  have b7 := below_up b6.out h7
  have bx7 := (h7.block _ (block_lt bx6.out)).trans bx6.out
  replace b7 := Lib.hid b7
  replace bx7 := Lib.hid bx7
  clear y0 y1
  have y0 : w7.cell? ⟨w.heap.size, 0, none⟩ = some (.slice Am made.length cm) := (cellm bx7.out 0).trans rfl
  have y1 : w7.cell? ⟨w.heap.size, 1, none⟩ = some (.slice At tasks.length ct) := (cellm bx7.out 1).trans rfl
  clear h7 b6 bx6
  replace hW := Lib.hid hW
  go_wp2_with fail
  refine (hto.out _ b7.out).mono ?_
  rintro e w8 ⟨bmx, btx, midx, rfl, hSx, h8⟩
  have s8 : w7.heap.size ≤ w8.heap.size := h8.size
  have b8 := below_up b7.out h8
  have bx8 := (h8.block _ (block_lt bx7.out)).trans bx7.out
  replace b8 := Lib.hid b8
  replace bx8 := Lib.hid bx8
  clear y0 y1
  have y0 : w8.cell? ⟨w.heap.size, 0, none⟩ = some (.slice Am made.length cm) := (cellm bx8.out 0).trans rfl
  have y1 : w8.cell? ⟨w.heap.size, 1, none⟩ = some (.slice At tasks.length ct) := (cellm bx8.out 1).trans rfl
  replace hW := Lib.hid (hW.out.up (h8.mono (by omega)) (Nat.le_refl _))
  clear h8 b7 bx7
  have hXb : (w8.alloc (.cells #[.slice (some ⟨bmx, 0, none⟩) made.length made.length, .slice (some ⟨btx, 0, none⟩) tasks.length tasks.length] 26 (0, 0))).heap[w8.heap.size]? = some (.cells #[.slice (some ⟨bmx, 0, none⟩) made.length made.length, .slice (some ⟨btx, 0, none⟩) tasks.length tasks.length] 26 (0, 0)) := heap_new rfl
  obtain ⟨w9, hw9⟩ : ∃ w9, w9 = w8.alloc (.cells #[.slice (some ⟨bmx, 0, none⟩) made.length made.length, .slice (some ⟨btx, 0, none⟩) tasks.length tasks.length] 26 (0, 0)) := ⟨_, rfl⟩
  have h9 : Below w8.heap.size w8 w9 := by rw [hw9]; exact below_al (Below.refl _ _) _
  have sx9 : w8.heap.size < w9.heap.size := by rw [hw9]; simp
  have xsz : w9.heap.size = w8.heap.size + 1 := by rw [hw9]; simp
  rw [← hw9] at hXb
  replace hw9 := Lib.hid hw9
  replace hXb := Lib.hid hXb
  replace xsz := Lib.hid xsz
  replace hSx := Lib.hid hSx
  have s9 : w8.heap.size ≤ w9.heap.size := h9.size
  have b9 := below_up b8.out h9
  have bx9 := (h9.block _ (block_lt bx8.out)).trans bx8.out
  replace b9 := Lib.hid b9
  replace bx9 := Lib.hid bx9
  clear y0 y1
  have y0 : w9.cell? ⟨w.heap.size, 0, none⟩ = some (.slice Am made.length cm) := (cellm bx9.out 0).trans rfl
  have y1 : w9.cell? ⟨w.heap.size, 1, none⟩ = some (.slice At tasks.length ct) := (cellm bx9.out 1).trans rfl
  replace hW := Lib.hid (hW.out.up (h9.mono (by omega)) (Nat.le_refl _))
  replace hSx := Lib.hid (hSx.out.kept (fun b q1 q2 => h9.block b (by omega)) (Nat.le_refl _))
  clear h9 b8 bx8
  go_wp2_with fail
  have hcc := (hti1.out _ b9.out)
  rw [hw9.out] at hcc
  refine hcc.mono ?_
  clear hcc
  rw [← hw9.out]
  rintro e w10 ⟨rfl, ⟨vs1x, hI1x⟩, sx10, h10⟩
  have s10 : w9.heap.size ≤ w10.heap.size := h10.size
  have b10 := below_up b9.out h10
  have bx10 := (h10.block _ (block_lt bx9.out)).trans bx9.out
  replace b10 := Lib.hid b10
  replace bx10 := Lib.hid bx10
  clear y0 y1
  have y0 : w10.cell? ⟨w.heap.size, 0, none⟩ = some (.slice Am made.length cm) := (cellm bx10.out 0).trans rfl
  have y1 : w10.cell? ⟨w.heap.size, 1, none⟩ = some (.slice At tasks.length ct) := (cellm bx10.out 1).trans rfl
  replace hW := Lib.hid (hW.out.up (h10.mono (by omega)) (Nat.le_refl _))
  replace hSx := Lib.hid (hSx.out.kept (fun b q1 q2 => h10.block b (by omega)) (Nat.le_refl _))
  replace hXb := Lib.hid ((h10.block _ (block_lt hXb.out)).trans hXb.out)
  clear h10 b9 bx9
  replace hI1x := Lib.hid hI1x
  go_wp2_with fail
  refine (hti2.out _ b10.out).mono ?_
  rintro e w11 ⟨rfl, hI2x, h11⟩
  have sx11 : w10.heap.size < w11.heap.size := hI2x.lt
  have s11 : w10.heap.size ≤ w11.heap.size := h11.size
  have b11 := below_up b10.out h11
  have bx11 := (h11.block _ (block_lt bx10.out)).trans bx10.out
  replace b11 := Lib.hid b11
  replace bx11 := Lib.hid bx11
  clear y0 y1
  have y0 : w11.cell? ⟨w.heap.size, 0, none⟩ = some (.slice Am made.length cm) := (cellm bx11.out 0).trans rfl
  have y1 : w11.cell? ⟨w.heap.size, 1, none⟩ = some (.slice At tasks.length ct) := (cellm bx11.out 1).trans rfl
  replace hW := Lib.hid (hW.out.up (h11.mono (by omega)) (Nat.le_refl _))
  replace hSx := Lib.hid (hSx.out.kept (fun b q1 q2 => h11.block b (by omega)) (Nat.le_refl _))
  replace hXb := Lib.hid ((h11.block _ (block_lt hXb.out)).trans hXb.out)
  replace hI1x := Lib.hid (hI1x.out.keep (fun b q1 q2 => h11.block b (by omega)))
  clear h11 b10 bx10
  replace hI2x := Lib.hid hI2x
  go_wp2_with fail
  refine (hti3.out _ b11.out).mono ?_
  rintro e w12 ⟨rfl, hI3x, h12⟩
  have sx12 : w11.heap.size < w12.heap.size := hI3x.lt
  have s12 : w11.heap.size ≤ w12.heap.size := h12.size
  have b12 := below_up b11.out h12
  have bx12 := (h12.block _ (block_lt bx11.out)).trans bx11.out
  replace b12 := Lib.hid b12
  replace bx12 := Lib.hid bx12
  clear y0 y1
  have y0 : w12.cell? ⟨w.heap.size, 0, none⟩ = some (.slice Am made.length cm) := (cellm bx12.out 0).trans rfl
  have y1 : w12.cell? ⟨w.heap.size, 1, none⟩ = some (.slice At tasks.length ct) := (cellm bx12.out 1).trans rfl
  replace hW := Lib.hid (hW.out.up (h12.mono (by omega)) (Nat.le_refl _))
  replace hSx := Lib.hid (hSx.out.kept (fun b q1 q2 => h12.block b (by omega)) (Nat.le_refl _))
  replace hXb := Lib.hid ((h12.block _ (block_lt hXb.out)).trans hXb.out)
  replace hI1x := Lib.hid (hI1x.out.keep (fun b q1 q2 => h12.block b (by omega)))
  replace hI2x := Lib.hid (hI2x.out.turn (h12.block _ hI2x.out.lt))
  clear h12 b11 bx11
  replace hI3x := Lib.hid hI3x
  have u0 : w12.cell? ⟨w8.heap.size, 0, none⟩ = some (.slice (some ⟨bmx, 0, none⟩) made.length made.length) := (cellm hXb.out 0).trans rfl
  have u1 : w12.cell? ⟨w8.heap.size, 1, none⟩ = some (.slice (some ⟨btx, 0, none⟩) tasks.length tasks.length) := (cellm hXb.out 1).trans rfl
  have him := hIm.out w12 (some ⟨bmx, 0, none⟩) (some ⟨btx, 0, none⟩) made.length tasks.length (some ⟨w9.heap.size, 0, none⟩) x1.length (some ⟨w10.heap.size, 0, none⟩) x2.length (some ⟨w11.heap.size, 0, none⟩) x3.length (hSx.out.at (by omega) (by unfold maxLen; omega) (by unfold maxLen; omega)) hI1x.out.rowsAt (Nat.le_refl _) (by unfold maxLen; omega) hI2x.out.row (Nat.le_refl _) (by unfold maxLen; omega) hI3x.out.row (Nat.le_refl _) (by unfold maxLen; omega)
  replace him := Lib.hid him
  go_wp2_with fail
  refine him.out.mono ?_
  rintro e w13 ⟨g0, rfl, hG, h13⟩
  clear him
  dsimp only at hG ⊢
  have s13 : w12.heap.size ≤ w13.heap.size := h13.size
  have b13 := below_up b12.out h13
  have bx13 := (h13.block _ (block_lt bx12.out)).trans bx12.out
  replace b13 := Lib.hid b13
  replace bx13 := Lib.hid bx13
  clear y0 y1
  have y0 : w13.cell? ⟨w.heap.size, 0, none⟩ = some (.slice Am made.length cm) := (cellm bx13.out 0).trans rfl
  have y1 : w13.cell? ⟨w.heap.size, 1, none⟩ = some (.slice At tasks.length ct) := (cellm bx13.out 1).trans rfl
  replace hW := Lib.hid (hW.out.up (h13.mono (by omega)) (Nat.le_refl _))
  replace hSx := Lib.hid (hSx.out.kept (fun b q1 q2 => h13.block b (by omega)) (Nat.le_refl _))
  replace hXb := Lib.hid ((h13.block _ (block_lt hXb.out)).trans hXb.out)
  replace hI1x := Lib.hid (hI1x.out.keep (fun b q1 q2 => h13.block b (by omega)))
  replace hI2x := Lib.hid (hI2x.out.turn (h13.block _ hI2x.out.lt))
  replace hI3x := Lib.hid (hI3x.out.turn (h13.block _ hI3x.out.lt))
  clear h13 b12 bx12
  replace hG := Lib.hid hG
  clear u0 u1
  have u0 : w13.cell? ⟨w8.heap.size, 0, none⟩ = some (.slice (some ⟨bmx, 0, none⟩) made.length made.length) := (cellm hXb.out 0).trans rfl
  have u1 : w13.cell? ⟨w8.heap.size, 1, none⟩ = some (.slice (some ⟨btx, 0, none⟩) tasks.length tasks.length) := (cellm hXb.out 1).trans rfl
  obtain ⟨Ag, cg, hg0, hg1, hg2, -⟩ := ownsRow_ints hG.out
  subst hg0
  unfold maxLen at hg2 hw2
  have hneq : (rb != rb) = false := by cases rb <;> rfl
  have heq := eqIntS_same (Ag) (Aw) cg cw rl w13 (by unfold maxLen; omega) (ownsRow_ints_of hG.out) (hW.out.up (Below.refl _ _) (by omega))
  replace heq := Lib.hid heq
  go_wp2_with fail
  refine heq.out.mono ?_
  rintro e w14 ⟨rfl, h14⟩
  clear heq
  have s14 : w13.heap.size ≤ w14.heap.size := h14.size
  have b14 := below_up b13.out h14
  have bx14 := (h14.block _ (block_lt bx13.out)).trans bx13.out
  replace b14 := Lib.hid b14
  replace bx14 := Lib.hid bx14
  clear y0 y1
  have y0 : w14.cell? ⟨w.heap.size, 0, none⟩ = some (.slice Am made.length cm) := (cellm bx14.out 0).trans rfl
  have y1 : w14.cell? ⟨w.heap.size, 1, none⟩ = some (.slice At tasks.length ct) := (cellm bx14.out 1).trans rfl
  replace hW := Lib.hid (hW.out.up (h14.mono (by omega)) (Nat.le_refl _))
  replace hSx := Lib.hid (hSx.out.kept (fun b q1 q2 => h14.block b (by omega)) (Nat.le_refl _))
  replace hXb := Lib.hid ((h14.block _ (block_lt hXb.out)).trans hXb.out)
  replace hI1x := Lib.hid (hI1x.out.keep (fun b q1 q2 => h14.block b (by omega)))
  replace hI2x := Lib.hid (hI2x.out.turn (h14.block _ hI2x.out.lt))
  replace hI3x := Lib.hid (hI3x.out.turn (h14.block _ hI3x.out.lt))
  replace hG := Lib.hid (ownsRow_block hG.out (fun b hb => by have q1 := (hG.out.lt b hb).1; have q2 := (hG.out.lt b hb).2; exact h14.block b q2))
  clear h14 b13 bx13
  clear u0 u1
  have u0 : w14.cell? ⟨w8.heap.size, 0, none⟩ = some (.slice (some ⟨bmx, 0, none⟩) made.length made.length) := (cellm hXb.out 0).trans rfl
  have u1 : w14.cell? ⟨w8.heap.size, 1, none⟩ = some (.slice (some ⟨btx, 0, none⟩) tasks.length tasks.length) := (cellm hXb.out 1).trans rfl
  have htoq := hto.out w14.drew b14.out.drew
  replace htoq := Lib.hid htoq
  go_wp2_with fail
  go_region_held3 (fun w' => w'.cell? ⟨w.heap.size, 0, none⟩ = some (.slice Am made.length cm) ∧ w'.cell? ⟨w.heap.size, 1, none⟩ = some (.slice At tasks.length ct) ∧ w'.cell? ⟨w8.heap.size, 0, none⟩ = some (.slice (some ⟨bmx, 0, none⟩) made.length made.length) ∧ w'.cell? ⟨w8.heap.size, 1, none⟩ = some (.slice (some ⟨btx, 0, none⟩) tasks.length tasks.length))
    (first | exact ⟨l0, l1, l2, l3⟩ | exact ⟨k0, k1, k2, k3⟩ | exact ⟨y0, y1, u0, u1⟩)
    (first
      | (go_at_call 24; go_must (refine htoq.out.mono ?_; rintro e w15 ⟨bmc, btc, midc, rfl, hSc, h15⟩; replace h15 : Below w14.heap.size w14 w15 := (Below.refl _ _).drew.trans h15; have s15 : w14.heap.size ≤ w15.heap.size := h15.size; have hSx2 := hSx.out.kept (hi' := w15.heap.size) (fun b q1 q2 => h15.block b (Nat.lt_of_lt_of_le q2 (by omega))) (by omega); have k0 := kept_cell h15 (block_lt bx14.out) y0; have k1 := kept_cell h15 (block_lt bx14.out) y1; have k2 := kept_cell h15 (block_lt hXb.out) u0; have k3 := kept_cell h15 (block_lt hXb.out) u1; have heqs := eqSheet_same (some ⟨bmx, 0, none⟩) (some ⟨btx, 0, none⟩) (some ⟨bmc, 0, none⟩) (some ⟨btc, 0, none⟩) made.length tasks.length made.length tasks.length made tasks w15 (hSx2.at (Nat.le_refl _) (by unfold maxLen; omega) (by unfold maxLen; omega)) (hSc.at (Nat.le_refl _) (by unfold maxLen; omega) (by unfold maxLen; omega)); replace heqs := Lib.hid heqs; replace h15 := Lib.hid h15; clear hSc hSx2))
      | (go_at_call 27; refine heqs.out.mono ?_; rintro e w16 ⟨rfl, h16⟩; have l0 := kept_cell h16 (by have := block_lt bx14.out; omega) k0; have l1 := kept_cell h16 (by have := block_lt bx14.out; omega) k1; have l2 := kept_cell h16 (by have := block_lt hXb.out; omega) k2; have l3 := kept_cell h16 (by have := block_lt hXb.out; omega) k3))
  all_goals
    have h16 : Below w14.heap.size w14 w16 := (h15.out).trans (h16.mono h15.out.size)
    clear k0 k1 k2 k3 l0 l1 l2 l3 heqs
    have s16 : w14.heap.size ≤ w16.heap.size := h16.size
    have b16 := below_up b14.out h16
    have bx16 := (h16.block _ (block_lt bx14.out)).trans bx14.out
    replace b16 := Lib.hid b16
    replace bx16 := Lib.hid bx16
    clear y0 y1
    have y0 : w16.cell? ⟨w.heap.size, 0, none⟩ = some (.slice Am made.length cm) := (cellm bx16.out 0).trans rfl
    have y1 : w16.cell? ⟨w.heap.size, 1, none⟩ = some (.slice At tasks.length ct) := (cellm bx16.out 1).trans rfl
    replace hW := Lib.hid (hW.out.up (h16.mono (by omega)) (Nat.le_refl _))
    replace hSx := Lib.hid (hSx.out.kept (fun b q1 q2 => h16.block b (by omega)) (Nat.le_refl _))
    replace hXb := Lib.hid ((h16.block _ (block_lt hXb.out)).trans hXb.out)
    replace hI1x := Lib.hid (hI1x.out.keep (fun b q1 q2 => h16.block b (by omega)))
    replace hI2x := Lib.hid (hI2x.out.turn (h16.block _ hI2x.out.lt))
    replace hI3x := Lib.hid (hI3x.out.turn (h16.block _ hI3x.out.lt))
    replace hG := Lib.hid (ownsRow_block hG.out (fun b hb => by have q1 := (hG.out.lt b hb).1; have q2 := (hG.out.lt b hb).2; exact h16.block b q2))
    clear h16
    clear u0 u1
    have u0 : w16.cell? ⟨w8.heap.size, 0, none⟩ = some (.slice (some ⟨bmx, 0, none⟩) made.length made.length) := (cellm hXb.out 0).trans rfl
    have u1 : w16.cell? ⟨w8.heap.size, 1, none⟩ = some (.slice (some ⟨btx, 0, none⟩) tasks.length tasks.length) := (cellm hXb.out 1).trans rfl
    go_wp2_with fail
    refine (hti1.out _ b16.out).mono ?_
    rintro e w17 ⟨rfl, ⟨vs1c, hI1c⟩, sx17, h17⟩
    have s17 : w16.heap.size ≤ w17.heap.size := h17.size
    have b17 := below_up b16.out h17
    have bx17 := (h17.block _ (block_lt bx16.out)).trans bx16.out
    replace b17 := Lib.hid b17
    replace bx17 := Lib.hid bx17
    clear y0 y1
    have y0 : w17.cell? ⟨w.heap.size, 0, none⟩ = some (.slice Am made.length cm) := (cellm bx17.out 0).trans rfl
    have y1 : w17.cell? ⟨w.heap.size, 1, none⟩ = some (.slice At tasks.length ct) := (cellm bx17.out 1).trans rfl
    replace hW := Lib.hid (hW.out.up (h17.mono (by omega)) (Nat.le_refl _))
    replace hSx := Lib.hid (hSx.out.kept (fun b q1 q2 => h17.block b (by omega)) (Nat.le_refl _))
    replace hXb := Lib.hid ((h17.block _ (block_lt hXb.out)).trans hXb.out)
    replace hI1x := Lib.hid (hI1x.out.keep (fun b q1 q2 => h17.block b (by omega)))
    replace hI2x := Lib.hid (hI2x.out.turn (h17.block _ hI2x.out.lt))
    replace hI3x := Lib.hid (hI3x.out.turn (h17.block _ hI3x.out.lt))
    replace hG := Lib.hid (ownsRow_block hG.out (fun b hb => by have q1 := (hG.out.lt b hb).1; have q2 := (hG.out.lt b hb).2; exact h17.block b q2))
    clear h17 b16 bx16
    clear u0 u1
    have u0 : w17.cell? ⟨w8.heap.size, 0, none⟩ = some (.slice (some ⟨bmx, 0, none⟩) made.length made.length) := (cellm hXb.out 0).trans rfl
    have u1 : w17.cell? ⟨w8.heap.size, 1, none⟩ = some (.slice (some ⟨btx, 0, none⟩) tasks.length tasks.length) := (cellm hXb.out 1).trans rfl
    have heq := eqIntSS_same (some ⟨w9.heap.size, 0, none⟩) x1.length (some ⟨w16.heap.size, 0, none⟩) x1.length x1 w17 hI1x.out.rowsAt hI1c.rowsAt (by omega) hsm1.out
    replace heq := Lib.hid heq
    clear hI1c
    go_wp2_with fail
    refine heq.out.mono ?_
    rintro e w18 ⟨rfl, h18⟩
    clear heq
    have s18 : w17.heap.size ≤ w18.heap.size := h18.size
    have b18 := below_up b17.out h18
    have bx18 := (h18.block _ (block_lt bx17.out)).trans bx17.out
    replace b18 := Lib.hid b18
    replace bx18 := Lib.hid bx18
    clear y0 y1
    have y0 : w18.cell? ⟨w.heap.size, 0, none⟩ = some (.slice Am made.length cm) := (cellm bx18.out 0).trans rfl
    have y1 : w18.cell? ⟨w.heap.size, 1, none⟩ = some (.slice At tasks.length ct) := (cellm bx18.out 1).trans rfl
    replace hW := Lib.hid (hW.out.up (h18.mono (by omega)) (Nat.le_refl _))
    replace hSx := Lib.hid (hSx.out.kept (fun b q1 q2 => h18.block b (by omega)) (Nat.le_refl _))
    replace hXb := Lib.hid ((h18.block _ (block_lt hXb.out)).trans hXb.out)
    replace hI1x := Lib.hid (hI1x.out.keep (fun b q1 q2 => h18.block b (by omega)))
    replace hI2x := Lib.hid (hI2x.out.turn (h18.block _ hI2x.out.lt))
    replace hI3x := Lib.hid (hI3x.out.turn (h18.block _ hI3x.out.lt))
    replace hG := Lib.hid (ownsRow_block hG.out (fun b hb => by have q1 := (hG.out.lt b hb).1; have q2 := (hG.out.lt b hb).2; exact h18.block b q2))
    clear h18 b17 bx17
    clear u0 u1
    have u0 : w18.cell? ⟨w8.heap.size, 0, none⟩ = some (.slice (some ⟨bmx, 0, none⟩) made.length made.length) := (cellm hXb.out 0).trans rfl
    have u1 : w18.cell? ⟨w8.heap.size, 1, none⟩ = some (.slice (some ⟨btx, 0, none⟩) tasks.length tasks.length) := (cellm hXb.out 1).trans rfl
    go_wp2_with fail
    refine (hti2.out _ b18.out).mono ?_
    rintro e w19 ⟨rfl, hI2c, h19⟩
    have s19 : w18.heap.size ≤ w19.heap.size := h19.size
    have b19 := below_up b18.out h19
    have bx19 := (h19.block _ (block_lt bx18.out)).trans bx18.out
    replace b19 := Lib.hid b19
    replace bx19 := Lib.hid bx19
    clear y0 y1
    have y0 : w19.cell? ⟨w.heap.size, 0, none⟩ = some (.slice Am made.length cm) := (cellm bx19.out 0).trans rfl
    have y1 : w19.cell? ⟨w.heap.size, 1, none⟩ = some (.slice At tasks.length ct) := (cellm bx19.out 1).trans rfl
    replace hW := Lib.hid (hW.out.up (h19.mono (by omega)) (Nat.le_refl _))
    replace hSx := Lib.hid (hSx.out.kept (fun b q1 q2 => h19.block b (by omega)) (Nat.le_refl _))
    replace hXb := Lib.hid ((h19.block _ (block_lt hXb.out)).trans hXb.out)
    replace hI1x := Lib.hid (hI1x.out.keep (fun b q1 q2 => h19.block b (by omega)))
    replace hI2x := Lib.hid (hI2x.out.turn (h19.block _ hI2x.out.lt))
    replace hI3x := Lib.hid (hI3x.out.turn (h19.block _ hI3x.out.lt))
    replace hG := Lib.hid (ownsRow_block hG.out (fun b hb => by have q1 := (hG.out.lt b hb).1; have q2 := (hG.out.lt b hb).2; exact h19.block b q2))
    clear h19 b18 bx18
    clear u0 u1
    have u0 : w19.cell? ⟨w8.heap.size, 0, none⟩ = some (.slice (some ⟨bmx, 0, none⟩) made.length made.length) := (cellm hXb.out 0).trans rfl
    have u1 : w19.cell? ⟨w8.heap.size, 1, none⟩ = some (.slice (some ⟨btx, 0, none⟩) tasks.length tasks.length) := (cellm hXb.out 1).trans rfl
    have heq := eqIntS_same (some ⟨w10.heap.size, 0, none⟩) (some ⟨w18.heap.size, 0, none⟩) x2.length x2.length x2 w19 (by unfold maxLen; omega) hI2x.out.row hI2c.row
    replace heq := Lib.hid heq
    clear hI2c
    go_wp2_with fail
    refine heq.out.mono ?_
    rintro e w20 ⟨rfl, h20⟩
    clear heq
    have s20 : w19.heap.size ≤ w20.heap.size := h20.size
    have b20 := below_up b19.out h20
    have bx20 := (h20.block _ (block_lt bx19.out)).trans bx19.out
    replace b20 := Lib.hid b20
    replace bx20 := Lib.hid bx20
    clear y0 y1
    have y0 : w20.cell? ⟨w.heap.size, 0, none⟩ = some (.slice Am made.length cm) := (cellm bx20.out 0).trans rfl
    have y1 : w20.cell? ⟨w.heap.size, 1, none⟩ = some (.slice At tasks.length ct) := (cellm bx20.out 1).trans rfl
    replace hW := Lib.hid (hW.out.up (h20.mono (by omega)) (Nat.le_refl _))
    replace hSx := Lib.hid (hSx.out.kept (fun b q1 q2 => h20.block b (by omega)) (Nat.le_refl _))
    replace hXb := Lib.hid ((h20.block _ (block_lt hXb.out)).trans hXb.out)
    replace hI1x := Lib.hid (hI1x.out.keep (fun b q1 q2 => h20.block b (by omega)))
    replace hI2x := Lib.hid (hI2x.out.turn (h20.block _ hI2x.out.lt))
    replace hI3x := Lib.hid (hI3x.out.turn (h20.block _ hI3x.out.lt))
    replace hG := Lib.hid (ownsRow_block hG.out (fun b hb => by have q1 := (hG.out.lt b hb).1; have q2 := (hG.out.lt b hb).2; exact h20.block b q2))
    clear h20 b19 bx19
    clear u0 u1
    have u0 : w20.cell? ⟨w8.heap.size, 0, none⟩ = some (.slice (some ⟨bmx, 0, none⟩) made.length made.length) := (cellm hXb.out 0).trans rfl
    have u1 : w20.cell? ⟨w8.heap.size, 1, none⟩ = some (.slice (some ⟨btx, 0, none⟩) tasks.length tasks.length) := (cellm hXb.out 1).trans rfl
    go_wp2_with fail
    refine (hti3.out _ b20.out).mono ?_
    rintro e w21 ⟨rfl, hI3c, h21⟩
    have s21 : w20.heap.size ≤ w21.heap.size := h21.size
    have b21 := below_up b20.out h21
    have bx21 := (h21.block _ (block_lt bx20.out)).trans bx20.out
    replace b21 := Lib.hid b21
    replace bx21 := Lib.hid bx21
    clear y0 y1
    have y0 : w21.cell? ⟨w.heap.size, 0, none⟩ = some (.slice Am made.length cm) := (cellm bx21.out 0).trans rfl
    have y1 : w21.cell? ⟨w.heap.size, 1, none⟩ = some (.slice At tasks.length ct) := (cellm bx21.out 1).trans rfl
    replace hW := Lib.hid (hW.out.up (h21.mono (by omega)) (Nat.le_refl _))
    replace hSx := Lib.hid (hSx.out.kept (fun b q1 q2 => h21.block b (by omega)) (Nat.le_refl _))
    replace hXb := Lib.hid ((h21.block _ (block_lt hXb.out)).trans hXb.out)
    replace hI1x := Lib.hid (hI1x.out.keep (fun b q1 q2 => h21.block b (by omega)))
    replace hI2x := Lib.hid (hI2x.out.turn (h21.block _ hI2x.out.lt))
    replace hI3x := Lib.hid (hI3x.out.turn (h21.block _ hI3x.out.lt))
    replace hG := Lib.hid (ownsRow_block hG.out (fun b hb => by have q1 := (hG.out.lt b hb).1; have q2 := (hG.out.lt b hb).2; exact h21.block b q2))
    clear h21 b20 bx20
    clear u0 u1
    have u0 : w21.cell? ⟨w8.heap.size, 0, none⟩ = some (.slice (some ⟨bmx, 0, none⟩) made.length made.length) := (cellm hXb.out 0).trans rfl
    have u1 : w21.cell? ⟨w8.heap.size, 1, none⟩ = some (.slice (some ⟨btx, 0, none⟩) tasks.length tasks.length) := (cellm hXb.out 1).trans rfl
    have heq := eqIntS_same (some ⟨w11.heap.size, 0, none⟩) (some ⟨w20.heap.size, 0, none⟩) x3.length x3.length x3 w21 (by unfold maxLen; omega) hI3x.out.row hI3c.row
    replace heq := Lib.hid heq
    clear hI3c
    go_wp2_with fail
    refine heq.out.mono ?_
    rintro e w22 ⟨rfl, h22⟩
    clear heq
    have s22 : w21.heap.size ≤ w22.heap.size := h22.size
    have b22 := below_up b21.out h22
    have bx22 := (h22.block _ (block_lt bx21.out)).trans bx21.out
    replace b22 := Lib.hid b22
    replace bx22 := Lib.hid bx22
    clear y0 y1
    have y0 : w22.cell? ⟨w.heap.size, 0, none⟩ = some (.slice Am made.length cm) := (cellm bx22.out 0).trans rfl
    have y1 : w22.cell? ⟨w.heap.size, 1, none⟩ = some (.slice At tasks.length ct) := (cellm bx22.out 1).trans rfl
    replace hW := Lib.hid (hW.out.up (h22.mono (by omega)) (Nat.le_refl _))
    replace hSx := Lib.hid (hSx.out.kept (fun b q1 q2 => h22.block b (by omega)) (Nat.le_refl _))
    replace hXb := Lib.hid ((h22.block _ (block_lt hXb.out)).trans hXb.out)
    replace hI1x := Lib.hid (hI1x.out.keep (fun b q1 q2 => h22.block b (by omega)))
    replace hI2x := Lib.hid (hI2x.out.turn (h22.block _ hI2x.out.lt))
    replace hI3x := Lib.hid (hI3x.out.turn (h22.block _ hI3x.out.lt))
    replace hG := Lib.hid (ownsRow_block hG.out (fun b hb => by have q1 := (hG.out.lt b hb).1; have q2 := (hG.out.lt b hb).2; exact h22.block b q2))
    clear h22 b21 bx21
    clear u0 u1
    have u0 : w22.cell? ⟨w8.heap.size, 0, none⟩ = some (.slice (some ⟨bmx, 0, none⟩) made.length made.length) := (cellm hXb.out 0).trans rfl
    have u1 : w22.cell? ⟨w8.heap.size, 1, none⟩ = some (.slice (some ⟨btx, 0, none⟩) tasks.length tasks.length) := (cellm hXb.out 1).trans rfl
    have hmk := markSheet_calls w7.heap.size midx w8.heap.size bmx btx made tasks 1 w22 hSx.out (by omega) hm1 hn1 (by omega) (by omega)
    replace hmk := Lib.hid hmk
    go_wp2_with fail
    refine hmk.out.mono ?_
    rintro e w23 ⟨q23, rfl, p23, r23, h23⟩
    clear hmk hSx
    clear u0 u1
    have s23 : w22.heap.size ≤ w23.heap.size := h23.size
    have b23 : Below w.heap.size w w23 := b22.out.trans (h23.below (by omega) (fun i hi => by have := hi.1; omega))
    have bx23 := (h23.block _ (block_lt bx22.out) (by omega)).trans bx22.out
    replace b23 := Lib.hid b23
    replace bx23 := Lib.hid bx23
    clear y0 y1
    have y0 : w23.cell? ⟨w.heap.size, 0, none⟩ = some (.slice Am made.length cm) := (cellm bx23.out 0).trans rfl
    have y1 : w23.cell? ⟨w.heap.size, 1, none⟩ = some (.slice At tasks.length ct) := (cellm bx23.out 1).trans rfl
    replace hW := Lib.hid (hW.out.up (h23.below (by omega) (fun i hi => by have := hi.1; omega)) (Nat.le_refl _))
    replace hI1x := Lib.hid (hI1x.out.keep (fun b q1 q2 => h23.block b (by omega) (by omega)))
    replace hI2x := Lib.hid (hI2x.out.turn (h23.block _ hI2x.out.lt (by omega)))
    replace hI3x := Lib.hid (hI3x.out.turn (h23.block _ hI3x.out.lt (by omega)))
    replace hG := Lib.hid (ownsRow_block hG.out (fun b hb => by have q1 := (hG.out.lt b hb).1; have q2 := (hG.out.lt b hb).2; exact h23.block b q2 (by omega)))
    clear h23 b22 bx22
    have hmk := markIntSS_calls w9.heap.size w10.heap.size (.slice (some ⟨w9.heap.size, 0, none⟩) x1.length x1.length) vs1x x1 q23 w23 hI1x.out (by omega) (by omega)
    replace hmk := Lib.hid hmk
    go_wp2_with fail
    refine hmk.out.mono ?_
    rintro e w24 ⟨rfl, -, h24⟩
    clear hmk hI1x
    obtain ⟨q24, hq24⟩ : ∃ q24, q24 = q23 + sumL x1 := ⟨_, rfl⟩
    have p24 : 1 ≤ q24 := by omega
    have r24 : q24 ≤ 22000000 := by omega
    rw [← hq24]
    replace hq24 := Lib.hid hq24
    have s24 : w23.heap.size ≤ w24.heap.size := h24.size
    have b24 : Below w.heap.size w w24 := b23.out.trans (h24.below (by omega) (fun i hi => by have := hi.1; omega))
    have bx24 := (h24.block _ (block_lt bx23.out) (by omega)).trans bx23.out
    replace b24 := Lib.hid b24
    replace bx24 := Lib.hid bx24
    clear y0 y1
    have y0 : w24.cell? ⟨w.heap.size, 0, none⟩ = some (.slice Am made.length cm) := (cellm bx24.out 0).trans rfl
    have y1 : w24.cell? ⟨w.heap.size, 1, none⟩ = some (.slice At tasks.length ct) := (cellm bx24.out 1).trans rfl
    replace hW := Lib.hid (hW.out.up (h24.below (by omega) (fun i hi => by have := hi.1; omega)) (Nat.le_refl _))
    replace hI2x := Lib.hid (hI2x.out.turn (h24.block _ hI2x.out.lt (by omega)))
    replace hI3x := Lib.hid (hI3x.out.turn (h24.block _ hI3x.out.lt (by omega)))
    replace hG := Lib.hid (ownsRow_block hG.out (fun b hb => by have q1 := (hG.out.lt b hb).1; have q2 := (hG.out.lt b hb).2; exact h24.block b q2 (by omega)))
    clear h24 b23 bx23
    have hmk := markIntS_calls w10.heap.size (.slice (some ⟨w10.heap.size, 0, none⟩) x2.length x2.length) x2 q24 w24 (hI2x.out.owns (Nat.le_refl _) (by unfold maxLen; omega)) (by omega) (by omega)
    replace hmk := Lib.hid hmk
    go_wp2_with fail
    refine hmk.out.mono ?_
    rintro e w25 ⟨rfl, -, h25⟩
    clear hmk hI2x
    obtain ⟨q25, hq25⟩ : ∃ q25, q25 = q24 + (x2.length : Int) := ⟨_, rfl⟩
    have p25 : 1 ≤ q25 := by omega
    have r25 : q25 ≤ 24000000 := by omega
    rw [← hq25]
    replace hq25 := Lib.hid hq25
    have s25 : w24.heap.size ≤ w25.heap.size := h25.size
    have b25 : Below w.heap.size w w25 := b24.out.trans (h25.below (by omega) (fun i hi => by have hi : w10.heap.size = i := Option.some.inj hi; omega))
    have bx25 := (h25.block _ (block_lt bx24.out) (by (intro e; have e : w10.heap.size = _ := Option.some.inj e; omega))).trans bx24.out
    replace b25 := Lib.hid b25
    replace bx25 := Lib.hid bx25
    clear y0 y1
    have y0 : w25.cell? ⟨w.heap.size, 0, none⟩ = some (.slice Am made.length cm) := (cellm bx25.out 0).trans rfl
    have y1 : w25.cell? ⟨w.heap.size, 1, none⟩ = some (.slice At tasks.length ct) := (cellm bx25.out 1).trans rfl
    replace hW := Lib.hid (hW.out.up (h25.below (by omega) (fun i hi => by have hi : w10.heap.size = i := Option.some.inj hi; omega)) (Nat.le_refl _))
    replace hI3x := Lib.hid (hI3x.out.turn (h25.block _ hI3x.out.lt (by (intro e; have e : w10.heap.size = _ := Option.some.inj e; omega))))
    replace hG := Lib.hid (ownsRow_block hG.out (fun b hb => by have q1 := (hG.out.lt b hb).1; have q2 := (hG.out.lt b hb).2; exact h25.block b q2 (by (intro e; have e : w10.heap.size = _ := Option.some.inj e; omega))))
    clear h25 b24 bx24
    have hmk := markIntS_calls w11.heap.size (.slice (some ⟨w11.heap.size, 0, none⟩) x3.length x3.length) x3 q25 w25 (hI3x.out.owns (Nat.le_refl _) (by unfold maxLen; omega)) (by omega) (by omega)
    replace hmk := Lib.hid hmk
    go_wp2_with fail
    refine hmk.out.mono ?_
    rintro e w26 ⟨rfl, -, h26⟩
    clear hmk hI3x
    obtain ⟨q26, hq26⟩ : ∃ q26, q26 = q25 + (x3.length : Int) := ⟨_, rfl⟩
    have p26 : 1 ≤ q26 := by omega
    have r26 : q26 ≤ 26000000 := by omega
    rw [← hq26]
    replace hq26 := Lib.hid hq26
    have s26 : w25.heap.size ≤ w26.heap.size := h26.size
    have b26 : Below w.heap.size w w26 := b25.out.trans (h26.below (by omega) (fun i hi => by have hi : w11.heap.size = i := Option.some.inj hi; omega))
    have bx26 := (h26.block _ (block_lt bx25.out) (by (intro e; have e : w11.heap.size = _ := Option.some.inj e; omega))).trans bx25.out
    replace b26 := Lib.hid b26
    replace bx26 := Lib.hid bx26
    clear y0 y1
    have y0 : w26.cell? ⟨w.heap.size, 0, none⟩ = some (.slice Am made.length cm) := (cellm bx26.out 0).trans rfl
    have y1 : w26.cell? ⟨w.heap.size, 1, none⟩ = some (.slice At tasks.length ct) := (cellm bx26.out 1).trans rfl
    replace hW := Lib.hid (hW.out.up (h26.below (by omega) (fun i hi => by have hi : w11.heap.size = i := Option.some.inj hi; omega)) (Nat.le_refl _))
    replace hG := Lib.hid (ownsRow_block hG.out (fun b hb => by have q1 := (hG.out.lt b hb).1; have q2 := (hG.out.lt b hb).2; exact h26.block b q2 (by (intro e; have e : w11.heap.size = _ := Option.some.inj e; omega))))
    clear h26 b25 bx25
    have hnq : ¬ q26 < 0 := by omega
    have heq := eqIntS_same (Ag) (Aw) cg cw rl w26 (by unfold maxLen; omega) (ownsRow_ints_of hG.out) (hW.out.up (Below.refl _ _) (by omega))
    replace heq := Lib.hid heq
    go_wp2_with fail
    refine heq.out.mono ?_
    rintro e w27 ⟨rfl, h27⟩
    clear heq
    have s27 : w26.heap.size ≤ w27.heap.size := h27.size
    have b27 := below_up b26.out h27
    have bx27 := (h27.block _ (block_lt bx26.out)).trans bx26.out
    replace b27 := Lib.hid b27
    replace bx27 := Lib.hid bx27
    clear y0 y1
    have y0 : w27.cell? ⟨w.heap.size, 0, none⟩ = some (.slice Am made.length cm) := (cellm bx27.out 0).trans rfl
    have y1 : w27.cell? ⟨w.heap.size, 1, none⟩ = some (.slice At tasks.length ct) := (cellm bx27.out 1).trans rfl
    replace hW := Lib.hid (hW.out.up (h27.mono (by omega)) (Nat.le_refl _))
    replace hG := Lib.hid (ownsRow_block hG.out (fun b hb => by have q1 := (hG.out.lt b hb).1; have q2 := (hG.out.lt b hb).2; exact h27.block b q2))
    clear h27 b26 bx26
    have hmk := markIntS_calls w12.heap.size (.slice Ag rl.length cg) rl 1 w27 hG.out (by omega) (by omega)
    replace hmk := Lib.hid hmk
    go_wp2_with fail
    refine hmk.out.mono ?_
    rintro e w28 ⟨rfl, hG2, h28⟩
    have hlt := fun b => hG.out.lt b
    replace hlt := Lib.hid hlt
    clear hmk
    have s28 : w27.heap.size ≤ w28.heap.size := h28.size
    have b28 : Below w.heap.size w w28 := b27.out.trans (h28.below (by omega) (fun i hi => by have := (hlt.out i hi).1; omega))
    have bx28 := (h28.block _ (block_lt bx27.out) (by (intro e; have := (hlt.out _ e).1; omega))).trans bx27.out
    replace b28 := Lib.hid b28
    replace bx28 := Lib.hid bx28
    clear y0 y1
    have y0 : w28.cell? ⟨w.heap.size, 0, none⟩ = some (.slice Am made.length cm) := (cellm bx28.out 0).trans rfl
    have y1 : w28.cell? ⟨w.heap.size, 1, none⟩ = some (.slice At tasks.length ct) := (cellm bx28.out 1).trans rfl
    replace hW := Lib.hid (hW.out.up (h28.below (by omega) (fun i hi => by have := (hlt.out i hi).1; omega)) (Nat.le_refl _))
    clear h28 b27 bx27
    have hG3 : ∀ (W : World), W.ownsRow w12.heap.size 3 1 (.slice Ag rl.length cg) rl.length (ints (marksI 1 rl.length)) → IntsAt W.heap.size W Ag (marksI 1 rl.length) := fun W h => by
      have e := marksI_length 1 rl.length
      have h2 := ownsRow_ints_of (A := Ag) (c := cg) (xs := marksI 1 rl.length) (by rw [e]; exact h)
      exact h2
    replace hG3 := Lib.hid hG3
    replace hG2 := Lib.hid hG2
    have hq0 : ¬ (1 + (rl.length : Int) < 0) := by omega
    have hq1 : ((1 + (rl.length : Int)) != (1 + (rl.length : Int))) = false := by simp
    have hhe := heldIntS_calls Ag cg rl.length 1 w28 (by omega) (by omega) (by omega) (hG3.out _ hG2.out)
    replace hhe := Lib.hid hhe
    go_wp2_with fail
    refine hhe.out.mono ?_
    rintro e w29 ⟨rfl, h29⟩
    clear hhe
    have s29 : w28.heap.size ≤ w29.heap.size := h29.size
    have b29 := below_up b28.out h29
    have bx29 := (h29.block _ (block_lt bx28.out)).trans bx28.out
    replace b29 := Lib.hid b29
    replace bx29 := Lib.hid bx29
    clear y0 y1
    have y0 : w29.cell? ⟨w.heap.size, 0, none⟩ = some (.slice Am made.length cm) := (cellm bx29.out 0).trans rfl
    have y1 : w29.cell? ⟨w.heap.size, 1, none⟩ = some (.slice At tasks.length ct) := (cellm bx29.out 1).trans rfl
    replace hW := Lib.hid (hW.out.up (h29.mono (by omega)) (Nat.le_refl _))
    replace hG2 := Lib.hid (ownsRow_block hG2.out (fun b hb => by have q1 := (hG2.out.lt b hb).1; have q2 := (hG2.out.lt b hb).2; exact h29.block b q2))
    clear h29 b28 bx28
    go_wp2_with fail
    refine (hto.out _ b29.out).mono ?_
    rintro e w30 ⟨bmh, bth, midh, rfl, hSh, h30⟩
    have s30 : w29.heap.size ≤ w30.heap.size := h30.size
    have b30 := below_up b29.out h30
    have bx30 := (h30.block _ (block_lt bx29.out)).trans bx29.out
    replace b30 := Lib.hid b30
    replace bx30 := Lib.hid bx30
    clear y0 y1
    have y0 : w30.cell? ⟨w.heap.size, 0, none⟩ = some (.slice Am made.length cm) := (cellm bx30.out 0).trans rfl
    have y1 : w30.cell? ⟨w.heap.size, 1, none⟩ = some (.slice At tasks.length ct) := (cellm bx30.out 1).trans rfl
    replace hW := Lib.hid (hW.out.up (h30.mono (by omega)) (Nat.le_refl _))
    replace hG2 := Lib.hid (ownsRow_block hG2.out (fun b hb => by have q1 := (hG2.out.lt b hb).1; have q2 := (hG2.out.lt b hb).2; exact h30.block b q2))
    clear h30 b29 bx29
    have eh : w30.heap.size ≤ w30.heap.size := Nat.le_refl _
    replace hSh := Lib.hid hSh
    go_wp2_with fail
    refine (hti1.out _ b30.out).mono ?_
    rintro e w31 ⟨rfl, ⟨vs1h, hI1h⟩, sx31, h31⟩
    have s31 : w30.heap.size ≤ w31.heap.size := h31.size
    have b31 := below_up b30.out h31
    have bx31 := (h31.block _ (block_lt bx30.out)).trans bx30.out
    replace b31 := Lib.hid b31
    replace bx31 := Lib.hid bx31
    clear y0 y1
    have y0 : w31.cell? ⟨w.heap.size, 0, none⟩ = some (.slice Am made.length cm) := (cellm bx31.out 0).trans rfl
    have y1 : w31.cell? ⟨w.heap.size, 1, none⟩ = some (.slice At tasks.length ct) := (cellm bx31.out 1).trans rfl
    replace hW := Lib.hid (hW.out.up (h31.mono (by omega)) (Nat.le_refl _))
    replace hG2 := Lib.hid (ownsRow_block hG2.out (fun b hb => by have q1 := (hG2.out.lt b hb).1; have q2 := (hG2.out.lt b hb).2; exact h31.block b q2))
    replace hSh := Lib.hid (hSh.out.kept (fun b q1 q2 => h31.block b (by omega)) (Nat.le_refl _))
    clear h31 b30 bx30
    replace hI1h := Lib.hid hI1h
    go_wp2_with fail
    refine (hti2.out _ b31.out).mono ?_
    rintro e w32 ⟨rfl, hI2h, h32⟩
    have s32 : w31.heap.size ≤ w32.heap.size := h32.size
    have b32 := below_up b31.out h32
    have bx32 := (h32.block _ (block_lt bx31.out)).trans bx31.out
    replace b32 := Lib.hid b32
    replace bx32 := Lib.hid bx32
    clear y0 y1
    have y0 : w32.cell? ⟨w.heap.size, 0, none⟩ = some (.slice Am made.length cm) := (cellm bx32.out 0).trans rfl
    have y1 : w32.cell? ⟨w.heap.size, 1, none⟩ = some (.slice At tasks.length ct) := (cellm bx32.out 1).trans rfl
    replace hW := Lib.hid (hW.out.up (h32.mono (by omega)) (Nat.le_refl _))
    replace hG2 := Lib.hid (ownsRow_block hG2.out (fun b hb => by have q1 := (hG2.out.lt b hb).1; have q2 := (hG2.out.lt b hb).2; exact h32.block b q2))
    replace hSh := Lib.hid (hSh.out.kept (fun b q1 q2 => h32.block b (by omega)) (Nat.le_refl _))
    replace hI1h := Lib.hid (hI1h.out.keep (fun b q1 q2 => h32.block b (by omega)))
    clear h32 b31 bx31
    replace hI2h := Lib.hid hI2h
    go_wp2_with fail
    refine (hti3.out _ b32.out).mono ?_
    rintro e w33 ⟨rfl, hI3h, h33⟩
    have s33 : w32.heap.size ≤ w33.heap.size := h33.size
    have b33 := below_up b32.out h33
    have bx33 := (h33.block _ (block_lt bx32.out)).trans bx32.out
    replace b33 := Lib.hid b33
    replace bx33 := Lib.hid bx33
    clear y0 y1
    have y0 : w33.cell? ⟨w.heap.size, 0, none⟩ = some (.slice Am made.length cm) := (cellm bx33.out 0).trans rfl
    have y1 : w33.cell? ⟨w.heap.size, 1, none⟩ = some (.slice At tasks.length ct) := (cellm bx33.out 1).trans rfl
    replace hW := Lib.hid (hW.out.up (h33.mono (by omega)) (Nat.le_refl _))
    replace hG2 := Lib.hid (ownsRow_block hG2.out (fun b hb => by have q1 := (hG2.out.lt b hb).1; have q2 := (hG2.out.lt b hb).2; exact h33.block b q2))
    replace hSh := Lib.hid (hSh.out.kept (fun b q1 q2 => h33.block b (by omega)) (Nat.le_refl _))
    replace hI1h := Lib.hid (hI1h.out.keep (fun b q1 q2 => h33.block b (by omega)))
    replace hI2h := Lib.hid (hI2h.out.turn (h33.block _ hI2h.out.lt))
    clear h33 b32 bx32
    replace hI3h := Lib.hid hI3h
    have him := hIm.out w33 (some ⟨bmh, 0, none⟩) (some ⟨bth, 0, none⟩) made.length tasks.length (some ⟨w30.heap.size, 0, none⟩) x1.length (some ⟨w31.heap.size, 0, none⟩) x2.length (some ⟨w32.heap.size, 0, none⟩) x3.length (hSh.out.at (by omega) (by unfold maxLen; omega) (by unfold maxLen; omega)) hI1h.out.rowsAt (Nat.le_refl _) (by unfold maxLen; omega) hI2h.out.row (Nat.le_refl _) (by unfold maxLen; omega) hI3h.out.row (Nat.le_refl _) (by unfold maxLen; omega)
    replace him := Lib.hid him
    go_wp2_with fail
    refine him.out.mono ?_
    rintro e w34 ⟨g1, rfl, hH, h34⟩
    clear him
    dsimp only at hH ⊢
    have s34 : w33.heap.size ≤ w34.heap.size := h34.size
    have b34 := below_up b33.out h34
    have bx34 := (h34.block _ (block_lt bx33.out)).trans bx33.out
    replace b34 := Lib.hid b34
    replace bx34 := Lib.hid bx34
    clear y0 y1
    have y0 : w34.cell? ⟨w.heap.size, 0, none⟩ = some (.slice Am made.length cm) := (cellm bx34.out 0).trans rfl
    have y1 : w34.cell? ⟨w.heap.size, 1, none⟩ = some (.slice At tasks.length ct) := (cellm bx34.out 1).trans rfl
    replace hW := Lib.hid (hW.out.up (h34.mono (by omega)) (Nat.le_refl _))
    replace hG2 := Lib.hid (ownsRow_block hG2.out (fun b hb => by have q1 := (hG2.out.lt b hb).1; have q2 := (hG2.out.lt b hb).2; exact h34.block b q2))
    clear h34 b33 bx33
    replace hH := Lib.hid hH
    obtain ⟨Ah, ch, hh0, hh1, hh2, -⟩ := ownsRow_ints hH.out
    subst hh0
    unfold maxLen at hh2
    have heq := eqIntS_same (Ah) (Aw) ch cw rl w34 (by unfold maxLen; omega) (ownsRow_ints_of hH.out) (hW.out.up (Below.refl _ _) (by omega))
    replace heq := Lib.hid heq
    go_wp2_with fail
    refine heq.out.mono ?_
    rintro e w35 ⟨rfl, h35⟩
    clear heq
    have s35 : w34.heap.size ≤ w35.heap.size := h35.size
    have b35 := below_up b34.out h35
    have bx35 := (h35.block _ (block_lt bx34.out)).trans bx34.out
    replace b35 := Lib.hid b35
    replace bx35 := Lib.hid bx35
    clear y0 y1
    have y0 : w35.cell? ⟨w.heap.size, 0, none⟩ = some (.slice Am made.length cm) := (cellm bx35.out 0).trans rfl
    have y1 : w35.cell? ⟨w.heap.size, 1, none⟩ = some (.slice At tasks.length ct) := (cellm bx35.out 1).trans rfl
    replace hW := Lib.hid (hW.out.up (h35.mono (by omega)) (Nat.le_refl _))
    replace hG2 := Lib.hid (ownsRow_block hG2.out (fun b hb => by have q1 := (hG2.out.lt b hb).1; have q2 := (hG2.out.lt b hb).2; exact h35.block b q2))
    clear h35 b34 bx34
    have hhe := heldIntS_calls Ag cg rl.length 1 w35 (by omega) (by omega) (by omega) (hG3.out _ hG2.out)
    replace hhe := Lib.hid hhe
    go_wp2_with fail
    refine hhe.out.mono ?_
    rintro e w36 ⟨rfl, h36⟩
    clear hhe
    have s36 : w35.heap.size ≤ w36.heap.size := h36.size
    have b36 := below_up b35.out h36
    have bx36 := (h36.block _ (block_lt bx35.out)).trans bx35.out
    replace b36 := Lib.hid b36
    replace bx36 := Lib.hid bx36
    clear y0 y1
    have y0 : w36.cell? ⟨w.heap.size, 0, none⟩ = some (.slice Am made.length cm) := (cellm bx36.out 0).trans rfl
    have y1 : w36.cell? ⟨w.heap.size, 1, none⟩ = some (.slice At tasks.length ct) := (cellm bx36.out 1).trans rfl
    replace hW := Lib.hid (hW.out.up (h36.mono (by omega)) (Nat.le_refl _))
    replace hG2 := Lib.hid (ownsRow_block hG2.out (fun b hb => by have q1 := (hG2.out.lt b hb).1; have q2 := (hG2.out.lt b hb).2; exact h36.block b q2))
    clear h36 b35 bx35
    go_wp2_with fail
    go_ret
    exact ⟨rfl, b36.out⟩
end Go.Proofs.Ytkbblekengdhaaa
