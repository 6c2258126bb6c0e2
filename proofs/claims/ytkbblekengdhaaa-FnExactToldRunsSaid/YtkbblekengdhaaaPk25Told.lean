import Derived.Test.YtkbblekengdhaaaProg
import Derived.OpenShut
import Derived.Deep.Slices
import Derived.Deep.Fields
import Derived.ProofKit
import Derived.Test.YtkbblekengdhaaaPk1Told
import Derived.Test.YtkbblekengdhaaaPk3Told
import Derived.Test.YtkbblekengdhaaaPk10Told
import Derived.Test.YtkbblekengdhaaaPk11Told
import Derived.Test.YtkbblekengdhaaaPk15Told
import Derived.Test.YtkbblekengdhaaaPk19Told
import Derived.Test.YtkbblekengdhaaaPk22Told
import Derived.Test.YtkbblekengdhaaaPk23Told
import Derived.Test.YtkbblekengdhaaaPk24Told
set_option linter.unusedVariables false
set_option linter.unusedSimpArgs false
namespace Go.Proofs.Ytkbblekengdhaaa
open Go Go.RowKit

/-- both sides give the same, the program's in memory of its own -/
def BothToldRight (made : List Bool) (tasks : List Task) (x1 : List (List Int)) (x2 : List Int) (x3 : List Int) (r : Bool) : Prop :=
  (∀ (w : World) (Am At : Option Addr) (cm ct : Nat) (A1 : Option Addr) (c1 : Nat) (A2 : Option Addr) (c2 : Nat) (A3 : Option Addr) (c3 : Nat), SheetAt w.heap.size w Am cm At ct made tasks → RowsAt w.heap.size w A1 x1 → x1.length ≤ c1 → c1 ≤ maxLen → IntsAt w.heap.size w A2 x2 → x2.length ≤ c2 → c2 ≤ maxLen → IntsAt w.heap.size w A3 x3 → x3.length ≤ c3 → c3 ≤ maxLen → Calls Try.prog 19 #[.agg #[.slice Am made.length cm, .slice At tasks.length ct], .slice A1 x1.length c1, .slice A2 x2.length c2, .slice A3 x3.length c3] w (fun e w' => e = .returned (.bool r) ∧ Below w.heap.size w w')) ∧
  (∀ (w : World) (Am At : Option Addr) (cm ct : Nat) (A1 : Option Addr) (c1 : Nat) (A2 : Option Addr) (c2 : Nat) (A3 : Option Addr) (c3 : Nat), SheetAt w.heap.size w Am cm At ct made tasks → RowsAt w.heap.size w A1 x1 → x1.length ≤ c1 → c1 ≤ maxLen → IntsAt w.heap.size w A2 x2 → x2.length ≤ c2 → c2 ≤ maxLen → IntsAt w.heap.size w A3 x3 → x3.length ≤ c3 → c3 ≤ maxLen → Calls Try.prog 20 #[.agg #[.slice Am made.length cm, .slice At tasks.length ct], .slice A1 x1.length c1, .slice A2 x2.length c2, .slice A3 x3.length c3] w (fun e w' => e = .returned (.bool r) ∧ Below w.heap.size w w'))
set_option maxRecDepth 10000 in
set_option maxHeartbeats 16000000 in
theorem fnExactToldRight_calls (Am At : Option Addr) (cm ct : Nat) (made : List Bool) (tasks : List Task) (A1 : Option Addr) (c1 : Nat) (x1 : List (List Int)) (A2 : Option Addr) (c2 : Nat) (x2 : List Int) (A3 : Option Addr) (c3 : Nat) (x3 : List Int) (w : World) (hs : SheetAt w.heap.size w Am cm At ct made tasks) (hi1 : RowsAt w.heap.size w A1 x1) (hl1 : x1.length ≤ c1) (hc1 : c1 ≤ maxLen) (hi2 : IntsAt w.heap.size w A2 x2) (hl2 : x2.length ≤ c2) (hc2 : c2 ≤ maxLen) (hi3 : IntsAt w.heap.size w A3 x3) (hl3 : x3.length ≤ c3) (hc3 : c3 ≤ maxLen) 
    (H : (made.length : Int) + nodesL tasks ≤ 1048576 → x2.length ≤ 1048576 → x3.length ≤ 1048576 → rowsL x1 ≤ 1048576 → ∃ r, BothToldRight made tasks x1 x2 x3 r) :
    Calls Try.prog 6 #[.agg #[.slice Am made.length cm, .slice At tasks.length ct], .slice A1 x1.length c1, .slice A2 x2.length c2, .slice A3 x3.length c3] w fun e w' => e = .returned (.bool true) ∧ Below w.heap.size w w' := by
  have hsl := Nat.le_trans hs.lt hs.mt
  have hml := Nat.le_trans hs.lm hs.mm
  have hb2 := Nat.le_trans hl2 hc2
  have hb3 := Nat.le_trans hl3 hc3
  unfold maxLen at hsl hml hb2 hb3
  by_cases big2 : 1048576 < x2.length
  · clear H hs
    go_enter Try.func6, Try.ntmps6
    go_wp2_with fail
    go_ret
    exact ⟨rfl, below_al (Below.refl _ _) _⟩
  by_cases big3 : 1048576 < x3.length
  · clear H hs
    go_enter Try.func6, Try.ntmps6
    go_wp2_with fail
    go_ret
    exact ⟨rfl, below_al (Below.refl _ _) _⟩
  have li2 : x2.length ≤ 1048576 := by omega
  have li3 : x3.length ≤ 1048576 := by omega
  have hsz := fun w1 (hw : Below w.heap.size w w1) => szSheet_calls Am At made.length cm ct tasks 1048576 w.heap.size w w1 hw hw.size (Nat.le_trans hs.lm hs.mm) hs.lt hs.mt hs.tasks (by omega) (by omega)
  have hto := fun (h1 : made.length ≤ 1048576) (h2 : nodesL tasks ≤ 1048576) w1 (hw : Below w.heap.size w w1) => toSheet_calls Am At cm ct made tasks w.heap.size w w1 hw hw.size h1 hs.made h2 hs.lt hs.mt hs.tasks
  have hti2 := fun w1 (hw : Below w.heap.size w w1) => toIntS_calls A2 c2 x2 w.heap.size w w1 hw hw.size li2 hi2
  have hti3 := fun w1 (hw : Below w.heap.size w w1) => toIntS_calls A3 c3 x3 w.heap.size w w1 hw hw.size li3 hi3
  have hsz1 := fun (r : Int) w1 (hw : Below w.heap.size w w1) (a : 0 ≤ r) (b : r ≤ 1048576) => szIntSS_calls A1 c1 x1 r w.heap.size w w1 hw hw.size (Nat.le_trans hl1 hc1) hi1 a b
  have hti1 := fun (ho : rowsL x1 ≤ 1048576) w1 (hw : Below w.heap.size w w1) => toIntSS_calls A1 c1 x1 w.heap.size w w1 hw hw.size (by have := rowsL_len x1; omega) (fun x hx => by have := rowsL_mem x1 x hx; omega) hi1
  replace hsz := Lib.hid hsz
  replace hto := Lib.hid hto
  replace H := Lib.hid H
  replace hti2 := Lib.hid hti2
  replace hti3 := Lib.hid hti3
  replace hti1 := Lib.hid hti1
  replace hsz1 := Lib.hid hsz1
  clear hs hi2 hi3 hi1
  go_enter Try.func6, Try.ntmps6
  go_wp2_with fail
  refine (hsz.out _ (below_al (Below.refl _ _) _)).mono ?_
  rintro e w1 ⟨r, rfl, hz, h1⟩
  have bx1 := (h1.block w.heap.size (by simp)).trans (heap_new rfl)
  have b1 := below_from h1
  have s1 : w.heap.size < w1.heap.size := by have := h1.size; simp at this; omega
  replace b1 := Lib.hid b1
  clear h1 hsz
  rcases hz with rfl | ⟨hz0, hz1⟩
  · go_wp2_with fail
    go_ret
    exact ⟨rfl, b1.out⟩
  have hn : ¬ r < 0 := by omega
  have hnp := nodesL_pos tasks
  have htl := parts_len tasks
  have hm1 : made.length ≤ 1048576 := by omega
  have hn1 : nodesL tasks ≤ 1048576 := by omega
  have hszl : (made.length : Int) + nodesL tasks ≤ 1048576 := by omega
  have hto := hto.out hm1 hn1
  replace hz1 := Lib.hid hz1
  replace hto := Lib.hid hto
  replace bx1 := Lib.hid bx1
  have y0 : w1.cell? ⟨w.heap.size, 0, none⟩ = some (.slice Am made.length cm) := (cellm bx1.out 0).trans rfl
  have y1 : w1.cell? ⟨w.heap.size, 1, none⟩ = some (.slice At tasks.length ct) := (cellm bx1.out 1).trans rfl
  have hzi := hsz1.out r w1 b1.out (by omega) (by have := hz1.out; omega)
  replace hzi := Lib.hid hzi
  go_wp2_with fail
  refine hzi.out.mono ?_
  rintro e w2 ⟨r1, rfl, hz, h2⟩
  clear hzi hsz1
  have s2 : w1.heap.size ≤ w2.heap.size := h2.size
  have b2 := below_up b1.out h2
  have bx2 := (h2.block _ (block_lt bx1.out)).trans bx1.out
  replace b2 := Lib.hid b2
  replace bx2 := Lib.hid bx2
  clear y0 y1
  have y0 : w2.cell? ⟨w.heap.size, 0, none⟩ = some (.slice Am made.length cm) := (cellm bx2.out 0).trans rfl
  have y1 : w2.cell? ⟨w.heap.size, 1, none⟩ = some (.slice At tasks.length ct) := (cellm bx2.out 1).trans rfl
  clear h2 b1 bx1
  rcases hz with rfl | ⟨hz1a, hz1b⟩
  · go_wp2_with fail
    go_ret
    exact ⟨rfl, b2.out⟩
  have hng1 : ¬ r1 < 0 := by omega
  have hop1 := rowsL_pos x1
  have lo1 : rowsL x1 ≤ 1048576 := by have := hz1.out; omega
  have ll1 : (x1.length : Int) ≤ rowsL x1 := rowsL_len x1
  have hsm1 : ∀ x ∈ x1, x.length ≤ 1048576 := fun x hx => by have := rowsL_mem x1 x hx; omega
  have hsu1 : sumL x1 ≤ 1048576 := by unfold rowsL at lo1; omega
  have hsp1 := sumL_pos x1
  replace hsm1 := Lib.hid hsm1
  replace hz1b := Lib.hid hz1b
  obtain ⟨rb, hIm, hSp⟩ := H.out hszl li2 li3 lo1
  replace hIm := Lib.hid hIm
  replace hSp := Lib.hid hSp
  clear H
  have hti1 := hti1.out lo1
  replace hti1 := Lib.hid hti1
  go_wp2_with fail
  refine (hto.out _ b2.out).mono ?_
  rintro e w3 ⟨bma, bta, mida, rfl, hSa, h3⟩
  have s3 : w2.heap.size ≤ w3.heap.size := h3.size
  have b3 := below_up b2.out h3
  have bx3 := (h3.block _ (block_lt bx2.out)).trans bx2.out
  replace b3 := Lib.hid b3
  replace bx3 := Lib.hid bx3
  clear y0 y1
  have y0 : w3.cell? ⟨w.heap.size, 0, none⟩ = some (.slice Am made.length cm) := (cellm bx3.out 0).trans rfl
  have y1 : w3.cell? ⟨w.heap.size, 1, none⟩ = some (.slice At tasks.length ct) := (cellm bx3.out 1).trans rfl
  clear h3 b2 bx2
  have ea : w3.heap.size ≤ w3.heap.size := Nat.le_refl _
  replace hSa := Lib.hid hSa
  go_wp2_with fail
  refine (hti1.out _ b3.out).mono ?_
  rintro e w4 ⟨rfl, ⟨vs1a, hI1a⟩, sx4, h4⟩
  have s4 : w3.heap.size ≤ w4.heap.size := h4.size
  have b4 := below_up b3.out h4
  have bx4 := (h4.block _ (block_lt bx3.out)).trans bx3.out
  replace b4 := Lib.hid b4
  replace bx4 := Lib.hid bx4
  clear y0 y1
  have y0 : w4.cell? ⟨w.heap.size, 0, none⟩ = some (.slice Am made.length cm) := (cellm bx4.out 0).trans rfl
  have y1 : w4.cell? ⟨w.heap.size, 1, none⟩ = some (.slice At tasks.length ct) := (cellm bx4.out 1).trans rfl
  replace hSa := Lib.hid (hSa.out.kept (fun b q1 q2 => h4.block b (by omega)) (Nat.le_refl _))
  clear h4 b3 bx3
  replace hI1a := Lib.hid hI1a
  go_wp2_with fail
  refine (hti2.out _ b4.out).mono ?_
  rintro e w5 ⟨rfl, hI2a, h5⟩
  have s5 : w4.heap.size ≤ w5.heap.size := h5.size
  have b5 := below_up b4.out h5
  have bx5 := (h5.block _ (block_lt bx4.out)).trans bx4.out
  replace b5 := Lib.hid b5
  replace bx5 := Lib.hid bx5
  clear y0 y1
  have y0 : w5.cell? ⟨w.heap.size, 0, none⟩ = some (.slice Am made.length cm) := (cellm bx5.out 0).trans rfl
  have y1 : w5.cell? ⟨w.heap.size, 1, none⟩ = some (.slice At tasks.length ct) := (cellm bx5.out 1).trans rfl
  replace hSa := Lib.hid (hSa.out.kept (fun b q1 q2 => h5.block b (by omega)) (Nat.le_refl _))
  replace hI1a := Lib.hid (hI1a.out.keep (fun b q1 q2 => h5.block b (by omega)))
  clear h5 b4 bx4
  replace hI2a := Lib.hid hI2a
  go_wp2_with fail
  refine (hti3.out _ b5.out).mono ?_
  rintro e w6 ⟨rfl, hI3a, h6⟩
  have s6 : w5.heap.size ≤ w6.heap.size := h6.size
  have b6 := below_up b5.out h6
  have bx6 := (h6.block _ (block_lt bx5.out)).trans bx5.out
  replace b6 := Lib.hid b6
  replace bx6 := Lib.hid bx6
  clear y0 y1
  have y0 : w6.cell? ⟨w.heap.size, 0, none⟩ = some (.slice Am made.length cm) := (cellm bx6.out 0).trans rfl
  have y1 : w6.cell? ⟨w.heap.size, 1, none⟩ = some (.slice At tasks.length ct) := (cellm bx6.out 1).trans rfl
  replace hSa := Lib.hid (hSa.out.kept (fun b q1 q2 => h6.block b (by omega)) (Nat.le_refl _))
  replace hI1a := Lib.hid (hI1a.out.keep (fun b q1 q2 => h6.block b (by omega)))
  replace hI2a := Lib.hid (hI2a.out.turn (h6.block _ hI2a.out.lt))
  clear h6 b5 bx5
  replace hI3a := Lib.hid hI3a
  have hsp := hSp.out w6 (some ⟨bma, 0, none⟩) (some ⟨bta, 0, none⟩) made.length tasks.length (some ⟨w3.heap.size, 0, none⟩) x1.length (some ⟨w4.heap.size, 0, none⟩) x2.length (some ⟨w5.heap.size, 0, none⟩) x3.length (hSa.out.at (by omega) (by unfold maxLen; omega) (by unfold maxLen; omega)) hI1a.out.rowsAt (Nat.le_refl _) (by unfold maxLen; omega) hI2a.out.row (Nat.le_refl _) (by unfold maxLen; omega) hI3a.out.row (Nat.le_refl _) (by unfold maxLen; omega)
  replace hsp := Lib.hid hsp
  go_wp2_with fail
  refine hsp.out.mono ?_
  rintro e w7 ⟨rfl, h7⟩
  clear hsp hSp
  have s7 : w6.heap.size ≤ w7.heap.size := h7.size
  have b7 := below_up b6.out h7
  have bx7 := (h7.block _ (block_lt bx6.out)).trans bx6.out
  replace b7 := Lib.hid b7
  replace bx7 := Lib.hid bx7
  clear y0 y1
  have y0 : w7.cell? ⟨w.heap.size, 0, none⟩ = some (.slice Am made.length cm) := (cellm bx7.out 0).trans rfl
  have y1 : w7.cell? ⟨w.heap.size, 1, none⟩ = some (.slice At tasks.length ct) := (cellm bx7.out 1).trans rfl
  clear h7 b6 bx6
  go_wp2_with fail
  refine (hto.out _ b7.out).mono ?_
  rintro e w8 ⟨bmx, btx, midx, rfl, hSx, h8⟩
  have s8 : w7.heap.size ≤ w8.heap.size := h8.size
  have b8 := below_up b7.out h8
  have bx8 := (h8.block _ (block_lt bx7.out)).trans bx7.out
  replace b8 := Lib.hid b8
  replace bx8 := Lib.hid bx8
  clear y0 y1
  have y0 : w8.cell? ⟨w.heap.size, 0, none⟩ = some (.slice Am made.length cm) := (cellm bx8.out 0).trans rfl
  have y1 : w8.cell? ⟨w.heap.size, 1, none⟩ = some (.slice At tasks.length ct) := (cellm bx8.out 1).trans rfl
  clear h8 b7 bx7
  have hXb : (w8.alloc (.cells #[.slice (some ⟨bmx, 0, none⟩) made.length made.length, .slice (some ⟨btx, 0, none⟩) tasks.length tasks.length] 26 (0, 0))).heap[w8.heap.size]? = some (.cells #[.slice (some ⟨bmx, 0, none⟩) made.length made.length, .slice (some ⟨btx, 0, none⟩) tasks.length tasks.length] 26 (0, 0)) := heap_new rfl
  obtain ⟨w9, hw9⟩ : ∃ w9, w9 = w8.alloc (.cells #[.slice (some ⟨bmx, 0, none⟩) made.length made.length, .slice (some ⟨btx, 0, none⟩) tasks.length tasks.length] 26 (0, 0)) := ⟨_, rfl⟩
  have h9 : Below w8.heap.size w8 w9 := by rw [hw9]; exact below_al (Below.refl _ _) _
  have sx9 : w8.heap.size < w9.heap.size := by rw [hw9]; simp
  have xsz : w9.heap.size = w8.heap.size + 1 := by rw [hw9]; simp
  rw [← hw9] at hXb
  replace hw9 := Lib.hid hw9
  replace hXb := Lib.hid hXb
  replace xsz := Lib.hid xsz
  replace hSx := Lib.hid hSx
  have s9 : w8.heap.size ≤ w9.heap.size := h9.size
  have b9 := below_up b8.out h9
  have bx9 := (h9.block _ (block_lt bx8.out)).trans bx8.out
  replace b9 := Lib.hid b9
  replace bx9 := Lib.hid bx9
  clear y0 y1
  have y0 : w9.cell? ⟨w.heap.size, 0, none⟩ = some (.slice Am made.length cm) := (cellm bx9.out 0).trans rfl
  have y1 : w9.cell? ⟨w.heap.size, 1, none⟩ = some (.slice At tasks.length ct) := (cellm bx9.out 1).trans rfl
  replace hSx := Lib.hid (hSx.out.kept (fun b q1 q2 => h9.block b (by omega)) (Nat.le_refl _))
  clear h9 b8 bx8
  go_wp2_with fail
  have hcc := (hti1.out _ b9.out)
  rw [hw9.out] at hcc
  refine hcc.mono ?_
  clear hcc
  rw [← hw9.out]
  rintro e w10 ⟨rfl, ⟨vs1x, hI1x⟩, sx10, h10⟩
  have s10 : w9.heap.size ≤ w10.heap.size := h10.size
  have b10 := below_up b9.out h10
  have bx10 := (h10.block _ (block_lt bx9.out)).trans bx9.out
  replace b10 := Lib.hid b10
  replace bx10 := Lib.hid bx10
  clear y0 y1
  have y0 : w10.cell? ⟨w.heap.size, 0, none⟩ = some (.slice Am made.length cm) := (cellm bx10.out 0).trans rfl
  have y1 : w10.cell? ⟨w.heap.size, 1, none⟩ = some (.slice At tasks.length ct) := (cellm bx10.out 1).trans rfl
  replace hSx := Lib.hid (hSx.out.kept (fun b q1 q2 => h10.block b (by omega)) (Nat.le_refl _))
  replace hXb := Lib.hid ((h10.block _ (block_lt hXb.out)).trans hXb.out)
  clear h10 b9 bx9
  replace hI1x := Lib.hid hI1x
  go_wp2_with fail
  refine (hti2.out _ b10.out).mono ?_
  rintro e w11 ⟨rfl, hI2x, h11⟩
  have sx11 : w10.heap.size < w11.heap.size := hI2x.lt
  have s11 : w10.heap.size ≤ w11.heap.size := h11.size
  have b11 := below_up b10.out h11
  have bx11 := (h11.block _ (block_lt bx10.out)).trans bx10.out
  replace b11 := Lib.hid b11
  replace bx11 := Lib.hid bx11
  clear y0 y1
  have y0 : w11.cell? ⟨w.heap.size, 0, none⟩ = some (.slice Am made.length cm) := (cellm bx11.out 0).trans rfl
  have y1 : w11.cell? ⟨w.heap.size, 1, none⟩ = some (.slice At tasks.length ct) := (cellm bx11.out 1).trans rfl
  replace hSx := Lib.hid (hSx.out.kept (fun b q1 q2 => h11.block b (by omega)) (Nat.le_refl _))
  replace hXb := Lib.hid ((h11.block _ (block_lt hXb.out)).trans hXb.out)
  replace hI1x := Lib.hid (hI1x.out.keep (fun b q1 q2 => h11.block b (by omega)))
  clear h11 b10 bx10
  replace hI2x := Lib.hid hI2x
  go_wp2_with fail
  refine (hti3.out _ b11.out).mono ?_
  rintro e w12 ⟨rfl, hI3x, h12⟩
  have sx12 : w11.heap.size < w12.heap.size := hI3x.lt
  have s12 : w11.heap.size ≤ w12.heap.size := h12.size
  have b12 := below_up b11.out h12
  have bx12 := (h12.block _ (block_lt bx11.out)).trans bx11.out
  replace b12 := Lib.hid b12
  replace bx12 := Lib.hid bx12
  clear y0 y1
  have y0 : w12.cell? ⟨w.heap.size, 0, none⟩ = some (.slice Am made.length cm) := (cellm bx12.out 0).trans rfl
  have y1 : w12.cell? ⟨w.heap.size, 1, none⟩ = some (.slice At tasks.length ct) := (cellm bx12.out 1).trans rfl
  replace hSx := Lib.hid (hSx.out.kept (fun b q1 q2 => h12.block b (by omega)) (Nat.le_refl _))
  replace hXb := Lib.hid ((h12.block _ (block_lt hXb.out)).trans hXb.out)
  replace hI1x := Lib.hid (hI1x.out.keep (fun b q1 q2 => h12.block b (by omega)))
  replace hI2x := Lib.hid (hI2x.out.turn (h12.block _ hI2x.out.lt))
  clear h12 b11 bx11
  replace hI3x := Lib.hid hI3x
  have u0 : w12.cell? ⟨w8.heap.size, 0, none⟩ = some (.slice (some ⟨bmx, 0, none⟩) made.length made.length) := (cellm hXb.out 0).trans rfl
  have u1 : w12.cell? ⟨w8.heap.size, 1, none⟩ = some (.slice (some ⟨btx, 0, none⟩) tasks.length tasks.length) := (cellm hXb.out 1).trans rfl
  have him := hIm.out w12 (some ⟨bmx, 0, none⟩) (some ⟨btx, 0, none⟩) made.length tasks.length (some ⟨w9.heap.size, 0, none⟩) x1.length (some ⟨w10.heap.size, 0, none⟩) x2.length (some ⟨w11.heap.size, 0, none⟩) x3.length (hSx.out.at (by omega) (by unfold maxLen; omega) (by unfold maxLen; omega)) hI1x.out.rowsAt (Nat.le_refl _) (by unfold maxLen; omega) hI2x.out.row (Nat.le_refl _) (by unfold maxLen; omega) hI3x.out.row (Nat.le_refl _) (by unfold maxLen; omega)
  replace him := Lib.hid him
  go_wp2_with fail
  refine him.out.mono ?_
  rintro e w13 ⟨rfl, h13⟩
  clear him
  have s13 : w12.heap.size ≤ w13.heap.size := h13.size
  have b13 := below_up b12.out h13
  have bx13 := (h13.block _ (block_lt bx12.out)).trans bx12.out
  replace b13 := Lib.hid b13
  replace bx13 := Lib.hid bx13
  clear y0 y1
  have y0 : w13.cell? ⟨w.heap.size, 0, none⟩ = some (.slice Am made.length cm) := (cellm bx13.out 0).trans rfl
  have y1 : w13.cell? ⟨w.heap.size, 1, none⟩ = some (.slice At tasks.length ct) := (cellm bx13.out 1).trans rfl
  replace hSx := Lib.hid (hSx.out.kept (fun b q1 q2 => h13.block b (by omega)) (Nat.le_refl _))
  replace hXb := Lib.hid ((h13.block _ (block_lt hXb.out)).trans hXb.out)
  replace hI1x := Lib.hid (hI1x.out.keep (fun b q1 q2 => h13.block b (by omega)))
  replace hI2x := Lib.hid (hI2x.out.turn (h13.block _ hI2x.out.lt))
  replace hI3x := Lib.hid (hI3x.out.turn (h13.block _ hI3x.out.lt))
  clear h13 b12 bx12
  clear u0 u1
  have u0 : w13.cell? ⟨w8.heap.size, 0, none⟩ = some (.slice (some ⟨bmx, 0, none⟩) made.length made.length) := (cellm hXb.out 0).trans rfl
  have u1 : w13.cell? ⟨w8.heap.size, 1, none⟩ = some (.slice (some ⟨btx, 0, none⟩) tasks.length tasks.length) := (cellm hXb.out 1).trans rfl
  have hneq : (rb != rb) = false := by cases rb <;> rfl
  have htoq := hto.out w13.drew b13.out.drew
  replace htoq := Lib.hid htoq
  go_wp2_with fail
  go_region_held3 (fun w' => w'.cell? ⟨w.heap.size, 0, none⟩ = some (.slice Am made.length cm) ∧ w'.cell? ⟨w.heap.size, 1, none⟩ = some (.slice At tasks.length ct) ∧ w'.cell? ⟨w8.heap.size, 0, none⟩ = some (.slice (some ⟨bmx, 0, none⟩) made.length made.length) ∧ w'.cell? ⟨w8.heap.size, 1, none⟩ = some (.slice (some ⟨btx, 0, none⟩) tasks.length tasks.length))
    (first | exact ⟨l0, l1, l2, l3⟩ | exact ⟨k0, k1, k2, k3⟩ | exact ⟨y0, y1, u0, u1⟩)
    (first
      | (go_at_call 24; go_must (refine htoq.out.mono ?_; rintro e w14 ⟨bmc, btc, midc, rfl, hSc, h14⟩; replace h14 : Below w13.heap.size w13 w14 := (Below.refl _ _).drew.trans h14; have s14 : w13.heap.size ≤ w14.heap.size := h14.size; have hSx2 := hSx.out.kept (hi' := w14.heap.size) (fun b q1 q2 => h14.block b (Nat.lt_of_lt_of_le q2 (by omega))) (by omega); have k0 := kept_cell h14 (block_lt bx13.out) y0; have k1 := kept_cell h14 (block_lt bx13.out) y1; have k2 := kept_cell h14 (block_lt hXb.out) u0; have k3 := kept_cell h14 (block_lt hXb.out) u1; have heqs := eqSheet_same (some ⟨bmx, 0, none⟩) (some ⟨btx, 0, none⟩) (some ⟨bmc, 0, none⟩) (some ⟨btc, 0, none⟩) made.length tasks.length made.length tasks.length made tasks w14 (hSx2.at (Nat.le_refl _) (by unfold maxLen; omega) (by unfold maxLen; omega)) (hSc.at (Nat.le_refl _) (by unfold maxLen; omega) (by unfold maxLen; omega)); replace heqs := Lib.hid heqs; replace h14 := Lib.hid h14; clear hSc hSx2))
      | (go_at_call 27; refine heqs.out.mono ?_; rintro e w15 ⟨rfl, h15⟩; have l0 := kept_cell h15 (by have := block_lt bx13.out; omega) k0; have l1 := kept_cell h15 (by have := block_lt bx13.out; omega) k1; have l2 := kept_cell h15 (by have := block_lt hXb.out; omega) k2; have l3 := kept_cell h15 (by have := block_lt hXb.out; omega) k3))
  all_goals
    have h15 : Below w13.heap.size w13 w15 := (h14.out).trans (h15.mono h14.out.size)
    clear k0 k1 k2 k3 l0 l1 l2 l3 heqs
    have s15 : w13.heap.size ≤ w15.heap.size := h15.size
    have b15 := below_up b13.out h15
    have bx15 := (h15.block _ (block_lt bx13.out)).trans bx13.out
    replace b15 := Lib.hid b15
    replace bx15 := Lib.hid bx15
    clear y0 y1
    have y0 : w15.cell? ⟨w.heap.size, 0, none⟩ = some (.slice Am made.length cm) := (cellm bx15.out 0).trans rfl
    have y1 : w15.cell? ⟨w.heap.size, 1, none⟩ = some (.slice At tasks.length ct) := (cellm bx15.out 1).trans rfl
    replace hSx := Lib.hid (hSx.out.kept (fun b q1 q2 => h15.block b (by omega)) (Nat.le_refl _))
    replace hXb := Lib.hid ((h15.block _ (block_lt hXb.out)).trans hXb.out)
    replace hI1x := Lib.hid (hI1x.out.keep (fun b q1 q2 => h15.block b (by omega)))
    replace hI2x := Lib.hid (hI2x.out.turn (h15.block _ hI2x.out.lt))
    replace hI3x := Lib.hid (hI3x.out.turn (h15.block _ hI3x.out.lt))
    clear h15
    clear u0 u1
    have u0 : w15.cell? ⟨w8.heap.size, 0, none⟩ = some (.slice (some ⟨bmx, 0, none⟩) made.length made.length) := (cellm hXb.out 0).trans rfl
    have u1 : w15.cell? ⟨w8.heap.size, 1, none⟩ = some (.slice (some ⟨btx, 0, none⟩) tasks.length tasks.length) := (cellm hXb.out 1).trans rfl
    go_wp2_with fail
    refine (hti1.out _ b15.out).mono ?_
    rintro e w16 ⟨rfl, ⟨vs1c, hI1c⟩, sx16, h16⟩
    have s16 : w15.heap.size ≤ w16.heap.size := h16.size
    have b16 := below_up b15.out h16
    have bx16 := (h16.block _ (block_lt bx15.out)).trans bx15.out
    replace b16 := Lib.hid b16
    replace bx16 := Lib.hid bx16
    clear y0 y1
    have y0 : w16.cell? ⟨w.heap.size, 0, none⟩ = some (.slice Am made.length cm) := (cellm bx16.out 0).trans rfl
    have y1 : w16.cell? ⟨w.heap.size, 1, none⟩ = some (.slice At tasks.length ct) := (cellm bx16.out 1).trans rfl
    replace hSx := Lib.hid (hSx.out.kept (fun b q1 q2 => h16.block b (by omega)) (Nat.le_refl _))
    replace hXb := Lib.hid ((h16.block _ (block_lt hXb.out)).trans hXb.out)
    replace hI1x := Lib.hid (hI1x.out.keep (fun b q1 q2 => h16.block b (by omega)))
    replace hI2x := Lib.hid (hI2x.out.turn (h16.block _ hI2x.out.lt))
    replace hI3x := Lib.hid (hI3x.out.turn (h16.block _ hI3x.out.lt))
    clear h16 b15 bx15
    clear u0 u1
    have u0 : w16.cell? ⟨w8.heap.size, 0, none⟩ = some (.slice (some ⟨bmx, 0, none⟩) made.length made.length) := (cellm hXb.out 0).trans rfl
    have u1 : w16.cell? ⟨w8.heap.size, 1, none⟩ = some (.slice (some ⟨btx, 0, none⟩) tasks.length tasks.length) := (cellm hXb.out 1).trans rfl
    have heq := eqIntSS_same (some ⟨w9.heap.size, 0, none⟩) x1.length (some ⟨w15.heap.size, 0, none⟩) x1.length x1 w16 hI1x.out.rowsAt hI1c.rowsAt (by omega) hsm1.out
    replace heq := Lib.hid heq
    clear hI1c
    go_wp2_with fail
    refine heq.out.mono ?_
    rintro e w17 ⟨rfl, h17⟩
    clear heq
    have s17 : w16.heap.size ≤ w17.heap.size := h17.size
    have b17 := below_up b16.out h17
    have bx17 := (h17.block _ (block_lt bx16.out)).trans bx16.out
    replace b17 := Lib.hid b17
    replace bx17 := Lib.hid bx17
    clear y0 y1
    have y0 : w17.cell? ⟨w.heap.size, 0, none⟩ = some (.slice Am made.length cm) := (cellm bx17.out 0).trans rfl
    have y1 : w17.cell? ⟨w.heap.size, 1, none⟩ = some (.slice At tasks.length ct) := (cellm bx17.out 1).trans rfl
    replace hSx := Lib.hid (hSx.out.kept (fun b q1 q2 => h17.block b (by omega)) (Nat.le_refl _))
    replace hXb := Lib.hid ((h17.block _ (block_lt hXb.out)).trans hXb.out)
    replace hI1x := Lib.hid (hI1x.out.keep (fun b q1 q2 => h17.block b (by omega)))
    replace hI2x := Lib.hid (hI2x.out.turn (h17.block _ hI2x.out.lt))
    replace hI3x := Lib.hid (hI3x.out.turn (h17.block _ hI3x.out.lt))
    clear h17 b16 bx16
    clear u0 u1
    have u0 : w17.cell? ⟨w8.heap.size, 0, none⟩ = some (.slice (some ⟨bmx, 0, none⟩) made.length made.length) := (cellm hXb.out 0).trans rfl
    have u1 : w17.cell? ⟨w8.heap.size, 1, none⟩ = some (.slice (some ⟨btx, 0, none⟩) tasks.length tasks.length) := (cellm hXb.out 1).trans rfl
    go_wp2_with fail
    refine (hti2.out _ b17.out).mono ?_
    rintro e w18 ⟨rfl, hI2c, h18⟩
    have s18 : w17.heap.size ≤ w18.heap.size := h18.size
    have b18 := below_up b17.out h18
    have bx18 := (h18.block _ (block_lt bx17.out)).trans bx17.out
    replace b18 := Lib.hid b18
    replace bx18 := Lib.hid bx18
    clear y0 y1
    have y0 : w18.cell? ⟨w.heap.size, 0, none⟩ = some (.slice Am made.length cm) := (cellm bx18.out 0).trans rfl
    have y1 : w18.cell? ⟨w.heap.size, 1, none⟩ = some (.slice At tasks.length ct) := (cellm bx18.out 1).trans rfl
    replace hSx := Lib.hid (hSx.out.kept (fun b q1 q2 => h18.block b (by omega)) (Nat.le_refl _))
    replace hXb := Lib.hid ((h18.block _ (block_lt hXb.out)).trans hXb.out)
    replace hI1x := Lib.hid (hI1x.out.keep (fun b q1 q2 => h18.block b (by omega)))
    replace hI2x := Lib.hid (hI2x.out.turn (h18.block _ hI2x.out.lt))
    replace hI3x := Lib.hid (hI3x.out.turn (h18.block _ hI3x.out.lt))
    clear h18 b17 bx17
    clear u0 u1
    have u0 : w18.cell? ⟨w8.heap.size, 0, none⟩ = some (.slice (some ⟨bmx, 0, none⟩) made.length made.length) := (cellm hXb.out 0).trans rfl
    have u1 : w18.cell? ⟨w8.heap.size, 1, none⟩ = some (.slice (some ⟨btx, 0, none⟩) tasks.length tasks.length) := (cellm hXb.out 1).trans rfl
    have heq := eqIntS_same (some ⟨w10.heap.size, 0, none⟩) (some ⟨w17.heap.size, 0, none⟩) x2.length x2.length x2 w18 (by unfold maxLen; omega) hI2x.out.row hI2c.row
    replace heq := Lib.hid heq
    clear hI2c
    go_wp2_with fail
    refine heq.out.mono ?_
    rintro e w19 ⟨rfl, h19⟩
    clear heq
    have s19 : w18.heap.size ≤ w19.heap.size := h19.size
    have b19 := below_up b18.out h19
    have bx19 := (h19.block _ (block_lt bx18.out)).trans bx18.out
    replace b19 := Lib.hid b19
    replace bx19 := Lib.hid bx19
    clear y0 y1
    have y0 : w19.cell? ⟨w.heap.size, 0, none⟩ = some (.slice Am made.length cm) := (cellm bx19.out 0).trans rfl
    have y1 : w19.cell? ⟨w.heap.size, 1, none⟩ = some (.slice At tasks.length ct) := (cellm bx19.out 1).trans rfl
    replace hSx := Lib.hid (hSx.out.kept (fun b q1 q2 => h19.block b (by omega)) (Nat.le_refl _))
    replace hXb := Lib.hid ((h19.block _ (block_lt hXb.out)).trans hXb.out)
    replace hI1x := Lib.hid (hI1x.out.keep (fun b q1 q2 => h19.block b (by omega)))
    replace hI2x := Lib.hid (hI2x.out.turn (h19.block _ hI2x.out.lt))
    replace hI3x := Lib.hid (hI3x.out.turn (h19.block _ hI3x.out.lt))
    clear h19 b18 bx18
    clear u0 u1
    have u0 : w19.cell? ⟨w8.heap.size, 0, none⟩ = some (.slice (some ⟨bmx, 0, none⟩) made.length made.length) := (cellm hXb.out 0).trans rfl
    have u1 : w19.cell? ⟨w8.heap.size, 1, none⟩ = some (.slice (some ⟨btx, 0, none⟩) tasks.length tasks.length) := (cellm hXb.out 1).trans rfl
    go_wp2_with fail
    refine (hti3.out _ b19.out).mono ?_
    rintro e w20 ⟨rfl, hI3c, h20⟩
    have s20 : w19.heap.size ≤ w20.heap.size := h20.size
    have b20 := below_up b19.out h20
    have bx20 := (h20.block _ (block_lt bx19.out)).trans bx19.out
    replace b20 := Lib.hid b20
    replace bx20 := Lib.hid bx20
    clear y0 y1
    have y0 : w20.cell? ⟨w.heap.size, 0, none⟩ = some (.slice Am made.length cm) := (cellm bx20.out 0).trans rfl
    have y1 : w20.cell? ⟨w.heap.size, 1, none⟩ = some (.slice At tasks.length ct) := (cellm bx20.out 1).trans rfl
    replace hSx := Lib.hid (hSx.out.kept (fun b q1 q2 => h20.block b (by omega)) (Nat.le_refl _))
    replace hXb := Lib.hid ((h20.block _ (block_lt hXb.out)).trans hXb.out)
    replace hI1x := Lib.hid (hI1x.out.keep (fun b q1 q2 => h20.block b (by omega)))
    replace hI2x := Lib.hid (hI2x.out.turn (h20.block _ hI2x.out.lt))
    replace hI3x := Lib.hid (hI3x.out.turn (h20.block _ hI3x.out.lt))
    clear h20 b19 bx19
    clear u0 u1
    have u0 : w20.cell? ⟨w8.heap.size, 0, none⟩ = some (.slice (some ⟨bmx, 0, none⟩) made.length made.length) := (cellm hXb.out 0).trans rfl
    have u1 : w20.cell? ⟨w8.heap.size, 1, none⟩ = some (.slice (some ⟨btx, 0, none⟩) tasks.length tasks.length) := (cellm hXb.out 1).trans rfl
    have heq := eqIntS_same (some ⟨w11.heap.size, 0, none⟩) (some ⟨w19.heap.size, 0, none⟩) x3.length x3.length x3 w20 (by unfold maxLen; omega) hI3x.out.row hI3c.row
    replace heq := Lib.hid heq
    clear hI3c
    go_wp2_with fail
    refine heq.out.mono ?_
    rintro e w21 ⟨rfl, h21⟩
    clear heq
    have s21 : w20.heap.size ≤ w21.heap.size := h21.size
    have b21 := below_up b20.out h21
    have bx21 := (h21.block _ (block_lt bx20.out)).trans bx20.out
    replace b21 := Lib.hid b21
    replace bx21 := Lib.hid bx21
    clear y0 y1
    have y0 : w21.cell? ⟨w.heap.size, 0, none⟩ = some (.slice Am made.length cm) := (cellm bx21.out 0).trans rfl
    have y1 : w21.cell? ⟨w.heap.size, 1, none⟩ = some (.slice At tasks.length ct) := (cellm bx21.out 1).trans rfl
    replace hSx := Lib.hid (hSx.out.kept (fun b q1 q2 => h21.block b (by omega)) (Nat.le_refl _))
    replace hXb := Lib.hid ((h21.block _ (block_lt hXb.out)).trans hXb.out)
    replace hI1x := Lib.hid (hI1x.out.keep (fun b q1 q2 => h21.block b (by omega)))
    replace hI2x := Lib.hid (hI2x.out.turn (h21.block _ hI2x.out.lt))
    replace hI3x := Lib.hid (hI3x.out.turn (h21.block _ hI3x.out.lt))
    clear h21 b20 bx20
    clear u0 u1
    have u0 : w21.cell? ⟨w8.heap.size, 0, none⟩ = some (.slice (some ⟨bmx, 0, none⟩) made.length made.length) := (cellm hXb.out 0).trans rfl
    have u1 : w21.cell? ⟨w8.heap.size, 1, none⟩ = some (.slice (some ⟨btx, 0, none⟩) tasks.length tasks.length) := (cellm hXb.out 1).trans rfl
    go_wp2_with fail
    go_ret
    exact ⟨rfl, b21.out⟩
end Go.Proofs.Ytkbblekengdhaaa

set_option linter.unusedVariables false
set_option linter.unusedSimpArgs false
namespace Go.Proofs.Ytkbblekengdhaaa
open Go Go.RowKit

theorem nodes_small {tasks : List Task} (h : nodesL tasks ≤ 1048576) : ∀ T ∈ tasks, nodes T ≤ 1000000000 := fun T hT => by
  obtain ⟨i, hi, rfl⟩ := List.getElem_of_mem hT
  have := nodesL_at hi
  omega
section
variable (Am At : Option Addr) (cm ct : Nat) (made : List Bool) (tasks : List Task) (A1 : Option Addr) (c1 : Nat) (x1 : List (List Int)) (A2 : Option Addr) (c2 : Nat) (x2 : List Int) (A3 : Option Addr) (c3 : Nat) (x3 : List Int) (w : World) (hs : SheetAt w.heap.size w Am cm At ct made tasks) (hi1 : RowsAt w.heap.size w A1 x1) (hl1 : x1.length ≤ c1) (hc1 : c1 ≤ maxLen) (hi2 : IntsAt w.heap.size w A2 x2) (hl2 : x2.length ≤ c2) (hc2 : c2 ≤ maxLen) (hi3 : IntsAt w.heap.size w A3 x3) (hl3 : x3.length ≤ c3) (hc3 : c3 ≤ maxLen)
include hs hi1 hl1 hc1 hi2 hl2 hc2 hi3 hl3 hc3
theorem fnExactToldRuns_law : Calls Try.prog 7 #[.agg #[.slice Am made.length cm, .slice At tasks.length ct], .slice A1 x1.length c1, .slice A2 x2.length c2, .slice A3 x3.length c3] w fun e w' => e = .returned (.bool true) ∧ Below w.heap.size w w' :=
  fnExactToldRuns_calls Am At cm ct made tasks A1 c1 x1 A2 c2 x2 A3 c3 x3 w hs hi1 hl1 hc1 hi2 hl2 hc2 hi3 hl3 hc3 (fun h1 _ _ h4 => by
    obtain ⟨R, r, hA⟩ := told_all made tasks x1 x2 x3 (nodes_small (by omega)) (fun x hx => by have := rowsL_mem x1 x hx; omega)
    exact ⟨(R.1.1, R.2), (told_len hA).1, fun w Am At cm ct A1 c1 A2 c2 A3 c3 a b _ _ c d e f g h => hA.iruns w Am At cm ct A1 c1 A2 c2 A3 c3 w.heap.size w (Below.refl _ _) (Nat.le_refl _) a b c d e f g h,
      fun w Am At cm ct A1 c1 A2 c2 A3 c3 a b _ _ c d e f g h => (hA.sruns w Am At cm ct A1 c1 A2 c2 A3 c3 w.heap.size w (Below.refl _ _) (Nat.le_refl _) a b c d e f g h).mono fun _ _ h => h.list⟩)
theorem fnExactToldValues_law : Calls Try.prog 8 #[.agg #[.slice Am made.length cm, .slice At tasks.length ct], .slice A1 x1.length c1, .slice A2 x2.length c2, .slice A3 x3.length c3] w fun e w' => e = .returned (.bool true) ∧ Below w.heap.size w w' :=
  fnExactToldValues_calls Am At cm ct made tasks A1 c1 x1 A2 c2 x2 A3 c3 x3 w hs hi1 hl1 hc1 hi2 hl2 hc2 hi3 hl3 hc3 (fun h1 _ _ h4 => by
    obtain ⟨R, r, hA⟩ := told_all made tasks x1 x2 x3 (nodes_small (by omega)) (fun x hx => by have := rowsL_mem x1 x hx; omega)
    exact ⟨(R.1.2, R.2), (told_len hA).2, fun w Am At cm ct A1 c1 A2 c2 A3 c3 a b _ _ c d e f g h => hA.ivals w Am At cm ct A1 c1 A2 c2 A3 c3 w.heap.size w (Below.refl _ _) (Nat.le_refl _) a b c d e f g h,
      fun w Am At cm ct A1 c1 A2 c2 A3 c3 a b _ _ c d e f g h => (hA.svals w Am At cm ct A1 c1 A2 c2 A3 c3 w.heap.size w (Below.refl _ _) (Nat.le_refl _) a b c d e f g h).mono fun _ _ h => h.list⟩)
theorem fnExactToldRight_law : Calls Try.prog 6 #[.agg #[.slice Am made.length cm, .slice At tasks.length ct], .slice A1 x1.length c1, .slice A2 x2.length c2, .slice A3 x3.length c3] w fun e w' => e = .returned (.bool true) ∧ Below w.heap.size w w' :=
  fnExactToldRight_calls Am At cm ct made tasks A1 c1 x1 A2 c2 x2 A3 c3 x3 w hs hi1 hl1 hc1 hi2 hl2 hc2 hi3 hl3 hc3 (fun h1 _ _ h4 => by
    obtain ⟨R, r, hA⟩ := told_all made tasks x1 x2 x3 (nodes_small (by omega)) (fun x hx => by have := rowsL_mem x1 x hx; omega)
    exact ⟨r, fun w Am At cm ct A1 c1 A2 c2 A3 c3 a b _ _ c d e f g h => hA.iright w Am At cm ct A1 c1 A2 c2 A3 c3 w.heap.size w (Below.refl _ _) (Nat.le_refl _) a b c d e f g h,
      fun w Am At cm ct A1 c1 A2 c2 A3 c3 a b _ _ c d e f g h => hA.sright w Am At cm ct A1 c1 A2 c2 A3 c3 w.heap.size w (Below.refl _ _) (Nat.le_refl _) a b c d e f g h⟩)
end
end Go.Proofs.Ytkbblekengdhaaa

set_option linter.unusedVariables false
namespace Go.Proofs.Ytkbblekengdhaaa
open Go Go.RowKit Go.ChangeShapes Go.WideShapes Go.Deep

/-! what came in, read off the frame -/
section
variable {H : Type} {enc : TypeId × Value → H} {P : Program} {w : World} {base : Nat} {spare : Nat → Bool} {held : Bool}
theorem row_open {t e : TypeId} {fuel : Nat} {c : Value} {x : DataW H × List MemPlace} (ht : P.underlying t = some (.slice e)) (h : DataW.trod enc P w base spare held fuel t [c] = some x) :
    c = .slice none 0 0 ∨ ∃ (a : Addr) (len cap n : Nat), fuel = n + 1 ∧ c = .slice (some a) len cap ∧ len ≤ cap ∧ cap ≤ maxLen ∧ ∀ i, i < len → ∃ cs y, cs.length = P.cellsOf e ∧ (∀ q, q < P.cellsOf e → w.cell? ((a.add (i * P.cellsOf e)).add q) = cs[q]?) ∧ DataW.trod enc P w base spare held n e cs = some y := by
  rcases DataW.trod_slice ht h with ⟨h0, _⟩ | ⟨a, len, cap, elems, rest, n, hf, hcs, hx, hb, hl, hm, hlen, hel, _⟩
  · left; simpa using h0
  · right
    refine ⟨a, len, cap, n, hf, by simpa using hcs, hl, hm, fun i hi => ?_⟩
    have h1 := hel i hi
    rw [List.getElem?_eq_getElem (by omega)] at h1
    obtain ⟨cs, h2, h3⟩ := Option.bind_eq_some_iff.1 h1
    obtain ⟨_, h4, h5⟩ := World.cells?_some h2
    exact ⟨cs, _, h4, h5, h3⟩
theorem addr_plain {a : Addr} {i : Nat} {v : Value} (h : w.cell? (a.add i) = some v) (h0 : i = 0 ∨ ∃ v0, w.cell? a = some v0) : ∃ b o, a = ⟨b, o, none⟩ := by
  obtain ⟨b, o, s⟩ := a
  rcases h0 with rfl | ⟨v0, h0⟩
  · have := World.cell?_spot h
    simp [Addr.add] at this
    exact ⟨b, o, by rw [this]⟩
  · have := World.cell?_spot h0
    simp at this
    exact ⟨b, o, by rw [this]⟩
/-- a row of one-cell elements -/
theorem one_open {α : Type} {f : α → Value} {t e : TypeId} {fuel : Nat} {c : Value} {x : DataW H × List MemPlace} (ht : P.underlying t = some (.slice e)) (hc : P.cellsOf e = 1)
    (he : ∀ n cs y, DataW.trod enc P w base spare held n e cs = some y → ∃ u, cs = [f u]) (h : DataW.trod enc P w base spare held fuel t [c] = some x) :
    ∃ A len cap xs, c = .slice A len cap ∧ xs.length = len ∧ len ≤ cap ∧ cap ≤ maxLen ∧ RowAt f w.heap.size w A xs := by
  rcases row_open ht h with rfl | ⟨a, len, cap, n, -, rfl, hl, hm, hi⟩
  · exact ⟨none, 0, 0, [], rfl, rfl, Nat.le_refl _, by simp [maxLen], RowAt.nil _ _ _ _⟩
  rw [hc] at hi
  have hv : ∀ i, i < len → ∃ u, w.cell? (a.add i) = some (f u) := by
    intro i hlt
    obtain ⟨cs, y, h1, h2, h3⟩ := hi i hlt
    obtain ⟨u, rfl⟩ := he _ _ _ h3
    have := h2 0 (by omega)
    rw [Nat.mul_one] at this
    exact ⟨u, by simpa [Addr.add] using this⟩
  obtain ⟨V, hV⟩ : ∃ V : (i : Nat) → i < len → α, ∀ i h, w.cell? (a.add i) = some (f (V i h)) := ⟨fun i h => (hv i h).choose, fun i h => (hv i h).choose_spec⟩
  refine ⟨some a, len, cap, (List.range len).attach.map (fun i => V i.1 (List.mem_range.1 i.2)), rfl, by simp, hl, hm, fun i hlt => ?_⟩
  have hlt' : i < len := by simpa using hlt
  have h0 := hV 0 (by omega)
  obtain ⟨b, o, rfl⟩ := addr_plain h0 (.inl rfl)
  have h1 := hV i hlt'
  have e : (⟨b, o, none⟩ : Addr).add i = ⟨b, o + i, none⟩ := add_plain ..
  rw [e] at h1
  exact ⟨b, o, rfl, World.block_lt_of_cell? w _ h1, by simpa using h1⟩
theorem bools_open {t e : TypeId} {fuel : Nat} {c : Value} {x : DataW H × List MemPlace} (ht : P.underlying t = some (.slice e)) (he : P.underlying e = some .bool) (hc : P.cellsOf e = 1) (h : DataW.trod enc P w base spare held fuel t [c] = some x) :
    ∃ A len cap xs, c = .slice A len cap ∧ xs.length = len ∧ len ≤ cap ∧ cap ≤ maxLen ∧ BoolsAt w.heap.size w A xs :=
  one_open ht hc (fun n cs y hy => by obtain ⟨b, rfl, _⟩ := DataW.trod_bool he hy; exact ⟨b, rfl⟩) h
theorem ints_open {t e : TypeId} {fuel : Nat} {c : Value} {x : DataW H × List MemPlace} (ht : P.underlying t = some (.slice e)) (he : P.underlying e = some (.int .i64)) (hc : P.cellsOf e = 1) (h : DataW.trod enc P w base spare held fuel t [c] = some x) :
    ∃ A len cap xs, c = .slice A len cap ∧ xs.length = len ∧ len ≤ cap ∧ cap ≤ maxLen ∧ IntsAt w.heap.size w A xs :=
  one_open ht hc (fun n cs y hy => by obtain ⟨k, rfl, _⟩ := DataW.trod_int he hy; exact ⟨k, rfl⟩) h

/-- a tree of tasks: of any struct of two numbers and a row of such -/
theorem tasks_open {t e ti : TypeId} {fs : Array Field} (ht : P.underlying t = some (.slice e)) (he : P.underlying e = some (.struct fs)) (hc : P.cellsOf e = 3) (hti : P.underlying ti = some (.int .i64)) (hci : P.cellsOf ti = 1) (hct : P.cellsOf t = 1)
    (h0 : ∃ f, fs[0]? = some f ∧ f.type = ti ∧ f.offset = 0) (h1 : ∃ f, fs[1]? = some f ∧ f.type = ti ∧ f.offset = 1) (h2 : ∃ f, fs[2]? = some f ∧ f.type = t ∧ f.offset = 2) :
    ∀ (fuel : Nat) (c : Value) (x : DataW H × List MemPlace), DataW.trod enc P w base spare held fuel t [c] = some x → ∃ A len cap ps, c = .slice A len cap ∧ ps.length = len ∧ len ≤ cap ∧ cap ≤ maxLen ∧ PartsIs w.heap.size w A 0 ps := by
  intro fuel
  induction fuel using Nat.strongRecOn with
  | ind fuel ih =>
  intro c x h
  rcases row_open ht h with rfl | ⟨a, len, cap, n, rfl, rfl, hl, hm, hi⟩
  · exact ⟨none, 0, 0, [], rfl, rfl, Nat.le_refl _, by simp [maxLen], by rw [PartsIs]; trivial⟩
  rw [hc] at hi
  have hv : ∀ i, i < len → ∃ k m A' c' ps, w.cell? ((a.add (i * 3)).add 0) = some (.int .i64 k) ∧ w.cell? ((a.add (i * 3)).add 1) = some (.int .i64 m) ∧ w.cell? ((a.add (i * 3)).add 2) = some (.slice A' (List.length ps) c') ∧ List.length ps ≤ c' ∧ c' ≤ maxLen ∧ PartsIs w.heap.size w A' 0 ps := by
    intro i hlt
    obtain ⟨cs, y, g1, g2, g3⟩ := hi i hlt
    obtain ⟨ys, n', hn', -, -, hys, hf⟩ := DataW.trod_struct he g3
    match cs, g1 with
    | [c0, c1, c2], _ =>
      obtain ⟨f0, e0, t0, o0⟩ := h0
      obtain ⟨f1, e1, t1, o1⟩ := h1
      obtain ⟨f2, e2, t2, o2⟩ := h2
      have q0 := hf 0 f0 e0
      have q1 := hf 1 f1 e1
      have q2 := hf 2 f2 e2
      have l0 := (Array.getElem?_eq_some_iff.1 e0).1
      have l1 := (Array.getElem?_eq_some_iff.1 e1).1
      have l2 := (Array.getElem?_eq_some_iff.1 e2).1
      rw [t0, o0, hci, List.getElem?_eq_getElem (by omega)] at q0
      rw [t1, o1, hci, List.getElem?_eq_getElem (by omega)] at q1
      rw [t2, o2, hct, List.getElem?_eq_getElem (by omega)] at q2
      simp only [List.drop_zero, List.drop_succ_cons, List.take_succ_cons, List.take_zero] at q0 q1 q2
      obtain ⟨k, r0, -⟩ := DataW.trod_int hti q0
      obtain ⟨m, r1, -⟩ := DataW.trod_int hti q1
      obtain ⟨A', len', cap', ps, r2, p1, p2, p3, p4⟩ := ih n' (by omega) c2 _ q2
      simp only [List.cons.injEq, and_true] at r0 r1
      subst r0 r1 r2 p1
      exact ⟨k, m, A', cap', ps, by simpa using g2 0 (by omega), by simpa using g2 1 (by omega), by simpa using g2 2 (by omega), p2, p3, p4⟩
  obtain ⟨T, hT⟩ : ∃ T : (i : Nat) → i < len → Task, ∀ i h, ∃ A' c', w.cell? ((a.add (i * 3)).add 0) = some (.int .i64 (T i h).kind) ∧ w.cell? ((a.add (i * 3)).add 1) = some (.int .i64 (T i h).n) ∧ w.cell? ((a.add (i * 3)).add 2) = some (.slice A' (T i h).parts.length c') ∧ (T i h).parts.length ≤ c' ∧ c' ≤ maxLen ∧ PartsIs w.heap.size w A' 0 (T i h).parts := by
    have hv' : ∀ i, i < len → ∃ t : Task, ∃ A' c', w.cell? ((a.add (i * 3)).add 0) = some (.int .i64 t.kind) ∧ w.cell? ((a.add (i * 3)).add 1) = some (.int .i64 t.n) ∧ w.cell? ((a.add (i * 3)).add 2) = some (.slice A' t.parts.length c') ∧ t.parts.length ≤ c' ∧ c' ≤ maxLen ∧ PartsIs w.heap.size w A' 0 t.parts := fun i hlt => by
      obtain ⟨k, m, A', c', ps, q⟩ := hv i hlt
      exact ⟨.mk k m ps, A', c', q⟩
    exact ⟨fun i h => (hv' i h).choose, fun i h => (hv' i h).choose_spec⟩
  obtain ⟨qs, hlen, hget⟩ : ∃ qs : List Task, qs.length = len ∧ ∀ i (h : i < len) (h2 : i < qs.length), qs[i] = T i h := ⟨(List.range len).attach.map (fun i => T i.1 (List.mem_range.1 i.2)), by simp, fun i h h2 => by simp⟩
  refine ⟨some a, len, cap, qs, rfl, hlen, hl, hm, ?_⟩
  have hstep : ∀ (l : List Task) (k : Nat), (∀ i (h : i < l.length), ∃ h2 : k + i < len, l[i] = T (k + i) h2) → PartsIs w.heap.size w (some a) k l := by
    intro l
    induction l with
    | nil => intro k _; rw [PartsIs]; trivial
    | cons t ts ihl =>
      intro k hk
      rw [PartsIs]
      refine ⟨?_, ihl (k + 1) fun i h => ?_⟩
      · obtain ⟨h2, e⟩ := hk 0 (by simp)
        simp only [List.getElem_cons_zero, Nat.add_zero] at e h2
        obtain ⟨A', c', q0, q1, q2, q3, q4, q5⟩ := hT k h2
        obtain ⟨A0, c0, r0, -⟩ := hT 0 (by omega)
        rw [Nat.zero_mul] at r0
        have r0' : w.cell? (a.add 0) = some (.int .i64 (T 0 (by omega)).kind) := by simpa [Addr.add] using r0
        obtain ⟨b, o, rfl⟩ := addr_plain r0' (.inl rfl)
        simp only [add_plain] at q0 q1 q2
        rw [e]
        refine ⟨b, o, _, _, _, rfl, World.block_lt_of_cell? w _ q0, q0, q1, q2, ?_⟩
        generalize T k h2 = tk at *
        cases tk with
        | mk k' n' ps' => rw [TaskIs]; exact ⟨A', c', rfl, q3, q4, q5⟩
      · obtain ⟨h2, e⟩ := hk (i + 1) (by simpa using h)
        exact ⟨by omega, by simpa [Nat.add_assoc, Nat.add_comm 1 i] using e⟩
  exact hstep qs 0 fun i h => ⟨by omega, by rw [hget i (by omega) h]; simp⟩
end
end Go.Proofs.Ytkbblekengdhaaa

set_option linter.unusedVariables false
set_option linter.unusedSimpArgs false
namespace Go.Proofs.Ytkbblekengdhaaa
open Go Go.RowKit Go.ChangeShapes Go.WideShapes Go.Deep
section
variable {H : Type} {enc : TypeId × Value → H} {w : World} {base : Nat} {spare : Nat → Bool} {held : Bool}
theorem cell1_bool : Try.prog.cellsOf 4 = 1 := by kernel_rfl
theorem cell1_int : Try.prog.cellsOf 3 = 1 := by kernel_rfl
set_option maxRecDepth 100000 in
theorem ints_came {d : DataW H} {p : List MemPlace} {A : Option Addr} {len c : Nat} (h : DataW.Trod enc Try.prog w base spare held 28 (.slice A len c) d p) :
    ∃ xs, xs.length = len ∧ len ≤ c ∧ c ≤ maxLen ∧ IntsAt w.heap.size w A xs := by
  obtain ⟨fuel, hf⟩ := h
  obtain ⟨A', len', c', xs, e, h1, h2, h3, h4⟩ := ints_open Try.underlying28 Try.underlying3 cell1_int (c := .slice A len c) (by simpa [Value.cells] using hf)
  cases e
  exact ⟨xs, h1, h2, h3, h4⟩

set_option maxRecDepth 100000 in
theorem sheet_came {r : Go.Reach} {b0 : Nat} {v : Value} {d : DataW H} {p : List MemPlace} (hv : Value.okWide Try.prog w r b0 42 v) (h : DataW.Trod enc Try.prog w base spare held 42 v d p) :
    ∃ Am cm At ct made tasks, v = .agg #[.slice Am made.length cm, .slice At tasks.length ct] ∧ SheetAt w.heap.size w Am cm At ct made tasks := by
  obtain ⟨cs, rfl, hsz⟩ := okWide_struct Try.underlying42 hv
  have hC : Try.prog.cellsOf 42 = 2 := by kernel_rfl
  obtain ⟨l⟩ := cs
  match l, hsz.trans hC with
  | [c0, c1], _ =>
    obtain ⟨fuel, hf⟩ := h
    obtain ⟨xs, n, _, hx, _, hlen, hg⟩ := DataW.trod_struct Try.underlying42 hf
    have q0 := hg 0 _ rfl
    have q1 := hg 1 _ rfl
    have k0 : Try.prog.cellsOf 23 = 1 := by kernel_rfl
    have k1 : Try.prog.cellsOf 40 = 1 := by kernel_rfl
    have hl2 : xs.length = 2 := hlen
    simp only [Value.cells, k0, k1, List.drop_zero, List.drop_succ_cons, List.take_succ_cons, List.take_zero] at q0 q1
    rw [List.getElem?_eq_getElem (by omega)] at q0 q1
    obtain ⟨Am, nm, cm, made, rfl, rfl, h2, h3, h4⟩ := bools_open Try.underlying23 Try.underlying4 cell1_bool q0
    obtain ⟨At, nt, ct, tasks, rfl, rfl, g2, g3, g4⟩ := tasks_open Try.underlying40 Try.underlying112 (by kernel_rfl) Try.underlying3 cell1_int k1 ⟨_, rfl, rfl, rfl⟩ ⟨_, rfl, rfl, rfl⟩ ⟨_, rfl, rfl, rfl⟩ n c1 _ q1
    exact ⟨Am, cm, At, ct, made, tasks, rfl, ⟨h2, h3, g2, g3, h4, g4⟩⟩
end
end Go.Proofs.Ytkbblekengdhaaa

set_option linter.unusedVariables false
set_option linter.unusedSimpArgs false
namespace Go.Proofs.Ytkbblekengdhaaa
open Go Go.RowKit Go.ChangeShapes Go.WideShapes Go.Deep
section
variable {H : Type} {enc : TypeId × Value → H} {P : Program} {w : World} {base : Nat} {spare : Nat → Bool} {held : Bool}
/-- a row of rows of numbers -/
theorem rows_open {t tr te : TypeId} {fuel : Nat} {c : Value} {x : DataW H × List MemPlace} (ht : P.underlying t = some (.slice tr)) (htr : P.underlying tr = some (.slice te)) (hte : P.underlying te = some (.int .i64)) (hce : P.cellsOf te = 1) (hcr : P.cellsOf tr = 1)
    (h : DataW.trod enc P w base spare held fuel t [c] = some x) :
    ∃ A len cap l, c = .slice A len cap ∧ List.length l = len ∧ len ≤ cap ∧ cap ≤ maxLen ∧ RowsAt w.heap.size w A l := by
  rcases row_open ht h with rfl | ⟨a, len, cap, n, rfl, rfl, hl, hm, hi⟩
  · exact ⟨none, 0, 0, [], rfl, rfl, Nat.le_refl _, by simp [maxLen], fun i hi => by simp at hi⟩
  rw [hcr] at hi
  have hv : ∀ i, i < len → ∃ (x : List Int), ∃ Ai ci, w.cell? ((a.add (i * 1)).add 0) = some (.slice Ai x.length ci) ∧ x.length ≤ ci ∧ ci ≤ maxLen ∧ IntsAt w.heap.size w Ai x := by
    intro i hlt
    obtain ⟨cs, y, g1, g2, g3⟩ := hi i hlt
    match cs, g1 with
    | [c0], _ =>
      obtain ⟨Ai, ni, ci, xs, rfl, rfl, a1, a2, a3⟩ := ints_open htr hte hce g3
      exact ⟨xs, Ai, ci, by simpa using g2 0 (by omega), a1, a2, a3⟩
  obtain ⟨T, hT⟩ : ∃ T : (i : Nat) → i < len → List Int, ∀ i h, ∃ Ai ci, w.cell? ((a.add (i * 1)).add 0) = some (.slice Ai (T i h).length ci) ∧ (T i h).length ≤ ci ∧ ci ≤ maxLen ∧ IntsAt w.heap.size w Ai (T i h) :=
    ⟨fun i h => (hv i h).choose, fun i h => (hv i h).choose_spec⟩
  obtain ⟨qs, hlen, hget⟩ : ∃ qs : List (List Int), qs.length = len ∧ ∀ i (h : i < len) (h2 : i < qs.length), qs[i] = T i h := ⟨(List.range len).attach.map (fun i => T i.1 (List.mem_range.1 i.2)), by simp, fun i h h2 => by simp⟩
  refine ⟨some a, len, cap, qs, rfl, hlen, hl, hm, fun i hi => ?_⟩
  have hil : i < len := by omega
  rw [hget i hil hi]
  obtain ⟨Ai, ci, q0, q1, q2, q3⟩ := hT i hil
  obtain ⟨A0, c0, r0, -⟩ := hT 0 (by omega)
  rw [Nat.zero_mul] at r0
  have r0' : w.cell? (a.add 0) = some (.slice A0 (T 0 (by omega)).length c0) := by simpa [Addr.add] using r0
  obtain ⟨b, o, rfl⟩ := addr_plain r0' (.inl rfl)
  simp only [add_plain, Nat.mul_one, Nat.add_zero] at q0
  exact ⟨b, o, Ai, ci, rfl, World.block_lt_of_cell? w _ q0, q0, q1, q2, q3⟩
end
section
variable {H : Type} {enc : TypeId × Value → H} {w : World} {base : Nat} {spare : Nat → Bool} {held : Bool}
set_option maxRecDepth 100000 in
theorem rows_came {d : DataW H} {p : List MemPlace} {A : Option Addr} {len c : Nat} (h : DataW.Trod enc Try.prog w base spare held 27 (.slice A len c) d p) :
    ∃ l, List.length l = len ∧ len ≤ c ∧ c ≤ maxLen ∧ RowsAt w.heap.size w A l := by
  obtain ⟨fuel, hf⟩ := h
  have k0 : Try.prog.cellsOf 28 = 1 := by kernel_rfl
  obtain ⟨A', len', c', l, e, h1, h2, h3, h4⟩ := rows_open Try.underlying27 Try.underlying28 Try.underlying3 cell1_int k0 (c := .slice A len c) (by simpa [Value.cells] using hf)
  cases e
  exact ⟨l, h1, h2, h3, h4⟩
end
end Go.Proofs.Ytkbblekengdhaaa
