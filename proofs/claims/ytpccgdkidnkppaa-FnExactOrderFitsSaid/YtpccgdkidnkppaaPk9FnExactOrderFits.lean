import Derived.Test.YtpccgdkidnkppaaProg
import Derived.OpenShut
import Derived.Deep.Slices
import Derived.Deep.Fields
import Derived.ProofKit
import Derived.Test.YtpccgdkidnkppaaPk1FnExactOrderFits
import Derived.Test.YtpccgdkidnkppaaPk2FnExactOrderFits
import Derived.Test.YtpccgdkidnkppaaPk3FnExactOrderFits
import Derived.Test.YtpccgdkidnkppaaPk4FnExactOrderFits
import Derived.Test.YtpccgdkidnkppaaPk8FnExactOrderFits
set_option linter.unusedVariables false
set_option linter.unusedSimpArgs false
namespace Go.Proofs.Ytpccgdkidnkppaa
open Go Go.RowKit

/-- both sides give the same, the program's in memory of its own -/
def BothOrderFits (made : List Bool) (tasks : List Task) (x1 : List Int) (x2 : List Int) (r : Bool) : Prop :=
  (∀ (w : World) (Am At : Option Addr) (cm ct : Nat) (A1 : Option Addr) (c1 : Nat) (A2 : Option Addr) (c2 : Nat), SheetAt w.heap.size w Am cm At ct made tasks → IntsAt w.heap.size w A1 x1 → x1.length ≤ c1 → c1 ≤ maxLen → IntsAt w.heap.size w A2 x2 → x2.length ≤ c2 → c2 ≤ maxLen → Calls Try.prog 16 #[.agg #[.slice Am made.length cm, .slice At tasks.length ct], .slice A1 x1.length c1, .slice A2 x2.length c2] w (fun e w' => e = .returned (.bool r) ∧ Below w.heap.size w w')) ∧
  (∀ (w : World) (Am At : Option Addr) (cm ct : Nat) (A1 : Option Addr) (c1 : Nat) (A2 : Option Addr) (c2 : Nat), SheetAt w.heap.size w Am cm At ct made tasks → IntsAt w.heap.size w A1 x1 → x1.length ≤ c1 → c1 ≤ maxLen → IntsAt w.heap.size w A2 x2 → x2.length ≤ c2 → c2 ≤ maxLen → Calls Try.prog 13 #[.agg #[.slice Am made.length cm, .slice At tasks.length ct], .slice A1 x1.length c1, .slice A2 x2.length c2] w (fun e w' => e = .returned (.bool r) ∧ Below w.heap.size w w'))
set_option maxRecDepth 10000 in
set_option maxHeartbeats 16000000 in
theorem fnExactOrderFits_calls (Am At : Option Addr) (cm ct : Nat) (made : List Bool) (tasks : List Task) (A1 : Option Addr) (c1 : Nat) (x1 : List Int) (A2 : Option Addr) (c2 : Nat) (x2 : List Int) (w : World) (hs : SheetAt w.heap.size w Am cm At ct made tasks) (hi1 : IntsAt w.heap.size w A1 x1) (hl1 : x1.length ≤ c1) (hc1 : c1 ≤ maxLen) (hi2 : IntsAt w.heap.size w A2 x2) (hl2 : x2.length ≤ c2) (hc2 : c2 ≤ maxLen) 
    (H : (made.length : Int) + nodesL tasks ≤ 1048576 → x1.length ≤ 1048576 → x2.length ≤ 1048576 → ∃ r, BothOrderFits made tasks x1 x2 r) :
    Calls Try.prog 3 #[.agg #[.slice Am made.length cm, .slice At tasks.length ct], .slice A1 x1.length c1, .slice A2 x2.length c2] w fun e w' => e = .returned (.bool true) ∧ Below w.heap.size w w' := by
  have hsl := Nat.le_trans hs.lt hs.mt
  have hml := Nat.le_trans hs.lm hs.mm
  have hb1 := Nat.le_trans hl1 hc1
  have hb2 := Nat.le_trans hl2 hc2
  unfold maxLen at hsl hml hb1 hb2
  by_cases big1 : 1048576 < x1.length
  · clear H hs
    go_enter Try.func3, Try.ntmps3
    go_wp2_with fail
    go_ret
    exact ⟨rfl, below_al (Below.refl _ _) _⟩
  by_cases big2 : 1048576 < x2.length
  · clear H hs
    go_enter Try.func3, Try.ntmps3
    go_wp2_with fail
    go_ret
    exact ⟨rfl, below_al (Below.refl _ _) _⟩
  have li1 : x1.length ≤ 1048576 := by omega
  have li2 : x2.length ≤ 1048576 := by omega
  have hsz := fun w1 (hw : Below w.heap.size w w1) => szSheet_calls Am At made.length cm ct tasks 1048576 w.heap.size w w1 hw hw.size (Nat.le_trans hs.lm hs.mm) hs.lt hs.mt hs.tasks (by omega) (by omega)
  have hto := fun (h1 : made.length ≤ 1048576) (h2 : nodesL tasks ≤ 1048576) w1 (hw : Below w.heap.size w w1) => toSheet_calls Am At cm ct made tasks w.heap.size w w1 hw hw.size h1 hs.made h2 hs.lt hs.mt hs.tasks
  have hti1 := fun w1 (hw : Below w.heap.size w w1) => toIntS_calls A1 c1 x1 w.heap.size w w1 hw hw.size li1 hi1
  have hti2 := fun w1 (hw : Below w.heap.size w w1) => toIntS_calls A2 c2 x2 w.heap.size w w1 hw hw.size li2 hi2
  replace hsz := Lib.hid hsz
  replace hto := Lib.hid hto
  replace H := Lib.hid H
  replace hti1 := Lib.hid hti1
  replace hti2 := Lib.hid hti2
  clear hs hi1 hi2
  go_enter Try.func3, Try.ntmps3
  go_wp2_with fail
  refine (hsz.out _ (below_al (Below.refl _ _) _)).mono ?_
  rintro e w1 ⟨r, rfl, hz, h1⟩
  have bx1 := (h1.block w.heap.size (by simp)).trans (heap_new rfl)
  have b1 := below_from h1
  have s1 : w.heap.size < w1.heap.size := by have := h1.size; simp at this; omega
  replace b1 := Lib.hid b1
  clear h1 hsz
  rcases hz with rfl | ⟨hz0, hz1⟩
  · go_wp2_with fail
    go_ret
    exact ⟨rfl, b1.out⟩
  have hn : ¬ r < 0 := by omega
  have hnp := nodesL_pos tasks
  have htl := parts_len tasks
  have hm1 : made.length ≤ 1048576 := by omega
  have hn1 : nodesL tasks ≤ 1048576 := by omega
  obtain ⟨rb, hIm, hSp⟩ := H.out (by omega) li1 li2
  have hto := hto.out hm1 hn1
  replace hz1 := Lib.hid hz1
  replace hto := Lib.hid hto
  replace hIm := Lib.hid hIm
  replace hSp := Lib.hid hSp
  replace bx1 := Lib.hid bx1
  clear H
  have y0 : w1.cell? ⟨w.heap.size, 0, none⟩ = some (.slice Am made.length cm) := (cellm bx1.out 0).trans rfl
  have y1 : w1.cell? ⟨w.heap.size, 1, none⟩ = some (.slice At tasks.length ct) := (cellm bx1.out 1).trans rfl
  go_wp2_with fail
  refine (hto.out _ b1.out).mono ?_
  rintro e w2 ⟨bma, bta, mida, rfl, hSa, h2⟩
  have s2 : w1.heap.size ≤ w2.heap.size := h2.size
  have b2 := below_up b1.out h2
  have bx2 := (h2.block _ (block_lt bx1.out)).trans bx1.out
  replace b2 := Lib.hid b2
  replace bx2 := Lib.hid bx2
  clear y0 y1
  have y0 : w2.cell? ⟨w.heap.size, 0, none⟩ = some (.slice Am made.length cm) := (cellm bx2.out 0).trans rfl
  have y1 : w2.cell? ⟨w.heap.size, 1, none⟩ = some (.slice At tasks.length ct) := (cellm bx2.out 1).trans rfl
  clear h2 b1 bx1
  have ea : w2.heap.size ≤ w2.heap.size := Nat.le_refl _
  replace hSa := Lib.hid hSa
  go_wp2_with fail
  refine (hti1.out _ b2.out).mono ?_
  rintro e w3 ⟨rfl, hI1a, h3⟩
  have s3 : w2.heap.size ≤ w3.heap.size := h3.size
  have b3 := below_up b2.out h3
  have bx3 := (h3.block _ (block_lt bx2.out)).trans bx2.out
  replace b3 := Lib.hid b3
  replace bx3 := Lib.hid bx3
  clear y0 y1
  have y0 : w3.cell? ⟨w.heap.size, 0, none⟩ = some (.slice Am made.length cm) := (cellm bx3.out 0).trans rfl
  have y1 : w3.cell? ⟨w.heap.size, 1, none⟩ = some (.slice At tasks.length ct) := (cellm bx3.out 1).trans rfl
  replace hSa := Lib.hid (hSa.out.kept (fun b q1 q2 => h3.block b (by omega)) (Nat.le_refl _))
  clear h3 b2 bx2
  replace hI1a := Lib.hid hI1a
  go_wp2_with fail
  refine (hti2.out _ b3.out).mono ?_
  rintro e w4 ⟨rfl, hI2a, h4⟩
  have s4 : w3.heap.size ≤ w4.heap.size := h4.size
  have b4 := below_up b3.out h4
  have bx4 := (h4.block _ (block_lt bx3.out)).trans bx3.out
  replace b4 := Lib.hid b4
  replace bx4 := Lib.hid bx4
  clear y0 y1
  have y0 : w4.cell? ⟨w.heap.size, 0, none⟩ = some (.slice Am made.length cm) := (cellm bx4.out 0).trans rfl
  have y1 : w4.cell? ⟨w.heap.size, 1, none⟩ = some (.slice At tasks.length ct) := (cellm bx4.out 1).trans rfl
  replace hSa := Lib.hid (hSa.out.kept (fun b q1 q2 => h4.block b (by omega)) (Nat.le_refl _))
  replace hI1a := Lib.hid (hI1a.out.turn (h4.block _ hI1a.out.lt))
  clear h4 b3 bx3
  replace hI2a := Lib.hid hI2a
  have hsp := hSp.out w4 (some ⟨bma, 0, none⟩) (some ⟨bta, 0, none⟩) made.length tasks.length (some ⟨w2.heap.size, 0, none⟩) x1.length (some ⟨w3.heap.size, 0, none⟩) x2.length (hSa.out.at (by omega) (by unfold maxLen; omega) (by unfold maxLen; omega)) hI1a.out.row (Nat.le_refl _) (by unfold maxLen; omega) hI2a.out.row (Nat.le_refl _) (by unfold maxLen; omega)
  replace hsp := Lib.hid hsp
  go_wp2_with fail
  refine hsp.out.mono ?_
  rintro e w5 ⟨rfl, h5⟩
  clear hsp hSp
  have s5 : w4.heap.size ≤ w5.heap.size := h5.size
  have b5 := below_up b4.out h5
  have bx5 := (h5.block _ (block_lt bx4.out)).trans bx4.out
  replace b5 := Lib.hid b5
  replace bx5 := Lib.hid bx5
  clear y0 y1
  have y0 : w5.cell? ⟨w.heap.size, 0, none⟩ = some (.slice Am made.length cm) := (cellm bx5.out 0).trans rfl
  have y1 : w5.cell? ⟨w.heap.size, 1, none⟩ = some (.slice At tasks.length ct) := (cellm bx5.out 1).trans rfl
  clear h5 b4 bx4
  go_wp2_with fail
  refine (hto.out _ b5.out).mono ?_
  rintro e w6 ⟨bmx, btx, midx, rfl, hSx, h6⟩
  have s6 : w5.heap.size ≤ w6.heap.size := h6.size
  have b6 := below_up b5.out h6
  have bx6 := (h6.block _ (block_lt bx5.out)).trans bx5.out
  replace b6 := Lib.hid b6
  replace bx6 := Lib.hid bx6
  clear y0 y1
  have y0 : w6.cell? ⟨w.heap.size, 0, none⟩ = some (.slice Am made.length cm) := (cellm bx6.out 0).trans rfl
  have y1 : w6.cell? ⟨w.heap.size, 1, none⟩ = some (.slice At tasks.length ct) := (cellm bx6.out 1).trans rfl
  clear h6 b5 bx5
  have hXb : (w6.alloc (.cells #[.slice (some ⟨bmx, 0, none⟩) made.length made.length, .slice (some ⟨btx, 0, none⟩) tasks.length tasks.length] 31 (0, 0))).heap[w6.heap.size]? = some (.cells #[.slice (some ⟨bmx, 0, none⟩) made.length made.length, .slice (some ⟨btx, 0, none⟩) tasks.length tasks.length] 31 (0, 0)) := heap_new rfl
  obtain ⟨w7, hw7⟩ : ∃ w7, w7 = w6.alloc (.cells #[.slice (some ⟨bmx, 0, none⟩) made.length made.length, .slice (some ⟨btx, 0, none⟩) tasks.length tasks.length] 31 (0, 0)) := ⟨_, rfl⟩
  have h7 : Below w6.heap.size w6 w7 := by rw [hw7]; exact below_al (Below.refl _ _) _
  have sx7 : w6.heap.size < w7.heap.size := by rw [hw7]; simp
  have xsz : w7.heap.size = w6.heap.size + 1 := by rw [hw7]; simp
  rw [← hw7] at hXb
  replace hw7 := Lib.hid hw7
  replace hXb := Lib.hid hXb
  replace xsz := Lib.hid xsz
  replace hSx := Lib.hid hSx
  have s7 : w6.heap.size ≤ w7.heap.size := h7.size
  have b7 := below_up b6.out h7
  have bx7 := (h7.block _ (block_lt bx6.out)).trans bx6.out
  replace b7 := Lib.hid b7
  replace bx7 := Lib.hid bx7
  clear y0 y1
  have y0 : w7.cell? ⟨w.heap.size, 0, none⟩ = some (.slice Am made.length cm) := (cellm bx7.out 0).trans rfl
  have y1 : w7.cell? ⟨w.heap.size, 1, none⟩ = some (.slice At tasks.length ct) := (cellm bx7.out 1).trans rfl
  replace hSx := Lib.hid (hSx.out.kept (fun b q1 q2 => h7.block b (by omega)) (Nat.le_refl _))
  clear h7 b6 bx6
  go_wp2_with fail
  have hcc := (hti1.out _ b7.out)
  rw [hw7.out] at hcc
  refine hcc.mono ?_
  clear hcc
  rw [← hw7.out]
  rintro e w8 ⟨rfl, hI1x, h8⟩
  have sx8 : w7.heap.size < w8.heap.size := hI1x.lt
  have s8 : w7.heap.size ≤ w8.heap.size := h8.size
  have b8 := below_up b7.out h8
  have bx8 := (h8.block _ (block_lt bx7.out)).trans bx7.out
  replace b8 := Lib.hid b8
  replace bx8 := Lib.hid bx8
  clear y0 y1
  have y0 : w8.cell? ⟨w.heap.size, 0, none⟩ = some (.slice Am made.length cm) := (cellm bx8.out 0).trans rfl
  have y1 : w8.cell? ⟨w.heap.size, 1, none⟩ = some (.slice At tasks.length ct) := (cellm bx8.out 1).trans rfl
  replace hSx := Lib.hid (hSx.out.kept (fun b q1 q2 => h8.block b (by omega)) (Nat.le_refl _))
  replace hXb := Lib.hid ((h8.block _ (block_lt hXb.out)).trans hXb.out)
  clear h8 b7 bx7
  replace hI1x := Lib.hid hI1x
  go_wp2_with fail
  refine (hti2.out _ b8.out).mono ?_
  rintro e w9 ⟨rfl, hI2x, h9⟩
  have sx9 : w8.heap.size < w9.heap.size := hI2x.lt
  have s9 : w8.heap.size ≤ w9.heap.size := h9.size
  have b9 := below_up b8.out h9
  have bx9 := (h9.block _ (block_lt bx8.out)).trans bx8.out
  replace b9 := Lib.hid b9
  replace bx9 := Lib.hid bx9
  clear y0 y1
  have y0 : w9.cell? ⟨w.heap.size, 0, none⟩ = some (.slice Am made.length cm) := (cellm bx9.out 0).trans rfl
  have y1 : w9.cell? ⟨w.heap.size, 1, none⟩ = some (.slice At tasks.length ct) := (cellm bx9.out 1).trans rfl
  replace hSx := Lib.hid (hSx.out.kept (fun b q1 q2 => h9.block b (by omega)) (Nat.le_refl _))
  replace hXb := Lib.hid ((h9.block _ (block_lt hXb.out)).trans hXb.out)
  replace hI1x := Lib.hid (hI1x.out.turn (h9.block _ hI1x.out.lt))
  clear h9 b8 bx8
  replace hI2x := Lib.hid hI2x
  have u0 : w9.cell? ⟨w6.heap.size, 0, none⟩ = some (.slice (some ⟨bmx, 0, none⟩) made.length made.length) := (cellm hXb.out 0).trans rfl
  have u1 : w9.cell? ⟨w6.heap.size, 1, none⟩ = some (.slice (some ⟨btx, 0, none⟩) tasks.length tasks.length) := (cellm hXb.out 1).trans rfl
  have him := hIm.out w9 (some ⟨bmx, 0, none⟩) (some ⟨btx, 0, none⟩) made.length tasks.length (some ⟨w7.heap.size, 0, none⟩) x1.length (some ⟨w8.heap.size, 0, none⟩) x2.length (hSx.out.at (by omega) (by unfold maxLen; omega) (by unfold maxLen; omega)) hI1x.out.row (Nat.le_refl _) (by unfold maxLen; omega) hI2x.out.row (Nat.le_refl _) (by unfold maxLen; omega)
  replace him := Lib.hid him
  go_wp2_with fail
  refine him.out.mono ?_
  rintro e w10 ⟨rfl, h10⟩
  clear him
  have s10 : w9.heap.size ≤ w10.heap.size := h10.size
  have b10 := below_up b9.out h10
  have bx10 := (h10.block _ (block_lt bx9.out)).trans bx9.out
  replace b10 := Lib.hid b10
  replace bx10 := Lib.hid bx10
  clear y0 y1
  have y0 : w10.cell? ⟨w.heap.size, 0, none⟩ = some (.slice Am made.length cm) := (cellm bx10.out 0).trans rfl
  have y1 : w10.cell? ⟨w.heap.size, 1, none⟩ = some (.slice At tasks.length ct) := (cellm bx10.out 1).trans rfl
  replace hSx := Lib.hid (hSx.out.kept (fun b q1 q2 => h10.block b (by omega)) (Nat.le_refl _))
  replace hXb := Lib.hid ((h10.block _ (block_lt hXb.out)).trans hXb.out)
  replace hI1x := Lib.hid (hI1x.out.turn (h10.block _ hI1x.out.lt))
  replace hI2x := Lib.hid (hI2x.out.turn (h10.block _ hI2x.out.lt))
  clear h10 b9 bx9
  clear u0 u1
  have u0 : w10.cell? ⟨w6.heap.size, 0, none⟩ = some (.slice (some ⟨bmx, 0, none⟩) made.length made.length) := (cellm hXb.out 0).trans rfl
  have u1 : w10.cell? ⟨w6.heap.size, 1, none⟩ = some (.slice (some ⟨btx, 0, none⟩) tasks.length tasks.length) := (cellm hXb.out 1).trans rfl
  have hneq : (rb != rb) = false := by cases rb <;> rfl
  have htoq := hto.out w10.drew b10.out.drew
  replace htoq := Lib.hid htoq
  go_wp2_with fail
  go_region_held3 (fun w' => w'.cell? ⟨w.heap.size, 0, none⟩ = some (.slice Am made.length cm) ∧ w'.cell? ⟨w.heap.size, 1, none⟩ = some (.slice At tasks.length ct) ∧ w'.cell? ⟨w6.heap.size, 0, none⟩ = some (.slice (some ⟨bmx, 0, none⟩) made.length made.length) ∧ w'.cell? ⟨w6.heap.size, 1, none⟩ = some (.slice (some ⟨btx, 0, none⟩) tasks.length tasks.length))
    (first | exact ⟨l0, l1, l2, l3⟩ | exact ⟨k0, k1, k2, k3⟩ | exact ⟨y0, y1, u0, u1⟩)
    (first
      | (go_at_call 14; go_must (refine htoq.out.mono ?_; rintro e w11 ⟨bmc, btc, midc, rfl, hSc, h11⟩; replace h11 : Below w10.heap.size w10 w11 := (Below.refl _ _).drew.trans h11; have s11 : w10.heap.size ≤ w11.heap.size := h11.size; have hSx2 := hSx.out.kept (hi' := w11.heap.size) (fun b q1 q2 => h11.block b (Nat.lt_of_lt_of_le q2 (by omega))) (by omega); have k0 := kept_cell h11 (block_lt bx10.out) y0; have k1 := kept_cell h11 (block_lt bx10.out) y1; have k2 := kept_cell h11 (block_lt hXb.out) u0; have k3 := kept_cell h11 (block_lt hXb.out) u1; have heqs := eqSheet_same (some ⟨bmx, 0, none⟩) (some ⟨btx, 0, none⟩) (some ⟨bmc, 0, none⟩) (some ⟨btc, 0, none⟩) made.length tasks.length made.length tasks.length made tasks w11 (hSx2.at (Nat.le_refl _) (by unfold maxLen; omega) (by unfold maxLen; omega)) (hSc.at (Nat.le_refl _) (by unfold maxLen; omega) (by unfold maxLen; omega)); replace heqs := Lib.hid heqs; replace h11 := Lib.hid h11; clear hSc hSx2))
      | (go_at_call 17; refine heqs.out.mono ?_; rintro e w12 ⟨rfl, h12⟩; have l0 := kept_cell h12 (by have := block_lt bx10.out; omega) k0; have l1 := kept_cell h12 (by have := block_lt bx10.out; omega) k1; have l2 := kept_cell h12 (by have := block_lt hXb.out; omega) k2; have l3 := kept_cell h12 (by have := block_lt hXb.out; omega) k3))
  all_goals
    have h12 : Below w10.heap.size w10 w12 := (h11.out).trans (h12.mono h11.out.size)
    clear k0 k1 k2 k3 l0 l1 l2 l3 heqs
    have s12 : w10.heap.size ≤ w12.heap.size := h12.size
    have b12 := below_up b10.out h12
    have bx12 := (h12.block _ (block_lt bx10.out)).trans bx10.out
    replace b12 := Lib.hid b12
    replace bx12 := Lib.hid bx12
    clear y0 y1
    have y0 : w12.cell? ⟨w.heap.size, 0, none⟩ = some (.slice Am made.length cm) := (cellm bx12.out 0).trans rfl
    have y1 : w12.cell? ⟨w.heap.size, 1, none⟩ = some (.slice At tasks.length ct) := (cellm bx12.out 1).trans rfl
    replace hSx := Lib.hid (hSx.out.kept (fun b q1 q2 => h12.block b (by omega)) (Nat.le_refl _))
    replace hXb := Lib.hid ((h12.block _ (block_lt hXb.out)).trans hXb.out)
    replace hI1x := Lib.hid (hI1x.out.turn (h12.block _ hI1x.out.lt))
    replace hI2x := Lib.hid (hI2x.out.turn (h12.block _ hI2x.out.lt))
    clear h12
    clear u0 u1
    have u0 : w12.cell? ⟨w6.heap.size, 0, none⟩ = some (.slice (some ⟨bmx, 0, none⟩) made.length made.length) := (cellm hXb.out 0).trans rfl
    have u1 : w12.cell? ⟨w6.heap.size, 1, none⟩ = some (.slice (some ⟨btx, 0, none⟩) tasks.length tasks.length) := (cellm hXb.out 1).trans rfl
    go_wp2_with fail
    refine (hti1.out _ b12.out).mono ?_
    rintro e w13 ⟨rfl, hI1c, h13⟩
    have s13 : w12.heap.size ≤ w13.heap.size := h13.size
    have b13 := below_up b12.out h13
    have bx13 := (h13.block _ (block_lt bx12.out)).trans bx12.out
    replace b13 := Lib.hid b13
    replace bx13 := Lib.hid bx13
    clear y0 y1
    have y0 : w13.cell? ⟨w.heap.size, 0, none⟩ = some (.slice Am made.length cm) := (cellm bx13.out 0).trans rfl
    have y1 : w13.cell? ⟨w.heap.size, 1, none⟩ = some (.slice At tasks.length ct) := (cellm bx13.out 1).trans rfl
    replace hSx := Lib.hid (hSx.out.kept (fun b q1 q2 => h13.block b (by omega)) (Nat.le_refl _))
    replace hXb := Lib.hid ((h13.block _ (block_lt hXb.out)).trans hXb.out)
    replace hI1x := Lib.hid (hI1x.out.turn (h13.block _ hI1x.out.lt))
    replace hI2x := Lib.hid (hI2x.out.turn (h13.block _ hI2x.out.lt))
    clear h13 b12 bx12
    clear u0 u1
    have u0 : w13.cell? ⟨w6.heap.size, 0, none⟩ = some (.slice (some ⟨bmx, 0, none⟩) made.length made.length) := (cellm hXb.out 0).trans rfl
    have u1 : w13.cell? ⟨w6.heap.size, 1, none⟩ = some (.slice (some ⟨btx, 0, none⟩) tasks.length tasks.length) := (cellm hXb.out 1).trans rfl
    have heq := eqIntS_same (some ⟨w7.heap.size, 0, none⟩) (some ⟨w12.heap.size, 0, none⟩) x1.length x1.length x1 w13 (by unfold maxLen; omega) hI1x.out.row hI1c.row
    replace heq := Lib.hid heq
    clear hI1c
    go_wp2_with fail
    refine heq.out.mono ?_
    rintro e w14 ⟨rfl, h14⟩
    clear heq
    have s14 : w13.heap.size ≤ w14.heap.size := h14.size
    have b14 := below_up b13.out h14
    have bx14 := (h14.block _ (block_lt bx13.out)).trans bx13.out
    replace b14 := Lib.hid b14
    replace bx14 := Lib.hid bx14
    clear y0 y1
    have y0 : w14.cell? ⟨w.heap.size, 0, none⟩ = some (.slice Am made.length cm) := (cellm bx14.out 0).trans rfl
    have y1 : w14.cell? ⟨w.heap.size, 1, none⟩ = some (.slice At tasks.length ct) := (cellm bx14.out 1).trans rfl
    replace hSx := Lib.hid (hSx.out.kept (fun b q1 q2 => h14.block b (by omega)) (Nat.le_refl _))
    replace hXb := Lib.hid ((h14.block _ (block_lt hXb.out)).trans hXb.out)
    replace hI1x := Lib.hid (hI1x.out.turn (h14.block _ hI1x.out.lt))
    replace hI2x := Lib.hid (hI2x.out.turn (h14.block _ hI2x.out.lt))
    clear h14 b13 bx13
    clear u0 u1
    have u0 : w14.cell? ⟨w6.heap.size, 0, none⟩ = some (.slice (some ⟨bmx, 0, none⟩) made.length made.length) := (cellm hXb.out 0).trans rfl
    have u1 : w14.cell? ⟨w6.heap.size, 1, none⟩ = some (.slice (some ⟨btx, 0, none⟩) tasks.length tasks.length) := (cellm hXb.out 1).trans rfl
    go_wp2_with fail
    refine (hti2.out _ b14.out).mono ?_
    rintro e w15 ⟨rfl, hI2c, h15⟩
    have s15 : w14.heap.size ≤ w15.heap.size := h15.size
    have b15 := below_up b14.out h15
    have bx15 := (h15.block _ (block_lt bx14.out)).trans bx14.out
    replace b15 := Lib.hid b15
    replace bx15 := Lib.hid bx15
    clear y0 y1
    have y0 : w15.cell? ⟨w.heap.size, 0, none⟩ = some (.slice Am made.length cm) := (cellm bx15.out 0).trans rfl
    have y1 : w15.cell? ⟨w.heap.size, 1, none⟩ = some (.slice At tasks.length ct) := (cellm bx15.out 1).trans rfl
    replace hSx := Lib.hid (hSx.out.kept (fun b q1 q2 => h15.block b (by omega)) (Nat.le_refl _))
    replace hXb := Lib.hid ((h15.block _ (block_lt hXb.out)).trans hXb.out)
    replace hI1x := Lib.hid (hI1x.out.turn (h15.block _ hI1x.out.lt))
    replace hI2x := Lib.hid (hI2x.out.turn (h15.block _ hI2x.out.lt))
    clear h15 b14 bx14
    clear u0 u1
    have u0 : w15.cell? ⟨w6.heap.size, 0, none⟩ = some (.slice (some ⟨bmx, 0, none⟩) made.length made.length) := (cellm hXb.out 0).trans rfl
    have u1 : w15.cell? ⟨w6.heap.size, 1, none⟩ = some (.slice (some ⟨btx, 0, none⟩) tasks.length tasks.length) := (cellm hXb.out 1).trans rfl
    have heq := eqIntS_same (some ⟨w8.heap.size, 0, none⟩) (some ⟨w14.heap.size, 0, none⟩) x2.length x2.length x2 w15 (by unfold maxLen; omega) hI2x.out.row hI2c.row
    replace heq := Lib.hid heq
    clear hI2c
    go_wp2_with fail
    refine heq.out.mono ?_
    rintro e w16 ⟨rfl, h16⟩
    clear heq
    have s16 : w15.heap.size ≤ w16.heap.size := h16.size
    have b16 := below_up b15.out h16
    have bx16 := (h16.block _ (block_lt bx15.out)).trans bx15.out
    replace b16 := Lib.hid b16
    replace bx16 := Lib.hid bx16
    clear y0 y1
    have y0 : w16.cell? ⟨w.heap.size, 0, none⟩ = some (.slice Am made.length cm) := (cellm bx16.out 0).trans rfl
    have y1 : w16.cell? ⟨w.heap.size, 1, none⟩ = some (.slice At tasks.length ct) := (cellm bx16.out 1).trans rfl
    replace hSx := Lib.hid (hSx.out.kept (fun b q1 q2 => h16.block b (by omega)) (Nat.le_refl _))
    replace hXb := Lib.hid ((h16.block _ (block_lt hXb.out)).trans hXb.out)
    replace hI1x := Lib.hid (hI1x.out.turn (h16.block _ hI1x.out.lt))
    replace hI2x := Lib.hid (hI2x.out.turn (h16.block _ hI2x.out.lt))
    clear h16 b15 bx15
    clear u0 u1
    have u0 : w16.cell? ⟨w6.heap.size, 0, none⟩ = some (.slice (some ⟨bmx, 0, none⟩) made.length made.length) := (cellm hXb.out 0).trans rfl
    have u1 : w16.cell? ⟨w6.heap.size, 1, none⟩ = some (.slice (some ⟨btx, 0, none⟩) tasks.length tasks.length) := (cellm hXb.out 1).trans rfl
    go_wp2_with fail
    go_ret
    exact ⟨rfl, b16.out⟩
end Go.Proofs.Ytpccgdkidnkppaa

set_option linter.unusedVariables false
namespace Go.Proofs.Ytpccgdkidnkppaa
open Go Go.RowKit Go.ChangeShapes Go.WideShapes Go.Deep

/-! what came in, read off the frame -/
section
variable {H : Type} {enc : TypeId × Value → H} {P : Program} {w : World} {base : Nat} {spare : Nat → Bool} {held : Bool}
theorem row_open {t e : TypeId} {fuel : Nat} {c : Value} {x : DataW H × List MemPlace} (ht : P.underlying t = some (.slice e)) (h : DataW.trod enc P w base spare held fuel t [c] = some x) :
    c = .slice none 0 0 ∨ ∃ (a : Addr) (len cap n : Nat), fuel = n + 1 ∧ c = .slice (some a) len cap ∧ len ≤ cap ∧ cap ≤ maxLen ∧ ∀ i, i < len → ∃ cs y, cs.length = P.cellsOf e ∧ (∀ q, q < P.cellsOf e → w.cell? ((a.add (i * P.cellsOf e)).add q) = cs[q]?) ∧ DataW.trod enc P w base spare held n e cs = some y := by
  rcases DataW.trod_slice ht h with ⟨h0, _⟩ | ⟨a, len, cap, elems, rest, n, hf, hcs, hx, hb, hl, hm, hlen, hel, _⟩
  · left; simpa using h0
  · right
    refine ⟨a, len, cap, n, hf, by simpa using hcs, hl, hm, fun i hi => ?_⟩
    have h1 := hel i hi
    rw [List.getElem?_eq_getElem (by omega)] at h1
    obtain ⟨cs, h2, h3⟩ := Option.bind_eq_some_iff.1 h1
    obtain ⟨_, h4, h5⟩ := World.cells?_some h2
    exact ⟨cs, _, h4, h5, h3⟩
theorem addr_plain {a : Addr} {i : Nat} {v : Value} (h : w.cell? (a.add i) = some v) (h0 : i = 0 ∨ ∃ v0, w.cell? a = some v0) : ∃ b o, a = ⟨b, o, none⟩ := by
  obtain ⟨b, o, s⟩ := a
  rcases h0 with rfl | ⟨v0, h0⟩
  · have := World.cell?_spot h
    simp [Addr.add] at this
    exact ⟨b, o, by rw [this]⟩
  · have := World.cell?_spot h0
    simp at this
    exact ⟨b, o, by rw [this]⟩
/-- a row of one-cell elements -/
theorem one_open {α : Type} {f : α → Value} {t e : TypeId} {fuel : Nat} {c : Value} {x : DataW H × List MemPlace} (ht : P.underlying t = some (.slice e)) (hc : P.cellsOf e = 1)
    (he : ∀ n cs y, DataW.trod enc P w base spare held n e cs = some y → ∃ u, cs = [f u]) (h : DataW.trod enc P w base spare held fuel t [c] = some x) :
    ∃ A len cap xs, c = .slice A len cap ∧ xs.length = len ∧ len ≤ cap ∧ cap ≤ maxLen ∧ RowAt f w.heap.size w A xs := by
  rcases row_open ht h with rfl | ⟨a, len, cap, n, -, rfl, hl, hm, hi⟩
  · exact ⟨none, 0, 0, [], rfl, rfl, Nat.le_refl _, by simp [maxLen], RowAt.nil _ _ _ _⟩
  rw [hc] at hi
  have hv : ∀ i, i < len → ∃ u, w.cell? (a.add i) = some (f u) := by
    intro i hlt
    obtain ⟨cs, y, h1, h2, h3⟩ := hi i hlt
    obtain ⟨u, rfl⟩ := he _ _ _ h3
    have := h2 0 (by omega)
    rw [Nat.mul_one] at this
    exact ⟨u, by simpa [Addr.add] using this⟩
  obtain ⟨V, hV⟩ : ∃ V : (i : Nat) → i < len → α, ∀ i h, w.cell? (a.add i) = some (f (V i h)) := ⟨fun i h => (hv i h).choose, fun i h => (hv i h).choose_spec⟩
  refine ⟨some a, len, cap, (List.range len).attach.map (fun i => V i.1 (List.mem_range.1 i.2)), rfl, by simp, hl, hm, fun i hlt => ?_⟩
  have hlt' : i < len := by simpa using hlt
  have h0 := hV 0 (by omega)
  obtain ⟨b, o, rfl⟩ := addr_plain h0 (.inl rfl)
  have h1 := hV i hlt'
  have e : (⟨b, o, none⟩ : Addr).add i = ⟨b, o + i, none⟩ := add_plain ..
  rw [e] at h1
  exact ⟨b, o, rfl, World.block_lt_of_cell? w _ h1, by simpa using h1⟩
theorem bools_open {t e : TypeId} {fuel : Nat} {c : Value} {x : DataW H × List MemPlace} (ht : P.underlying t = some (.slice e)) (he : P.underlying e = some .bool) (hc : P.cellsOf e = 1) (h : DataW.trod enc P w base spare held fuel t [c] = some x) :
    ∃ A len cap xs, c = .slice A len cap ∧ xs.length = len ∧ len ≤ cap ∧ cap ≤ maxLen ∧ BoolsAt w.heap.size w A xs :=
  one_open ht hc (fun n cs y hy => by obtain ⟨b, rfl, _⟩ := DataW.trod_bool he hy; exact ⟨b, rfl⟩) h
theorem ints_open {t e : TypeId} {fuel : Nat} {c : Value} {x : DataW H × List MemPlace} (ht : P.underlying t = some (.slice e)) (he : P.underlying e = some (.int .i64)) (hc : P.cellsOf e = 1) (h : DataW.trod enc P w base spare held fuel t [c] = some x) :
    ∃ A len cap xs, c = .slice A len cap ∧ xs.length = len ∧ len ≤ cap ∧ cap ≤ maxLen ∧ IntsAt w.heap.size w A xs :=
  one_open ht hc (fun n cs y hy => by obtain ⟨k, rfl, _⟩ := DataW.trod_int he hy; exact ⟨k, rfl⟩) h

/-- a tree of tasks: of any struct of two numbers and a row of such -/
theorem tasks_open {t e ti : TypeId} {fs : Array Field} (ht : P.underlying t = some (.slice e)) (he : P.underlying e = some (.struct fs)) (hc : P.cellsOf e = 3) (hti : P.underlying ti = some (.int .i64)) (hci : P.cellsOf ti = 1) (hct : P.cellsOf t = 1)
    (h0 : ∃ f, fs[0]? = some f ∧ f.type = ti ∧ f.offset = 0) (h1 : ∃ f, fs[1]? = some f ∧ f.type = ti ∧ f.offset = 1) (h2 : ∃ f, fs[2]? = some f ∧ f.type = t ∧ f.offset = 2) :
    ∀ (fuel : Nat) (c : Value) (x : DataW H × List MemPlace), DataW.trod enc P w base spare held fuel t [c] = some x → ∃ A len cap ps, c = .slice A len cap ∧ ps.length = len ∧ len ≤ cap ∧ cap ≤ maxLen ∧ PartsIs w.heap.size w A 0 ps := by
  intro fuel
  induction fuel using Nat.strongRecOn with
  | ind fuel ih =>
  intro c x h
  rcases row_open ht h with rfl | ⟨a, len, cap, n, rfl, rfl, hl, hm, hi⟩
  · exact ⟨none, 0, 0, [], rfl, rfl, Nat.le_refl _, by simp [maxLen], by rw [PartsIs]; trivial⟩
  rw [hc] at hi
  have hv : ∀ i, i < len → ∃ k m A' c' ps, w.cell? ((a.add (i * 3)).add 0) = some (.int .i64 k) ∧ w.cell? ((a.add (i * 3)).add 1) = some (.int .i64 m) ∧ w.cell? ((a.add (i * 3)).add 2) = some (.slice A' (List.length ps) c') ∧ List.length ps ≤ c' ∧ c' ≤ maxLen ∧ PartsIs w.heap.size w A' 0 ps := by
    intro i hlt
    obtain ⟨cs, y, g1, g2, g3⟩ := hi i hlt
    obtain ⟨ys, n', hn', -, -, hys, hf⟩ := DataW.trod_struct he g3
    match cs, g1 with
    | [c0, c1, c2], _ =>
      obtain ⟨f0, e0, t0, o0⟩ := h0
      obtain ⟨f1, e1, t1, o1⟩ := h1
      obtain ⟨f2, e2, t2, o2⟩ := h2
      have q0 := hf 0 f0 e0
      have q1 := hf 1 f1 e1
      have q2 := hf 2 f2 e2
      have l0 := (Array.getElem?_eq_some_iff.1 e0).1
      have l1 := (Array.getElem?_eq_some_iff.1 e1).1
      have l2 := (Array.getElem?_eq_some_iff.1 e2).1
      rw [t0, o0, hci, List.getElem?_eq_getElem (by omega)] at q0
      rw [t1, o1, hci, List.getElem?_eq_getElem (by omega)] at q1
      rw [t2, o2, hct, List.getElem?_eq_getElem (by omega)] at q2
      simp only [List.drop_zero, List.drop_succ_cons, List.take_succ_cons, List.take_zero] at q0 q1 q2
      obtain ⟨k, r0, -⟩ := DataW.trod_int hti q0
      obtain ⟨m, r1, -⟩ := DataW.trod_int hti q1
      obtain ⟨A', len', cap', ps, r2, p1, p2, p3, p4⟩ := ih n' (by omega) c2 _ q2
      simp only [List.cons.injEq, and_true] at r0 r1
      subst r0 r1 r2 p1
      exact ⟨k, m, A', cap', ps, by simpa using g2 0 (by omega), by simpa using g2 1 (by omega), by simpa using g2 2 (by omega), p2, p3, p4⟩
  obtain ⟨T, hT⟩ : ∃ T : (i : Nat) → i < len → Task, ∀ i h, ∃ A' c', w.cell? ((a.add (i * 3)).add 0) = some (.int .i64 (T i h).kind) ∧ w.cell? ((a.add (i * 3)).add 1) = some (.int .i64 (T i h).n) ∧ w.cell? ((a.add (i * 3)).add 2) = some (.slice A' (T i h).parts.length c') ∧ (T i h).parts.length ≤ c' ∧ c' ≤ maxLen ∧ PartsIs w.heap.size w A' 0 (T i h).parts := by
    have hv' : ∀ i, i < len → ∃ t : Task, ∃ A' c', w.cell? ((a.add (i * 3)).add 0) = some (.int .i64 t.kind) ∧ w.cell? ((a.add (i * 3)).add 1) = some (.int .i64 t.n) ∧ w.cell? ((a.add (i * 3)).add 2) = some (.slice A' t.parts.length c') ∧ t.parts.length ≤ c' ∧ c' ≤ maxLen ∧ PartsIs w.heap.size w A' 0 t.parts := fun i hlt => by
      obtain ⟨k, m, A', c', ps, q⟩ := hv i hlt
      exact ⟨.mk k m ps, A', c', q⟩
    exact ⟨fun i h => (hv' i h).choose, fun i h => (hv' i h).choose_spec⟩
  obtain ⟨qs, hlen, hget⟩ : ∃ qs : List Task, qs.length = len ∧ ∀ i (h : i < len) (h2 : i < qs.length), qs[i] = T i h := ⟨(List.range len).attach.map (fun i => T i.1 (List.mem_range.1 i.2)), by simp, fun i h h2 => by simp⟩
  refine ⟨some a, len, cap, qs, rfl, hlen, hl, hm, ?_⟩
  have hstep : ∀ (l : List Task) (k : Nat), (∀ i (h : i < l.length), ∃ h2 : k + i < len, l[i] = T (k + i) h2) → PartsIs w.heap.size w (some a) k l := by
    intro l
    induction l with
    | nil => intro k _; rw [PartsIs]; trivial
    | cons t ts ihl =>
      intro k hk
      rw [PartsIs]
      refine ⟨?_, ihl (k + 1) fun i h => ?_⟩
      · obtain ⟨h2, e⟩ := hk 0 (by simp)
        simp only [List.getElem_cons_zero, Nat.add_zero] at e h2
        obtain ⟨A', c', q0, q1, q2, q3, q4, q5⟩ := hT k h2
        obtain ⟨A0, c0, r0, -⟩ := hT 0 (by omega)
        rw [Nat.zero_mul] at r0
        have r0' : w.cell? (a.add 0) = some (.int .i64 (T 0 (by omega)).kind) := by simpa [Addr.add] using r0
        obtain ⟨b, o, rfl⟩ := addr_plain r0' (.inl rfl)
        simp only [add_plain] at q0 q1 q2
        rw [e]
        refine ⟨b, o, _, _, _, rfl, World.block_lt_of_cell? w _ q0, q0, q1, q2, ?_⟩
        generalize T k h2 = tk at *
        cases tk with
        | mk k' n' ps' => rw [TaskIs]; exact ⟨A', c', rfl, q3, q4, q5⟩
      · obtain ⟨h2, e⟩ := hk (i + 1) (by simpa using h)
        exact ⟨by omega, by simpa [Nat.add_assoc, Nat.add_comm 1 i] using e⟩
  exact hstep qs 0 fun i h => ⟨by omega, by rw [hget i (by omega) h]; simp⟩
end
end Go.Proofs.Ytpccgdkidnkppaa

set_option linter.unusedVariables false
set_option linter.unusedSimpArgs false
namespace Go.Proofs.Ytpccgdkidnkppaa
open Go Go.RowKit Go.ChangeShapes Go.WideShapes Go.Deep
section
variable {H : Type} {enc : TypeId × Value → H} {w : World} {base : Nat} {spare : Nat → Bool} {held : Bool}
theorem cell1_bool : Try.prog.cellsOf 4 = 1 := by kernel_rfl
theorem cell1_int : Try.prog.cellsOf 3 = 1 := by kernel_rfl
set_option maxRecDepth 100000 in
theorem ints_came {d : DataW H} {p : List MemPlace} {A : Option Addr} {len c : Nat} (h : DataW.Trod enc Try.prog w base spare held 26 (.slice A len c) d p) :
    ∃ xs, xs.length = len ∧ len ≤ c ∧ c ≤ maxLen ∧ IntsAt w.heap.size w A xs := by
  obtain ⟨fuel, hf⟩ := h
  obtain ⟨A', len', c', xs, e, h1, h2, h3, h4⟩ := ints_open Try.underlying26 Try.underlying3 cell1_int (c := .slice A len c) (by simpa [Value.cells] using hf)
  cases e
  exact ⟨xs, h1, h2, h3, h4⟩

set_option maxRecDepth 100000 in
theorem sheet_came {r : Reach} {b0 : Nat} {v : Value} {d : DataW H} {p : List MemPlace} (hv : Value.okWide Try.prog w r b0 25 v) (h : DataW.Trod enc Try.prog w base spare held 25 v d p) :
    ∃ Am cm At ct made tasks, v = .agg #[.slice Am made.length cm, .slice At tasks.length ct] ∧ SheetAt w.heap.size w Am cm At ct made tasks := by
  obtain ⟨cs, rfl, hsz⟩ := okWide_struct Try.underlying25 hv
  have hC : Try.prog.cellsOf 25 = 2 := by kernel_rfl
  obtain ⟨l⟩ := cs
  match l, hsz.trans hC with
  | [c0, c1], _ =>
    obtain ⟨fuel, hf⟩ := h
    obtain ⟨xs, n, _, hx, _, hlen, hg⟩ := DataW.trod_struct Try.underlying25 hf
    have q0 := hg 0 _ rfl
    have q1 := hg 1 _ rfl
    have k0 : Try.prog.cellsOf 22 = 1 := by kernel_rfl
    have k1 : Try.prog.cellsOf 23 = 1 := by kernel_rfl
    have hl2 : xs.length = 2 := hlen
    simp only [Value.cells, k0, k1, List.drop_zero, List.drop_succ_cons, List.take_succ_cons, List.take_zero] at q0 q1
    rw [List.getElem?_eq_getElem (by omega)] at q0 q1
    obtain ⟨Am, nm, cm, made, rfl, rfl, h2, h3, h4⟩ := bools_open Try.underlying22 Try.underlying4 cell1_bool q0
    obtain ⟨At, nt, ct, tasks, rfl, rfl, g2, g3, g4⟩ := tasks_open Try.underlying23 Try.underlying136 (by kernel_rfl) Try.underlying3 cell1_int k1 ⟨_, rfl, rfl, rfl⟩ ⟨_, rfl, rfl, rfl⟩ ⟨_, rfl, rfl, rfl⟩ n c1 _ q1
    exact ⟨Am, cm, At, ct, made, tasks, rfl, ⟨h2, h3, g2, g3, h4, g4⟩⟩
end
end Go.Proofs.Ytpccgdkidnkppaa

set_option linter.unusedVariables false
set_option linter.unusedSimpArgs false
namespace Go.Proofs.Ytpccgdkidnkppaa
open Go Go.RowKit

/-! what a task fetches, each once -/
def usesL : List (Int × Int) → List Int → List Int
  | [], out => out
  | f :: fs, out => usesL fs (if out.contains f.1 then out else out ++ [f.1])
def onceL2 : List (Int × Int) → List (Int × Int) → List (Int × Int)
  | [], out => out
  | f :: fs, out => onceL2 fs (if out.any (fun g => g.1 == f.1) then out else out ++ [f])
theorem any_keys (out : List (Int × Int)) (k : Int) : out.any (fun g => g.1 == k) = (out.map Prod.fst).contains k := by
  induction out with
  | nil => rfl
  | cons g gs ih =>
    rw [List.any_cons, List.map_cons, List.contains_cons, ih]
    congr 1
    rw [Bool.eq_iff_iff, beq_iff_eq, beq_iff_eq]
    exact eq_comm
theorem once_map : ∀ (l out : List (Int × Int)), (onceL2 l out).map Prod.fst = usesL l (out.map Prod.fst) := by
  intro l
  induction l with
  | nil => intro out; rfl
  | cons f fs ih =>
    intro out
    rw [onceL2, usesL, ih, any_keys]
    split
    · rfl
    · rw [List.map_append]; rfl
theorem usesL_mem : ∀ (l : List (Int × Int)) (out : List Int) (j : Int), j ∈ usesL l out ↔ j ∈ out ∨ ∃ f ∈ l, f.1 = j := by
  intro l
  induction l with
  | nil => intro out j; simp [usesL]
  | cons f fs ih =>
    intro out j
    rw [usesL, ih]
    by_cases h : out.contains f.1 = true
    · rw [if_pos h]
      have hf : f.1 ∈ out := by simpa using h
      constructor
      · rintro (h | ⟨g, hg, e⟩)
        · exact .inl h
        · exact .inr ⟨g, List.mem_cons_of_mem _ hg, e⟩
      · rintro (h | ⟨g, hg, e⟩)
        · exact .inl h
        · rcases List.mem_cons.1 hg with rfl | hg
          · exact .inl (e ▸ hf)
          · exact .inr ⟨g, hg, e⟩
    · rw [if_neg h]
      constructor
      · rintro (h | ⟨g, hg, e⟩)
        · rcases List.mem_append.1 h with h | h
          · exact .inl h
          · exact .inr ⟨f, List.mem_cons_self .., (List.mem_singleton.1 h).symm⟩
        · exact .inr ⟨g, List.mem_cons_of_mem _ hg, e⟩
      · rintro (h | ⟨g, hg, e⟩)
        · exact .inl (List.mem_append_left _ h)
        · rcases List.mem_cons.1 hg with rfl | hg
          · exact .inl (List.mem_append_right _ (by rw [e]; exact List.mem_singleton.2 rfl))
          · exact .inr ⟨g, hg, e⟩
theorem onceL2_length : ∀ (l out : List (Int × Int)), (onceL2 l out).length ≤ l.length + out.length := by
  intro l
  induction l with
  | nil => intro out; simp [onceL2]
  | cons f fs ih =>
    intro out
    rw [onceL2]
    by_cases h : out.any (fun g => g.1 == f.1) = true
    · rw [if_pos h]; have := ih out; simp only [List.length_cons]; omega
    · rw [if_neg h]; have := ih (out ++ [f]); simp only [List.length_cons, List.length_append, List.length_nil] at this ⊢; omega
theorem usesL_length : ∀ (l : List (Int × Int)) (out : List Int), (usesL l out).length ≤ l.length + out.length := by
  intro l
  induction l with
  | nil => intro out; simp [usesL]
  | cons f fs ih =>
    intro out
    rw [usesL]
    by_cases h : out.contains f.1 = true
    · rw [if_pos h]; have := ih out; simp only [List.length_cons]; omega
    · rw [if_neg h]; have := ih (out ++ [f.1]); simp only [List.length_cons, List.length_append, List.length_nil] at this ⊢; omega

theorem fetched_itr (t : Tk) (xs : List Int) : fetchedP t xs = t.itr.run (fetF xs) [] := Tk.run_itr _ (fun s k h => by simp [fetF] at h) t []
theorem fet_length (xs : List Int) : ∀ (m : Itr) (n : Nat) (l : List (Int × Int)), m.le n → (m.run (fetF xs) l).2.length ≤ l.length + n := by
  intro m
  induction m with
  | done v => intro n l _; simp [Itr.run]
  | ask k c ih =>
    intro n l h
    cases n with
    | zero => exact h.elim
    | succ n =>
      rw [Itr.run_yes (by simp [fetF])]
      have := ih (fetF xs l k).1.1 n (fetF xs l k).2 (h _)
      simp [fetF] at this ⊢
      omega
theorem fetched_length (t : Tk) (xs : List Int) : (fetchedP t xs).2.length ≤ t.fets := by
  rw [fetched_itr]
  have := fet_length xs t.itr t.fets [] (Tk.itr_le t)
  simpa using this
theorem fet_keys (xs : List Int) : ∀ (m : Itr) (l : List (Int × Int)), m.ok → (∀ f ∈ l, 0 ≤ f.1 ∧ f.1 ≤ 9 ∧ f.2 = atK xs f.1) → ∀ f ∈ (m.run (fetF xs) l).2, 0 ≤ f.1 ∧ f.1 ≤ 9 ∧ f.2 = atK xs f.1 := by
  intro m
  induction m with
  | done v => intro l _ h; exact h
  | ask k c ih =>
    intro l h hl
    obtain ⟨h0, h9, hc⟩ := h
    rw [Itr.run_yes (by simp [fetF])]
    refine ih _ _ (hc _) (fun f hf => ?_)
    rcases List.mem_append.1 hf with hf | hf
    · exact hl f hf
    · rw [List.mem_singleton.1 hf]; exact ⟨h0, h9, rfl⟩
theorem fetched_keys {t : Tk} (h : t.ok) (xs : List Int) : ∀ f ∈ (fetchedP t xs).2, 0 ≤ f.1 ∧ f.1 ≤ 9 ∧ f.2 = atK xs f.1 := by
  rw [fetched_itr]
  exact fet_keys xs t.itr [] (Tk.itr_ok t h) (fun f hf => by cases hf)
def usesP (t : Tk) (xs : List Int) : List Int := usesL (fetchedP t xs).2 []
theorem usesP_length (t : Tk) (xs : List Int) : (usesP t xs).length ≤ t.fets := by
  have h1 := usesL_length (fetchedP t xs).2 []
  have h2 := fetched_length t xs
  unfold usesP
  simp at h1; omega
theorem usesP_keys {t : Tk} (h : t.ok) (xs : List Int) : ∀ j ∈ usesP t xs, 0 ≤ j ∧ j ≤ 9 := by
  intro j hj
  rcases (usesL_mem _ _ _).1 hj with h1 | ⟨f, hf, rfl⟩
  · cases h1
  · have := fetched_keys h xs f hf
    exact ⟨this.1, this.2.1⟩

/-! whether an order fits -/
def fitAt (S : Sh) (vals order : List Int) (i : Nat) (k : Int) : Bool := mkK S.made k && !(order.take i).contains k && (usesP (S.tk k) vals).all (fun j => !mkK S.made j || (order.take i).contains j)
def fitsL (S : Sh) (vals order : List Int) (i : Nat) : Bool := (List.range' i (order.length - i)).all fun j => fitAt S vals order j (order.getD j 0)
def fitsP (S : Sh) (vals order : List Int) : Bool := fitsL S vals order 0
theorem fitsL_step {S : Sh} {vals order : List Int} {i : Nat} (h : i < order.length) : fitsL S vals order i = (fitAt S vals order i order[i] && fitsL S vals order (i + 1)) := by
  unfold fitsL
  obtain ⟨n, hn⟩ : ∃ n, order.length - i = n + 1 := ⟨order.length - i - 1, by omega⟩
  rw [hn, List.range'_succ, List.all_cons, show order.length - (i + 1) = n by omega]
  congr 2
  simp [h]
theorem fitsL_end {S : Sh} {vals order : List Int} {i : Nat} (h : ¬ i < order.length) : fitsL S vals order i = true := by
  unfold fitsL
  rw [show order.length - i = 0 by omega]
  rfl
theorem fitsP_iff {S : Sh} {vals order : List Int} : fitsP S vals order = true ↔ ∀ i (hi : i < order.length), fitAt S vals order i order[i] = true := by
  unfold fitsP fitsL
  rw [List.all_eq_true]
  constructor
  · intro h i hi
    have := h i (by rw [List.mem_range']; exact ⟨i, by omega, by omega⟩)
    simpa [hi] using this
  · intro h j hj
    rw [List.mem_range'] at hj
    obtain ⟨q, hq, rfl⟩ := hj
    have hl : q < order.length := by omega
    have := h q hl
    simpa [hl] using this
/-- an order without its last key -/
theorem fits_last {S : Sh} {vals order : List Int} (h : fitsP S vals order = true) : fitsP S vals (order.take (order.length - 1)) = true := by
  rw [fitsP_iff] at h ⊢
  intro i hi
  rw [List.length_take] at hi
  have h1 := h i (by omega)
  rw [List.getElem_take]
  unfold fitAt at h1 ⊢
  rw [List.take_take, Nat.min_eq_left (by omega)]
  exact h1
end Go.Proofs.Ytpccgdkidnkppaa

set_option linter.unusedVariables false
set_option linter.unusedSimpArgs false
namespace Go.Proofs.Ytpccgdkidnkppaa
open Go Go.RowKit

set_option maxHeartbeats 1000000 in
theorem task_zero (R : RdEnv) (hR : R.Good) (G : Rows) (p : Nat) (hp : p + 3 ≤ 1000000) (below : Int) (w : World) (h : RdAt R p w) (hG : TyH R.g R.B G w) :
    Calls Try.prog 147 #[.pointer (some ⟨R.g, 0, none⟩), .int .i64 below, .int .i64 0] w (DrawT R G p 3 0 w) := by
  have hs := DSt.start h hG
  have h1 := pick_calls R hR p (by omega) 9 _ hs.rd
  replace h1 := Lib.hid h1
  replace hs := Lib.hid hs
  clear h hG
  go_enter Try.func147, Try.ntmps147
  go_wp2_with fail
  refine h1.out.mono ?_
  rintro e w1 ⟨k, rfl, hk0, hk1, hr, ht⟩
  have hk1 : k < 9 := by omega
  have hs1 := hs.out.step hr ht
  have h2 := pick_calls R hR (p + 1) (by omega) 97 w1 hr
  have h3 := l91Key_calls R hR (p + 1) (by omega) below w1 hr
  replace hs1 := Lib.hid hs1
  replace h2 := Lib.hid h2
  replace h3 := Lib.hid h3
  clear hs h1 hr ht
  by_cases c1 : k % 2 = 0 ∨ below = 0
  · have arm : ∀ (K : Prop), ((k % 2 == 0) = true → K) → ((k % 2 == 0) = false → (below == 0) = true → K) → K := by
      intro K a b
      by_cases c2 : k % 2 = 0
      · exact a (by simp [c2])
      · exact b (by simp [c2]) (by simp; omega)
    refine arm _ (fun e1 => ?_) (fun e1 e2 => ?_) <;>
    · go_wp2_with fail
      refine h2.out.mono ?_
      rintro e w2 ⟨n, rfl, _, _, hr2, ht2⟩
      have hs2 := hs1.out.step hr2 ht2
      obtain ⟨x0, x1, x2, f0, f1, f2⟩ := hs2.cells
      have z2 := hs2.lt
      replace hs2 := Lib.hid hs2
      clear h2 h3 hr2 ht2
      go_wp2_with fail
      exact hs2.out.done rfl rfl (tyv_leaf _ _ _ _ (by omega)) ⟨by omega, by omega⟩
  · have e1 : (k % 2 == 0) = false := by simp; omega
    have e2 : (below == 0) = false := by simp; omega
    go_wp2_with fail
    refine h3.out.mono ?_
    rintro e w2 ⟨p2, n, rfl, hp1, hp2, hr2, ht2⟩
    have hs2 := hs1.out.step hr2 ht2
    obtain ⟨x0, x1, x2, f0, f1, f2⟩ := hs2.cells
    have z2 := hs2.lt
    replace hs2 := Lib.hid hs2
    clear h2 h3 hr2 ht2
    go_wp2_with fail
    exact hs2.out.done rfl rfl (tyv_leaf _ _ _ _ (by omega)) ⟨by omega, by omega⟩

/-- draws of tasks, so deep -/
def TaskDraws (R : RdEnv) (D : Int) (c r : Nat) : Prop := ∀ (G : Rows) (p : Nat) (below : Int) (w : World), p + c ≤ 1000000 → RdAt R p w → TyH R.g R.B G w →
    Calls Try.prog 147 #[.pointer (some ⟨R.g, 0, none⟩), .int .i64 below, .int .i64 D] w (DrawT R G p c r w)

set_option maxHeartbeats 2000000 in
theorem task_succ (R : RdEnv) (hR : R.Good) (D : Int) (c r : Nat) (hD : 1 ≤ D) (hD3 : D ≤ 3) (hc : 3 ≤ c) (ih : TaskDraws R (D - 1) c r) : TaskDraws R D (3 * c + 3) (r + 1) := by
  intro G p below w hp h hG
  have hs := DSt.start h hG
  have h1 := pick_calls R hR p (by omega) 9 _ hs.rd
  have e0 : (D == 0) = false := by simp; omega
  replace h1 := Lib.hid h1
  replace hs := Lib.hid hs
  replace ih := Lib.hid ih
  clear h hG
  go_enter Try.func147, Try.ntmps147
  go_wp2_with fail
  refine h1.out.mono ?_
  rintro e w1 ⟨k, rfl, hk0, hk1, hr, ht⟩
  have hk1 : k < 9 := by omega
  have hs1 := hs.out.step hr ht
  replace hs1 := Lib.hid hs1
  clear hs h1 hr ht
  by_cases c1 : k < 3
  · have h2 := pick_calls R hR (p + 1) (by omega) 97 w1 hs1.out.rd
    have h3 := l91Key_calls R hR (p + 1) (by omega) below w1 hs1.out.rd
    replace h2 := Lib.hid h2
    replace h3 := Lib.hid h3
    by_cases c1 : k % 2 = 0 ∨ below = 0
    · have arm : ∀ (K : Prop), ((k % 2 == 0) = true → K) → ((k % 2 == 0) = false → (below == 0) = true → K) → K := by
        intro K a b
        by_cases c2 : k % 2 = 0
        · exact a (by simp [c2])
        · exact b (by simp [c2]) (by simp; omega)
      refine arm _ (fun e1 => ?_) (fun e1 e2 => ?_) <;>
      · go_wp2_with fail
        refine h2.out.mono ?_
        rintro e w2 ⟨n, rfl, _, _, hr2, ht2⟩
        have hs2 := hs1.out.step hr2 ht2
        obtain ⟨x0, x1, x2, f0, f1, f2⟩ := hs2.cells
        have z2 := hs2.lt
        replace hs2 := Lib.hid hs2
        clear h2 h3 hr2 ht2
        go_wp2_with fail
        exact hs2.out.done rfl rfl (tyv_leaf _ _ _ _ (by omega)) ⟨by omega, by omega⟩
    · have e1 : (k % 2 == 0) = false := by simp; omega
      have e2 : (below == 0) = false := by simp; omega
      go_wp2_with fail
      refine h3.out.mono ?_
      rintro e w2 ⟨p2, n, rfl, hp1, hp2, hr2, ht2⟩
      have hs2 := hs1.out.step hr2 ht2
      obtain ⟨x0, x1, x2, f0, f1, f2⟩ := hs2.cells
      have z2 := hs2.lt
      replace hs2 := Lib.hid hs2
      clear h2 h3 hr2 ht2
      go_wp2_with fail
      exact hs2.out.done rfl rfl (tyv_leaf _ _ _ _ (by omega)) ⟨by omega, by omega⟩
  by_cases c2 : k < 5
  · have hd1 := ih.out G (p + 1) below w1 (by omega) hs1.out.rd hs1.out.ty
    replace hd1 := Lib.hid hd1
    go_wp2_with fail
    refine hd1.out.mono ?_
    rintro e W1 ⟨q1, G1, v1, rfl, hv1, hq1, hQ1, hr1, ht1, he1, hy1⟩
    have hs2 := hs1.out.draw hr1 ht1 he1 hy1
    replace hs2 := Lib.hid hs2
    have hv1' := hv1
    obtain ⟨a1, b1, A1, m1, d1, rfl, _⟩ := hv1'
    clear hr1 ht1 hy1 hd1
    replace hv1 := Lib.hid hv1
    replace he1 := Lib.hid he1
    have hd2 := ih.out G1 (q1) below W1 (by omega) hs2.out.rd hs2.out.ty
    replace hd2 := Lib.hid hd2
    go_wp2_with fail
    refine hd2.out.mono ?_
    rintro e W2 ⟨q2, G2, v2, rfl, hv2, hq2, hQ2, hr2, ht2, he2, hy2⟩
    have hs3 := hs2.out.draw hr2 ht2 he2 hy2
    replace hs3 := Lib.hid hs3
    have hv2' := hv2
    obtain ⟨a2, b2, A2, m2, d2, rfl, _⟩ := hv2'
    clear hr2 ht2 hy2 hd2
    replace hv2 := Lib.hid hv2
    replace he2 := Lib.hid he2
    have hs' := hs3.out.row r 2 #[.int .i64 a1, .int .i64 b1, .slice A1 m1 d1, .int .i64 a2, .int .i64 b2, .slice A2 m2 d2] (row2 (hv1.out.ext he2.out (Nat.le_refl _)) hv2.out)
    obtain ⟨x0, x1, x2, f0, f1, f2⟩ := hs3.out.cells
    have z2 := hs3.out.lt
    replace hs' := Lib.hid hs'
    clear hs2 hs3 hv1 he1 hv2 he2 ih
    go_wp2_with fail
    exact hs'.out.done' z2 rfl rfl (tyv_row _ _ _ 2 2 _ (by omega) (by omega)) ⟨by omega, by omega⟩
  by_cases c3 : k = 5
  · subst c3
    have hd1 := ih.out G (p + 1) below w1 (by omega) hs1.out.rd hs1.out.ty
    replace hd1 := Lib.hid hd1
    go_wp2_with fail
    refine hd1.out.mono ?_
    rintro e W1 ⟨q1, G1, v1, rfl, hv1, hq1, hQ1, hr1, ht1, he1, hy1⟩
    have hs2 := hs1.out.draw hr1 ht1 he1 hy1
    replace hs2 := Lib.hid hs2
    have hv1' := hv1
    obtain ⟨a1, b1, A1, m1, d1, rfl, _⟩ := hv1'
    clear hr1 ht1 hy1 hd1
    replace hv1 := Lib.hid hv1
    replace he1 := Lib.hid he1
    have hd2 := ih.out G1 (q1) below W1 (by omega) hs2.out.rd hs2.out.ty
    replace hd2 := Lib.hid hd2
    go_wp2_with fail
    refine hd2.out.mono ?_
    rintro e W2 ⟨q2, G2, v2, rfl, hv2, hq2, hQ2, hr2, ht2, he2, hy2⟩
    have hs3 := hs2.out.draw hr2 ht2 he2 hy2
    replace hs3 := Lib.hid hs3
    have hv2' := hv2
    obtain ⟨a2, b2, A2, m2, d2, rfl, _⟩ := hv2'
    clear hr2 ht2 hy2 hd2
    replace hv2 := Lib.hid hv2
    replace he2 := Lib.hid he2
    have hs' := hs3.out.row r 2 #[.int .i64 a1, .int .i64 b1, .slice A1 m1 d1, .int .i64 a2, .int .i64 b2, .slice A2 m2 d2] (row2 (hv1.out.ext he2.out (Nat.le_refl _)) hv2.out)
    obtain ⟨x0, x1, x2, f0, f1, f2⟩ := hs3.out.cells
    have z2 := hs3.out.lt
    replace hs' := Lib.hid hs'
    clear hs2 hs3 hv1 he1 hv2 he2 ih
    go_wp2_with fail
    exact hs'.out.done' z2 rfl rfl (tyv_row _ _ _ 2 3 _ (by omega) (by omega)) ⟨by omega, by omega⟩
  have e3 : (k == 5) = false := by simp [c3]
  by_cases c4 : k < 8
  · have hd1 := ih.out G (p + 1) below w1 (by omega) hs1.out.rd hs1.out.ty
    replace hd1 := Lib.hid hd1
    go_wp2_with fail
    refine hd1.out.mono ?_
    rintro e W1 ⟨q1, G1, v1, rfl, hv1, hq1, hQ1, hr1, ht1, he1, hy1⟩
    have hs2 := hs1.out.draw hr1 ht1 he1 hy1
    replace hs2 := Lib.hid hs2
    have hv1' := hv1
    obtain ⟨a1, b1, A1, m1, d1, rfl, _⟩ := hv1'
    clear hr1 ht1 hy1 hd1
    replace hv1 := Lib.hid hv1
    replace he1 := Lib.hid he1
    have hd2 := ih.out G1 (q1) below W1 (by omega) hs2.out.rd hs2.out.ty
    replace hd2 := Lib.hid hd2
    go_wp2_with fail
    refine hd2.out.mono ?_
    rintro e W2 ⟨q2, G2, v2, rfl, hv2, hq2, hQ2, hr2, ht2, he2, hy2⟩
    have hs3 := hs2.out.draw hr2 ht2 he2 hy2
    have hsz2 := ht2.size
    replace hs3 := Lib.hid hs3
    have hv2' := hv2
    obtain ⟨a2, b2, A2, m2, d2, rfl, _⟩ := hv2'
    clear hr2 ht2 hy2 hd2
    replace hv2 := Lib.hid hv2
    replace he2 := Lib.hid he2
    have hd3 := ih.out G2 (q2) below W2 (by omega) hs3.out.rd hs3.out.ty
    replace hd3 := Lib.hid hd3
    go_wp2_with fail
    refine hd3.out.mono ?_
    rintro e W3 ⟨q3, G3, v3, rfl, hv3, hq3, hQ3, hr3, ht3, he3, hy3⟩
    have hs4 := hs3.out.draw hr3 ht3 he3 hy3
    replace hs4 := Lib.hid hs4
    have hv3' := hv3
    obtain ⟨a3, b3, A3, m3, d3, rfl, _⟩ := hv3'
    clear hr3 ht3 hy3 hd3
    replace hv3 := Lib.hid hv3
    replace he3 := Lib.hid he3
    have hr_le1 : W1.heap.size ≤ W2.heap.size := hsz2
    have hs' := hs4.out.row r 3 #[.int .i64 a1, .int .i64 b1, .slice A1 m1 d1, .int .i64 a2, .int .i64 b2, .slice A2 m2 d2, .int .i64 a3, .int .i64 b3, .slice A3 m3 d3] (row3 (hv1.out.ext (he2.out.trans he3.out (by have := hr_le1; omega)) (Nat.le_refl _)) (hv2.out.ext he3.out (Nat.le_refl _)) hv3.out)
    obtain ⟨x0, x1, x2, f0, f1, f2⟩ := hs4.out.cells
    have z2 := hs4.out.lt
    replace hs' := Lib.hid hs'
    clear hs2 hs3 hs4 hv1 he1 hv2 he2 hv3 he3 ih
    go_wp2_with fail
    exact hs'.out.done' z2 rfl rfl (tyv_row _ _ _ 3 4 _ (by omega) (by omega)) ⟨by omega, by omega⟩
  have hpk := pick_calls R hR (p + 1) (by omega) 3 w1 hs1.out.rd
  replace hpk := Lib.hid hpk
  go_wp2_with fail
  refine hpk.out.mono ?_
  rintro e w2 ⟨k2, rfl, hk2, _, hr2, ht2⟩
  have hs0 := hs1.out.step hr2 ht2
  replace hs0 := Lib.hid hs0
  clear hpk hr2 ht2 hs1
  by_cases c5 : 0 < k2
  · have hd1 := ih.out G (p + 1 + 1) below w2 (by omega) hs0.out.rd hs0.out.ty
    replace hd1 := Lib.hid hd1
    go_wp2_with fail
    refine hd1.out.mono ?_
    rintro e W1 ⟨q1, G1, v1, rfl, hv1, hq1, hQ1, hr1, ht1, he1, hy1⟩
    have hs2 := hs0.out.draw hr1 ht1 he1 hy1
    replace hs2 := Lib.hid hs2
    have hv1' := hv1
    obtain ⟨a1, b1, A1, m1, d1, rfl, _⟩ := hv1'
    clear hr1 ht1 hy1 hd1
    replace hv1 := Lib.hid hv1
    replace he1 := Lib.hid he1
    have hd2 := ih.out G1 (q1) below W1 (by omega) hs2.out.rd hs2.out.ty
    replace hd2 := Lib.hid hd2
    go_wp2_with fail
    refine hd2.out.mono ?_
    rintro e W2 ⟨q2, G2, v2, rfl, hv2, hq2, hQ2, hr2, ht2, he2, hy2⟩
    have hs3 := hs2.out.draw hr2 ht2 he2 hy2
    have hsz2 := ht2.size
    replace hs3 := Lib.hid hs3
    have hv2' := hv2
    obtain ⟨a2, b2, A2, m2, d2, rfl, _⟩ := hv2'
    clear hr2 ht2 hy2 hd2
    replace hv2 := Lib.hid hv2
    replace he2 := Lib.hid he2
    have hd3 := ih.out G2 (q2) below W2 (by omega) hs3.out.rd hs3.out.ty
    replace hd3 := Lib.hid hd3
    go_wp2_with fail
    refine hd3.out.mono ?_
    rintro e W3 ⟨q3, G3, v3, rfl, hv3, hq3, hQ3, hr3, ht3, he3, hy3⟩
    have hs4 := hs3.out.draw hr3 ht3 he3 hy3
    replace hs4 := Lib.hid hs4
    have hv3' := hv3
    obtain ⟨a3, b3, A3, m3, d3, rfl, _⟩ := hv3'
    clear hr3 ht3 hy3 hd3
    replace hv3 := Lib.hid hv3
    replace he3 := Lib.hid he3
    have hr_le1 : W1.heap.size ≤ W2.heap.size := hsz2
    have hs' := hs4.out.row r 3 #[.int .i64 a1, .int .i64 b1, .slice A1 m1 d1, .int .i64 a2, .int .i64 b2, .slice A2 m2 d2, .int .i64 a3, .int .i64 b3, .slice A3 m3 d3] (row3 (hv1.out.ext (he2.out.trans he3.out (by have := hr_le1; omega)) (Nat.le_refl _)) (hv2.out.ext he3.out (Nat.le_refl _)) hv3.out)
    obtain ⟨x0, x1, x2, f0, f1, f2⟩ := hs4.out.cells
    have z2 := hs4.out.lt
    replace hs' := Lib.hid hs'
    clear hs2 hs3 hs4 hv1 he1 hv2 he2 hv3 he3 ih
    go_wp2_with fail
    exact hs'.out.done' z2 rfl rfl (tyv_row _ _ _ 3 4 _ (by omega) (by omega)) ⟨by omega, by omega⟩
  · have hpk := pick_calls R hR (p + 1 + 1) (by omega) 10 w2 hs0.out.rd
    replace hpk := Lib.hid hpk
    go_wp2_with fail
    refine hpk.out.mono ?_
    rintro e w3 ⟨k3, rfl, hk3, _, hr2, ht2⟩
    have hs1 := hs0.out.step hr2 ht2
    replace hs1 := Lib.hid hs1
    clear hpk hr2 ht2 hs0
    have hd1 := ih.out G (p + 1 + 1 + 1) below w3 (by omega) hs1.out.rd hs1.out.ty
    replace hd1 := Lib.hid hd1
    go_wp2_with fail
    refine hd1.out.mono ?_
    rintro e W1 ⟨q1, G1, v1, rfl, hv1, hq1, hQ1, hr1, ht1, he1, hy1⟩
    have hs2 := hs1.out.draw hr1 ht1 he1 hy1
    replace hs2 := Lib.hid hs2
    have hv1' := hv1
    obtain ⟨a1, b1, A1, m1, d1, rfl, _⟩ := hv1'
    clear hr1 ht1 hy1 hd1
    replace hv1 := Lib.hid hv1
    replace he1 := Lib.hid he1
    have hs' := hs2.out.row r 1 #[.int .i64 a1, .int .i64 b1, .slice A1 m1 d1] (row1 hv1.out)
    obtain ⟨x0, x1, x2, f0, f1, f2⟩ := hs2.out.cells
    have z2 := hs2.out.lt
    replace hs' := Lib.hid hs'
    clear hs2 hv1 he1 ih
    go_wp2_with fail
    exact hs'.out.done' z2 rfl rfl (tyv_row _ _ _ 1 5 _ (by omega) (by omega)) ⟨by omega, by omega⟩
end Go.Proofs.Ytpccgdkidnkppaa
