import Derived.Test.YtagmdljdcnmpdaaExMark
import Derived.Test.YtagmdljdcnmpdaaExSz
import Derived.Test.YtagmdljdcnmpdaaMaps
import Derived.Test.YtagmdljdcnmpdaaCircle
set_option linter.unusedVariables false
set_option linter.unusedSimpArgs false
namespace Go.Proofs.Ytagmdljdcnmpdaa
open Go Go.RowKit

/-- both sides give the same, the program's in memory of its own -/
def BothCircleOf (made : List Bool) (tasks : List Task) (x1 : List Int) (n2 : Int) (r : List Int × Bool) : Prop :=
  (∀ (w : World) (Am At : Option Addr) (cm ct : Nat) (A1 : Option Addr) (c1 : Nat), SheetAt w.heap.size w Am cm At ct made tasks → IntsAt w.heap.size w A1 x1 → x1.length ≤ c1 → c1 ≤ maxLen → Calls Try.prog 22 #[.agg #[.slice Am made.length cm, .slice At tasks.length ct], .slice A1 x1.length c1, .int .i64 n2] w (fun e w' => GivesOwn w.heap.size r e w w')) ∧
  (∀ (w : World) (Am At : Option Addr) (cm ct : Nat) (A1 : Option Addr) (c1 : Nat), SheetAt w.heap.size w Am cm At ct made tasks → IntsAt w.heap.size w A1 x1 → x1.length ≤ c1 → c1 ≤ maxLen → Calls Try.prog 23 #[.agg #[.slice Am made.length cm, .slice At tasks.length ct], .slice A1 x1.length c1, .int .i64 n2] w (fun e w' => GivesList r e w w'))
set_option maxRecDepth 10000 in
set_option maxHeartbeats 16000000 in
theorem fnExactCircleOf_calls (Am At : Option Addr) (cm ct : Nat) (made : List Bool) (tasks : List Task) (A1 : Option Addr) (c1 : Nat) (x1 : List Int) (n2 : Int) (w : World) (hs : SheetAt w.heap.size w Am cm At ct made tasks) (hi1 : IntsAt w.heap.size w A1 x1) (hl1 : x1.length ≤ c1) (hc1 : c1 ≤ maxLen) 
    (H : (made.length : Int) + nodesL tasks ≤ 1048576 → x1.length ≤ 1048576 → ∃ r, r.1.length ≤ 1000000 ∧ BothCircleOf made tasks x1 n2 r) :
    Calls Try.prog 7 #[.agg #[.slice Am made.length cm, .slice At tasks.length ct], .slice A1 x1.length c1, .int .i64 n2] w fun e w' => e = .returned (.bool true) ∧ Below w.heap.size w w' := by
  have hsl := Nat.le_trans hs.lt hs.mt
  have hml := Nat.le_trans hs.lm hs.mm
  have hb1 := Nat.le_trans hl1 hc1
  unfold maxLen at hsl hml hb1
  by_cases big1 : 1048576 < x1.length
  · clear H hs
    go_enter Try.func7, Try.ntmps7
    go_wp2_with fail
    go_ret
    exact ⟨rfl, below_al (Below.refl _ _) _⟩
  have li1 : x1.length ≤ 1048576 := by omega
  have hsz := fun w1 (hw : Below w.heap.size w w1) => szSheet_calls Am At made.length cm ct tasks 1048576 w.heap.size w w1 hw hw.size (Nat.le_trans hs.lm hs.mm) hs.lt hs.mt hs.tasks (by omega) (by omega)
  have hto := fun (h1 : made.length ≤ 1048576) (h2 : nodesL tasks ≤ 1048576) w1 (hw : Below w.heap.size w w1) => toSheet_calls Am At cm ct made tasks w.heap.size w w1 hw hw.size h1 hs.made h2 hs.lt hs.mt hs.tasks
  have hti1 := fun w1 (hw : Below w.heap.size w w1) => toIntS_calls A1 c1 x1 w.heap.size w w1 hw hw.size li1 hi1
  replace hsz := Lib.hid hsz
  replace hto := Lib.hid hto
  replace H := Lib.hid H
  replace hti1 := Lib.hid hti1
  clear hs hi1
  go_enter Try.func7, Try.ntmps7
  go_wp2_with fail
  refine (hsz.out _ (below_al (Below.refl _ _) _)).mono ?_
  rintro e w1 ⟨r, rfl, hz, h1⟩
  have bx1 := (h1.block w.heap.size (by simp)).trans (heap_new rfl)
  have b1 := below_from h1
  have s1 : w.heap.size < w1.heap.size := by have := h1.size; simp at this; omega
  replace b1 := Lib.hid b1
  clear h1 hsz
  rcases hz with rfl | ⟨hz0, hz1⟩
  · go_wp2_with fail
    go_ret
    exact ⟨rfl, b1.out⟩
  have hn : ¬ r < 0 := by omega
  have hnp := nodesL_pos tasks
  have htl := parts_len tasks
  have hm1 : made.length ≤ 1048576 := by omega
  have hn1 : nodesL tasks ≤ 1048576 := by omega
  obtain ⟨R, hRl, hIm, hSp⟩ := H.out (by omega) li1
  obtain ⟨rl, rb⟩ := R
  dsimp only at hRl
  have hto := hto.out hm1 hn1
  replace hz1 := Lib.hid hz1
  replace hto := Lib.hid hto
  replace hIm := Lib.hid hIm
  replace hSp := Lib.hid hSp
  replace bx1 := Lib.hid bx1
  clear H
  have y0 : w1.cell? ⟨w.heap.size, 0, none⟩ = some (.slice Am made.length cm) := (cellm bx1.out 0).trans rfl
  have y1 : w1.cell? ⟨w.heap.size, 1, none⟩ = some (.slice At tasks.length ct) := (cellm bx1.out 1).trans rfl
  go_wp2_with fail
  refine (hto.out _ b1.out).mono ?_
  rintro e w2 ⟨bma, bta, mida, rfl, hSa, h2⟩
  have s2 : w1.heap.size ≤ w2.heap.size := h2.size
  have b2 := below_up b1.out h2
  have bx2 := (h2.block _ (block_lt bx1.out)).trans bx1.out
  replace b2 := Lib.hid b2
  replace bx2 := Lib.hid bx2
  clear y0 y1
  have y0 : w2.cell? ⟨w.heap.size, 0, none⟩ = some (.slice Am made.length cm) := (cellm bx2.out 0).trans rfl
  have y1 : w2.cell? ⟨w.heap.size, 1, none⟩ = some (.slice At tasks.length ct) := (cellm bx2.out 1).trans rfl
  clear h2 b1 bx1
  have ea : w2.heap.size ≤ w2.heap.size := Nat.le_refl _
  replace hSa := Lib.hid hSa
  go_wp2_with fail
  refine (hti1.out _ b2.out).mono ?_
  rintro e w3 ⟨rfl, hI1a, h3⟩
  have s3 : w2.heap.size ≤ w3.heap.size := h3.size
  have b3 := below_up b2.out h3
  have bx3 := (h3.block _ (block_lt bx2.out)).trans bx2.out
  replace b3 := Lib.hid b3
  replace bx3 := Lib.hid bx3
  clear y0 y1
  have y0 : w3.cell? ⟨w.heap.size, 0, none⟩ = some (.slice Am made.length cm) := (cellm bx3.out 0).trans rfl
  have y1 : w3.cell? ⟨w.heap.size, 1, none⟩ = some (.slice At tasks.length ct) := (cellm bx3.out 1).trans rfl
  replace hSa := Lib.hid (hSa.out.kept (fun b q1 q2 => h3.block b (by omega)) (Nat.le_refl _))
  clear h3 b2 bx2
  replace hI1a := Lib.hid hI1a
  have hsp := hSp.out w3 (some ⟨bma, 0, none⟩) (some ⟨bta, 0, none⟩) made.length tasks.length (some ⟨w2.heap.size, 0, none⟩) x1.length (hSa.out.at (by omega) (by unfold maxLen; omega) (by unfold maxLen; omega)) hI1a.out.row (Nat.le_refl _) (by unfold maxLen; omega)
  replace hsp := Lib.hid hsp
  go_wp2_with fail
  refine hsp.out.mono ?_
  rintro e w4 ⟨Aw, cw, rfl, hw1, hw2, hW, h4⟩
  clear hsp hSp
  dsimp only at hw1 hW ⊢
  have s4 : w3.heap.size ≤ w4.heap.size := h4.size
  have b4 := below_up b3.out h4
  have bx4 := (h4.block _ (block_lt bx3.out)).trans bx3.out
  replace b4 := Lib.hid b4
  replace bx4 := Lib.hid bx4
  clear y0 y1
  have y0 : w4.cell? ⟨w.heap.size, 0, none⟩ = some (.slice Am made.length cm) := (cellm bx4.out 0).trans rfl
  have y1 : w4.cell? ⟨w.heap.size, 1, none⟩ = some (.slice At tasks.length ct) := (cellm bx4.out 1).trans rfl
  clear h4 b3 bx3
  replace hW := Lib.hid hW
  go_wp2_with fail
  refine (hto.out _ b4.out).mono ?_
  rintro e w5 ⟨bmx, btx, midx, rfl, hSx, h5⟩
  have s5 : w4.heap.size ≤ w5.heap.size := h5.size
  have b5 := below_up b4.out h5
  have bx5 := (h5.block _ (block_lt bx4.out)).trans bx4.out
  replace b5 := Lib.hid b5
  replace bx5 := Lib.hid bx5
  clear y0 y1
  have y0 : w5.cell? ⟨w.heap.size, 0, none⟩ = some (.slice Am made.length cm) := (cellm bx5.out 0).trans rfl
  have y1 : w5.cell? ⟨w.heap.size, 1, none⟩ = some (.slice At tasks.length ct) := (cellm bx5.out 1).trans rfl
  replace hW := Lib.hid (hW.out.up (h5.mono (by omega)) (Nat.le_refl _))
  clear h5 b4 bx4
  have hXb : (w5.alloc (.cells #[.slice (some ⟨bmx, 0, none⟩) made.length made.length, .slice (some ⟨btx, 0, none⟩) tasks.length tasks.length] 26 (0, 0))).heap[w5.heap.size]? = some (.cells #[.slice (some ⟨bmx, 0, none⟩) made.length made.length, .slice (some ⟨btx, 0, none⟩) tasks.length tasks.length] 26 (0, 0)) := heap_new rfl
  obtain ⟨w6, hw6⟩ : ∃ w6, w6 = w5.alloc (.cells #[.slice (some ⟨bmx, 0, none⟩) made.length made.length, .slice (some ⟨btx, 0, none⟩) tasks.length tasks.length] 26 (0, 0)) := ⟨_, rfl⟩
  have h6 : Below w5.heap.size w5 w6 := by rw [hw6]; exact below_al (Below.refl _ _) _
  have sx6 : w5.heap.size < w6.heap.size := by rw [hw6]; simp
  have xsz : w6.heap.size = w5.heap.size + 1 := by rw [hw6]; simp
  rw [← hw6] at hXb
  replace hw6 := Lib.hid hw6
  replace hXb := Lib.hid hXb
  replace xsz := Lib.hid xsz
  replace hSx := Lib.hid hSx
  have s6 : w5.heap.size ≤ w6.heap.size := h6.size
  have b6 := below_up b5.out h6
  have bx6 := (h6.block _ (block_lt bx5.out)).trans bx5.out
  replace b6 := Lib.hid b6
  replace bx6 := Lib.hid bx6
  clear y0 y1
  have y0 : w6.cell? ⟨w.heap.size, 0, none⟩ = some (.slice Am made.length cm) := (cellm bx6.out 0).trans rfl
  have y1 : w6.cell? ⟨w.heap.size, 1, none⟩ = some (.slice At tasks.length ct) := (cellm bx6.out 1).trans rfl
  replace hW := Lib.hid (hW.out.up (h6.mono (by omega)) (Nat.le_refl _))
  replace hSx := Lib.hid (hSx.out.kept (fun b q1 q2 => h6.block b (by omega)) (Nat.le_refl _))
  clear h6 b5 bx5
  go_wp2_with fail
  have hcc := (hti1.out _ b6.out)
  rw [hw6.out] at hcc
  refine hcc.mono ?_
  clear hcc
  rw [← hw6.out]
  rintro e w7 ⟨rfl, hI1x, h7⟩
  have sx7 : w6.heap.size < w7.heap.size := hI1x.lt
  have s7 : w6.heap.size ≤ w7.heap.size := h7.size
  have b7 := below_up b6.out h7
  have bx7 := (h7.block _ (block_lt bx6.out)).trans bx6.out
  replace b7 := Lib.hid b7
  replace bx7 := Lib.hid bx7
  clear y0 y1
  have y0 : w7.cell? ⟨w.heap.size, 0, none⟩ = some (.slice Am made.length cm) := (cellm bx7.out 0).trans rfl
  have y1 : w7.cell? ⟨w.heap.size, 1, none⟩ = some (.slice At tasks.length ct) := (cellm bx7.out 1).trans rfl
  replace hW := Lib.hid (hW.out.up (h7.mono (by omega)) (Nat.le_refl _))
  replace hSx := Lib.hid (hSx.out.kept (fun b q1 q2 => h7.block b (by omega)) (Nat.le_refl _))
  replace hXb := Lib.hid ((h7.block _ (block_lt hXb.out)).trans hXb.out)
  clear h7 b6 bx6
  replace hI1x := Lib.hid hI1x
  have u0 : w7.cell? ⟨w5.heap.size, 0, none⟩ = some (.slice (some ⟨bmx, 0, none⟩) made.length made.length) := (cellm hXb.out 0).trans rfl
  have u1 : w7.cell? ⟨w5.heap.size, 1, none⟩ = some (.slice (some ⟨btx, 0, none⟩) tasks.length tasks.length) := (cellm hXb.out 1).trans rfl
  have him := hIm.out w7 (some ⟨bmx, 0, none⟩) (some ⟨btx, 0, none⟩) made.length tasks.length (some ⟨w6.heap.size, 0, none⟩) x1.length (hSx.out.at (by omega) (by unfold maxLen; omega) (by unfold maxLen; omega)) hI1x.out.row (Nat.le_refl _) (by unfold maxLen; omega)
  replace him := Lib.hid him
  go_wp2_with fail
  refine him.out.mono ?_
  rintro e w8 ⟨g0, rfl, hG, h8⟩
  clear him
  dsimp only at hG ⊢
  have s8 : w7.heap.size ≤ w8.heap.size := h8.size
  have b8 := below_up b7.out h8
  have bx8 := (h8.block _ (block_lt bx7.out)).trans bx7.out
  replace b8 := Lib.hid b8
  replace bx8 := Lib.hid bx8
  clear y0 y1
  have y0 : w8.cell? ⟨w.heap.size, 0, none⟩ = some (.slice Am made.length cm) := (cellm bx8.out 0).trans rfl
  have y1 : w8.cell? ⟨w.heap.size, 1, none⟩ = some (.slice At tasks.length ct) := (cellm bx8.out 1).trans rfl
  replace hW := Lib.hid (hW.out.up (h8.mono (by omega)) (Nat.le_refl _))
  replace hSx := Lib.hid (hSx.out.kept (fun b q1 q2 => h8.block b (by omega)) (Nat.le_refl _))
  replace hXb := Lib.hid ((h8.block _ (block_lt hXb.out)).trans hXb.out)
  replace hI1x := Lib.hid (hI1x.out.turn (h8.block _ hI1x.out.lt))
  clear h8 b7 bx7
  replace hG := Lib.hid hG
  clear u0 u1
  have u0 : w8.cell? ⟨w5.heap.size, 0, none⟩ = some (.slice (some ⟨bmx, 0, none⟩) made.length made.length) := (cellm hXb.out 0).trans rfl
  have u1 : w8.cell? ⟨w5.heap.size, 1, none⟩ = some (.slice (some ⟨btx, 0, none⟩) tasks.length tasks.length) := (cellm hXb.out 1).trans rfl
  obtain ⟨Ag, cg, hg0, hg1, hg2, -⟩ := ownsRow_ints hG.out
  subst hg0
  unfold maxLen at hg2 hw2
  have hneq : (rb != rb) = false := by cases rb <;> rfl
  have heq := eqIntS_same (Ag) (Aw) cg cw rl w8 (by unfold maxLen; omega) (ownsRow_ints_of hG.out) (hW.out.up (Below.refl _ _) (by omega))
  replace heq := Lib.hid heq
  go_wp2_with fail
  refine heq.out.mono ?_
  rintro e w9 ⟨rfl, h9⟩
  clear heq
  have s9 : w8.heap.size ≤ w9.heap.size := h9.size
  have b9 := below_up b8.out h9
  have bx9 := (h9.block _ (block_lt bx8.out)).trans bx8.out
  replace b9 := Lib.hid b9
  replace bx9 := Lib.hid bx9
  clear y0 y1
  have y0 : w9.cell? ⟨w.heap.size, 0, none⟩ = some (.slice Am made.length cm) := (cellm bx9.out 0).trans rfl
  have y1 : w9.cell? ⟨w.heap.size, 1, none⟩ = some (.slice At tasks.length ct) := (cellm bx9.out 1).trans rfl
  replace hW := Lib.hid (hW.out.up (h9.mono (by omega)) (Nat.le_refl _))
  replace hSx := Lib.hid (hSx.out.kept (fun b q1 q2 => h9.block b (by omega)) (Nat.le_refl _))
  replace hXb := Lib.hid ((h9.block _ (block_lt hXb.out)).trans hXb.out)
  replace hI1x := Lib.hid (hI1x.out.turn (h9.block _ hI1x.out.lt))
  replace hG := Lib.hid (ownsRow_block hG.out (fun b hb => by have q1 := (hG.out.lt b hb).1; have q2 := (hG.out.lt b hb).2; exact h9.block b q2))
  clear h9 b8 bx8
  clear u0 u1
  have u0 : w9.cell? ⟨w5.heap.size, 0, none⟩ = some (.slice (some ⟨bmx, 0, none⟩) made.length made.length) := (cellm hXb.out 0).trans rfl
  have u1 : w9.cell? ⟨w5.heap.size, 1, none⟩ = some (.slice (some ⟨btx, 0, none⟩) tasks.length tasks.length) := (cellm hXb.out 1).trans rfl
  have htoq := hto.out w9.drew b9.out.drew
  replace htoq := Lib.hid htoq
  go_wp2_with fail
  go_region_held3 (fun w' => w'.cell? ⟨w.heap.size, 0, none⟩ = some (.slice Am made.length cm) ∧ w'.cell? ⟨w.heap.size, 1, none⟩ = some (.slice At tasks.length ct) ∧ w'.cell? ⟨w5.heap.size, 0, none⟩ = some (.slice (some ⟨bmx, 0, none⟩) made.length made.length) ∧ w'.cell? ⟨w5.heap.size, 1, none⟩ = some (.slice (some ⟨btx, 0, none⟩) tasks.length tasks.length))
    (first | exact ⟨l0, l1, l2, l3⟩ | exact ⟨k0, k1, k2, k3⟩ | exact ⟨y0, y1, u0, u1⟩)
    (first
      | (go_at_call 27; go_must (refine htoq.out.mono ?_; rintro e w10 ⟨bmc, btc, midc, rfl, hSc, h10⟩; replace h10 : Below w9.heap.size w9 w10 := (Below.refl _ _).drew.trans h10; have s10 : w9.heap.size ≤ w10.heap.size := h10.size; have hSx2 := hSx.out.kept (hi' := w10.heap.size) (fun b q1 q2 => h10.block b (Nat.lt_of_lt_of_le q2 (by omega))) (by omega); have k0 := kept_cell h10 (block_lt bx9.out) y0; have k1 := kept_cell h10 (block_lt bx9.out) y1; have k2 := kept_cell h10 (block_lt hXb.out) u0; have k3 := kept_cell h10 (block_lt hXb.out) u1; have heqs := eqSheet_same (some ⟨bmx, 0, none⟩) (some ⟨btx, 0, none⟩) (some ⟨bmc, 0, none⟩) (some ⟨btc, 0, none⟩) made.length tasks.length made.length tasks.length made tasks w10 (hSx2.at (Nat.le_refl _) (by unfold maxLen; omega) (by unfold maxLen; omega)) (hSc.at (Nat.le_refl _) (by unfold maxLen; omega) (by unfold maxLen; omega)); replace heqs := Lib.hid heqs; replace h10 := Lib.hid h10; clear hSc hSx2))
      | (go_at_call 30; refine heqs.out.mono ?_; rintro e w11 ⟨rfl, h11⟩; have l0 := kept_cell h11 (by have := block_lt bx9.out; omega) k0; have l1 := kept_cell h11 (by have := block_lt bx9.out; omega) k1; have l2 := kept_cell h11 (by have := block_lt hXb.out; omega) k2; have l3 := kept_cell h11 (by have := block_lt hXb.out; omega) k3))
  all_goals
    have h11 : Below w9.heap.size w9 w11 := (h10.out).trans (h11.mono h10.out.size)
    clear k0 k1 k2 k3 l0 l1 l2 l3 heqs
    have s11 : w9.heap.size ≤ w11.heap.size := h11.size
    have b11 := below_up b9.out h11
    have bx11 := (h11.block _ (block_lt bx9.out)).trans bx9.out
    replace b11 := Lib.hid b11
    replace bx11 := Lib.hid bx11
    clear y0 y1
    have y0 : w11.cell? ⟨w.heap.size, 0, none⟩ = some (.slice Am made.length cm) := (cellm bx11.out 0).trans rfl
    have y1 : w11.cell? ⟨w.heap.size, 1, none⟩ = some (.slice At tasks.length ct) := (cellm bx11.out 1).trans rfl
    replace hW := Lib.hid (hW.out.up (h11.mono (by omega)) (Nat.le_refl _))
    replace hSx := Lib.hid (hSx.out.kept (fun b q1 q2 => h11.block b (by omega)) (Nat.le_refl _))
    replace hXb := Lib.hid ((h11.block _ (block_lt hXb.out)).trans hXb.out)
    replace hI1x := Lib.hid (hI1x.out.turn (h11.block _ hI1x.out.lt))
    replace hG := Lib.hid (ownsRow_block hG.out (fun b hb => by have q1 := (hG.out.lt b hb).1; have q2 := (hG.out.lt b hb).2; exact h11.block b q2))
    clear h11
    clear u0 u1
    have u0 : w11.cell? ⟨w5.heap.size, 0, none⟩ = some (.slice (some ⟨bmx, 0, none⟩) made.length made.length) := (cellm hXb.out 0).trans rfl
    have u1 : w11.cell? ⟨w5.heap.size, 1, none⟩ = some (.slice (some ⟨btx, 0, none⟩) tasks.length tasks.length) := (cellm hXb.out 1).trans rfl
    go_wp2_with fail
    refine (hti1.out _ b11.out).mono ?_
    rintro e w12 ⟨rfl, hI1c, h12⟩
    have s12 : w11.heap.size ≤ w12.heap.size := h12.size
    have b12 := below_up b11.out h12
    have bx12 := (h12.block _ (block_lt bx11.out)).trans bx11.out
    replace b12 := Lib.hid b12
    replace bx12 := Lib.hid bx12
    clear y0 y1
    have y0 : w12.cell? ⟨w.heap.size, 0, none⟩ = some (.slice Am made.length cm) := (cellm bx12.out 0).trans rfl
    have y1 : w12.cell? ⟨w.heap.size, 1, none⟩ = some (.slice At tasks.length ct) := (cellm bx12.out 1).trans rfl
    replace hW := Lib.hid (hW.out.up (h12.mono (by omega)) (Nat.le_refl _))
    replace hSx := Lib.hid (hSx.out.kept (fun b q1 q2 => h12.block b (by omega)) (Nat.le_refl _))
    replace hXb := Lib.hid ((h12.block _ (block_lt hXb.out)).trans hXb.out)
    replace hI1x := Lib.hid (hI1x.out.turn (h12.block _ hI1x.out.lt))
    replace hG := Lib.hid (ownsRow_block hG.out (fun b hb => by have q1 := (hG.out.lt b hb).1; have q2 := (hG.out.lt b hb).2; exact h12.block b q2))
    clear h12 b11 bx11
    clear u0 u1
    have u0 : w12.cell? ⟨w5.heap.size, 0, none⟩ = some (.slice (some ⟨bmx, 0, none⟩) made.length made.length) := (cellm hXb.out 0).trans rfl
    have u1 : w12.cell? ⟨w5.heap.size, 1, none⟩ = some (.slice (some ⟨btx, 0, none⟩) tasks.length tasks.length) := (cellm hXb.out 1).trans rfl
    have heq := eqIntS_same (some ⟨w6.heap.size, 0, none⟩) (some ⟨w11.heap.size, 0, none⟩) x1.length x1.length x1 w12 (by unfold maxLen; omega) hI1x.out.row hI1c.row
    replace heq := Lib.hid heq
    clear hI1c
    go_wp2_with fail
    refine heq.out.mono ?_
    rintro e w13 ⟨rfl, h13⟩
    clear heq
    have s13 : w12.heap.size ≤ w13.heap.size := h13.size
    have b13 := below_up b12.out h13
    have bx13 := (h13.block _ (block_lt bx12.out)).trans bx12.out
    replace b13 := Lib.hid b13
    replace bx13 := Lib.hid bx13
    clear y0 y1
    have y0 : w13.cell? ⟨w.heap.size, 0, none⟩ = some (.slice Am made.length cm) := (cellm bx13.out 0).trans rfl
    have y1 : w13.cell? ⟨w.heap.size, 1, none⟩ = some (.slice At tasks.length ct) := (cellm bx13.out 1).trans rfl
    replace hW := Lib.hid (hW.out.up (h13.mono (by omega)) (Nat.le_refl _))
    replace hSx := Lib.hid (hSx.out.kept (fun b q1 q2 => h13.block b (by omega)) (Nat.le_refl _))
    replace hXb := Lib.hid ((h13.block _ (block_lt hXb.out)).trans hXb.out)
    replace hI1x := Lib.hid (hI1x.out.turn (h13.block _ hI1x.out.lt))
    replace hG := Lib.hid (ownsRow_block hG.out (fun b hb => by have q1 := (hG.out.lt b hb).1; have q2 := (hG.out.lt b hb).2; exact h13.block b q2))
    clear h13 b12 bx12
    clear u0 u1
    have u0 : w13.cell? ⟨w5.heap.size, 0, none⟩ = some (.slice (some ⟨bmx, 0, none⟩) made.length made.length) := (cellm hXb.out 0).trans rfl
    have u1 : w13.cell? ⟨w5.heap.size, 1, none⟩ = some (.slice (some ⟨btx, 0, none⟩) tasks.length tasks.length) := (cellm hXb.out 1).trans rfl
    have hmk := markSheet_calls w4.heap.size midx w5.heap.size bmx btx made tasks 1 w13 hSx.out (by omega) hm1 hn1 (by omega) (by omega)
    replace hmk := Lib.hid hmk
    go_wp2_with fail
    refine hmk.out.mono ?_
    rintro e w14 ⟨q14, rfl, p14, r14, h14⟩
    clear hmk hSx
    clear u0 u1
    have s14 : w13.heap.size ≤ w14.heap.size := h14.size
    have b14 : Below w.heap.size w w14 := b13.out.trans (h14.below (by omega) (fun i hi => by have := hi.1; omega))
    have bx14 := (h14.block _ (block_lt bx13.out) (by omega)).trans bx13.out
    replace b14 := Lib.hid b14
    replace bx14 := Lib.hid bx14
    clear y0 y1
    have y0 : w14.cell? ⟨w.heap.size, 0, none⟩ = some (.slice Am made.length cm) := (cellm bx14.out 0).trans rfl
    have y1 : w14.cell? ⟨w.heap.size, 1, none⟩ = some (.slice At tasks.length ct) := (cellm bx14.out 1).trans rfl
    replace hW := Lib.hid (hW.out.up (h14.below (by omega) (fun i hi => by have := hi.1; omega)) (Nat.le_refl _))
    replace hI1x := Lib.hid (hI1x.out.turn (h14.block _ hI1x.out.lt (by omega)))
    replace hG := Lib.hid (ownsRow_block hG.out (fun b hb => by have q1 := (hG.out.lt b hb).1; have q2 := (hG.out.lt b hb).2; exact h14.block b q2 (by omega)))
    clear h14 b13 bx13
    have hmk := markIntS_calls w6.heap.size (.slice (some ⟨w6.heap.size, 0, none⟩) x1.length x1.length) x1 q14 w14 (hI1x.out.owns (Nat.le_refl _) (by unfold maxLen; omega)) (by omega) (by omega)
    replace hmk := Lib.hid hmk
    go_wp2_with fail
    refine hmk.out.mono ?_
    rintro e w15 ⟨rfl, -, h15⟩
    clear hmk hI1x
    obtain ⟨q15, hq15⟩ : ∃ q15, q15 = q14 + (x1.length : Int) := ⟨_, rfl⟩
    have p15 : 1 ≤ q15 := by omega
    have r15 : q15 ≤ 22000000 := by omega
    rw [← hq15]
    replace hq15 := Lib.hid hq15
    have s15 : w14.heap.size ≤ w15.heap.size := h15.size
    have b15 : Below w.heap.size w w15 := b14.out.trans (h15.below (by omega) (fun i hi => by have hi : w6.heap.size = i := Option.some.inj hi; omega))
    have bx15 := (h15.block _ (block_lt bx14.out) (by (intro e; have e : w6.heap.size = _ := Option.some.inj e; omega))).trans bx14.out
    replace b15 := Lib.hid b15
    replace bx15 := Lib.hid bx15
    clear y0 y1
    have y0 : w15.cell? ⟨w.heap.size, 0, none⟩ = some (.slice Am made.length cm) := (cellm bx15.out 0).trans rfl
    have y1 : w15.cell? ⟨w.heap.size, 1, none⟩ = some (.slice At tasks.length ct) := (cellm bx15.out 1).trans rfl
    replace hW := Lib.hid (hW.out.up (h15.below (by omega) (fun i hi => by have hi : w6.heap.size = i := Option.some.inj hi; omega)) (Nat.le_refl _))
    replace hG := Lib.hid (ownsRow_block hG.out (fun b hb => by have q1 := (hG.out.lt b hb).1; have q2 := (hG.out.lt b hb).2; exact h15.block b q2 (by (intro e; have e : w6.heap.size = _ := Option.some.inj e; omega))))
    clear h15 b14 bx14
    have hnq : ¬ q15 < 0 := by omega
    have heq := eqIntS_same (Ag) (Aw) cg cw rl w15 (by unfold maxLen; omega) (ownsRow_ints_of hG.out) (hW.out.up (Below.refl _ _) (by omega))
    replace heq := Lib.hid heq
    go_wp2_with fail
    refine heq.out.mono ?_
    rintro e w16 ⟨rfl, h16⟩
    clear heq
    have s16 : w15.heap.size ≤ w16.heap.size := h16.size
    have b16 := below_up b15.out h16
    have bx16 := (h16.block _ (block_lt bx15.out)).trans bx15.out
    replace b16 := Lib.hid b16
    replace bx16 := Lib.hid bx16
    clear y0 y1
    have y0 : w16.cell? ⟨w.heap.size, 0, none⟩ = some (.slice Am made.length cm) := (cellm bx16.out 0).trans rfl
    have y1 : w16.cell? ⟨w.heap.size, 1, none⟩ = some (.slice At tasks.length ct) := (cellm bx16.out 1).trans rfl
    replace hW := Lib.hid (hW.out.up (h16.mono (by omega)) (Nat.le_refl _))
    replace hG := Lib.hid (ownsRow_block hG.out (fun b hb => by have q1 := (hG.out.lt b hb).1; have q2 := (hG.out.lt b hb).2; exact h16.block b q2))
    clear h16 b15 bx15
    have hmk := markIntS_calls w7.heap.size (.slice Ag rl.length cg) rl 1 w16 hG.out (by omega) (by omega)
    replace hmk := Lib.hid hmk
    go_wp2_with fail
    refine hmk.out.mono ?_
    rintro e w17 ⟨rfl, hG2, h17⟩
    have hlt := fun b => hG.out.lt b
    replace hlt := Lib.hid hlt
    clear hmk
    have s17 : w16.heap.size ≤ w17.heap.size := h17.size
    have b17 : Below w.heap.size w w17 := b16.out.trans (h17.below (by omega) (fun i hi => by have := (hlt.out i hi).1; omega))
    have bx17 := (h17.block _ (block_lt bx16.out) (by (intro e; have := (hlt.out _ e).1; omega))).trans bx16.out
    replace b17 := Lib.hid b17
    replace bx17 := Lib.hid bx17
    clear y0 y1
    have y0 : w17.cell? ⟨w.heap.size, 0, none⟩ = some (.slice Am made.length cm) := (cellm bx17.out 0).trans rfl
    have y1 : w17.cell? ⟨w.heap.size, 1, none⟩ = some (.slice At tasks.length ct) := (cellm bx17.out 1).trans rfl
    replace hW := Lib.hid (hW.out.up (h17.below (by omega) (fun i hi => by have := (hlt.out i hi).1; omega)) (Nat.le_refl _))
    clear h17 b16 bx16
    have hG3 : ∀ (W : World), W.ownsRow w7.heap.size 3 1 (.slice Ag rl.length cg) rl.length (ints (marksI 1 rl.length)) → IntsAt W.heap.size W Ag (marksI 1 rl.length) := fun W h => by
      have e := marksI_length 1 rl.length
      have h2 := ownsRow_ints_of (A := Ag) (c := cg) (xs := marksI 1 rl.length) (by rw [e]; exact h)
      exact h2
    replace hG3 := Lib.hid hG3
    replace hG2 := Lib.hid hG2
    have hq0 : ¬ (1 + (rl.length : Int) < 0) := by omega
    have hq1 : ((1 + (rl.length : Int)) != (1 + (rl.length : Int))) = false := by simp
    have hhe := heldIntS_calls Ag cg rl.length 1 w17 (by omega) (by omega) (by omega) (hG3.out _ hG2.out)
    replace hhe := Lib.hid hhe
    go_wp2_with fail
    refine hhe.out.mono ?_
    rintro e w18 ⟨rfl, h18⟩
    clear hhe
    have s18 : w17.heap.size ≤ w18.heap.size := h18.size
    have b18 := below_up b17.out h18
    have bx18 := (h18.block _ (block_lt bx17.out)).trans bx17.out
    replace b18 := Lib.hid b18
    replace bx18 := Lib.hid bx18
    clear y0 y1
    have y0 : w18.cell? ⟨w.heap.size, 0, none⟩ = some (.slice Am made.length cm) := (cellm bx18.out 0).trans rfl
    have y1 : w18.cell? ⟨w.heap.size, 1, none⟩ = some (.slice At tasks.length ct) := (cellm bx18.out 1).trans rfl
    replace hW := Lib.hid (hW.out.up (h18.mono (by omega)) (Nat.le_refl _))
    replace hG2 := Lib.hid (ownsRow_block hG2.out (fun b hb => by have q1 := (hG2.out.lt b hb).1; have q2 := (hG2.out.lt b hb).2; exact h18.block b q2))
    clear h18 b17 bx17
    go_wp2_with fail
    refine (hto.out _ b18.out).mono ?_
    rintro e w19 ⟨bmh, bth, midh, rfl, hSh, h19⟩
    have s19 : w18.heap.size ≤ w19.heap.size := h19.size
    have b19 := below_up b18.out h19
    have bx19 := (h19.block _ (block_lt bx18.out)).trans bx18.out
    replace b19 := Lib.hid b19
    replace bx19 := Lib.hid bx19
    clear y0 y1
    have y0 : w19.cell? ⟨w.heap.size, 0, none⟩ = some (.slice Am made.length cm) := (cellm bx19.out 0).trans rfl
    have y1 : w19.cell? ⟨w.heap.size, 1, none⟩ = some (.slice At tasks.length ct) := (cellm bx19.out 1).trans rfl
    replace hW := Lib.hid (hW.out.up (h19.mono (by omega)) (Nat.le_refl _))
    replace hG2 := Lib.hid (ownsRow_block hG2.out (fun b hb => by have q1 := (hG2.out.lt b hb).1; have q2 := (hG2.out.lt b hb).2; exact h19.block b q2))
    clear h19 b18 bx18
    have eh : w19.heap.size ≤ w19.heap.size := Nat.le_refl _
    replace hSh := Lib.hid hSh
    go_wp2_with fail
    refine (hti1.out _ b19.out).mono ?_
    rintro e w20 ⟨rfl, hI1h, h20⟩
    have s20 : w19.heap.size ≤ w20.heap.size := h20.size
    have b20 := below_up b19.out h20
    have bx20 := (h20.block _ (block_lt bx19.out)).trans bx19.out
    replace b20 := Lib.hid b20
    replace bx20 := Lib.hid bx20
    clear y0 y1
    have y0 : w20.cell? ⟨w.heap.size, 0, none⟩ = some (.slice Am made.length cm) := (cellm bx20.out 0).trans rfl
    have y1 : w20.cell? ⟨w.heap.size, 1, none⟩ = some (.slice At tasks.length ct) := (cellm bx20.out 1).trans rfl
    replace hW := Lib.hid (hW.out.up (h20.mono (by omega)) (Nat.le_refl _))
    replace hG2 := Lib.hid (ownsRow_block hG2.out (fun b hb => by have q1 := (hG2.out.lt b hb).1; have q2 := (hG2.out.lt b hb).2; exact h20.block b q2))
    replace hSh := Lib.hid (hSh.out.kept (fun b q1 q2 => h20.block b (by omega)) (Nat.le_refl _))
    clear h20 b19 bx19
    replace hI1h := Lib.hid hI1h
    have him := hIm.out w20 (some ⟨bmh, 0, none⟩) (some ⟨bth, 0, none⟩) made.length tasks.length (some ⟨w19.heap.size, 0, none⟩) x1.length (hSh.out.at (by omega) (by unfold maxLen; omega) (by unfold maxLen; omega)) hI1h.out.row (Nat.le_refl _) (by unfold maxLen; omega)
    replace him := Lib.hid him
    go_wp2_with fail
    refine him.out.mono ?_
    rintro e w21 ⟨g1, rfl, hH, h21⟩
    clear him
    dsimp only at hH ⊢
    have s21 : w20.heap.size ≤ w21.heap.size := h21.size
    have b21 := below_up b20.out h21
    have bx21 := (h21.block _ (block_lt bx20.out)).trans bx20.out
    replace b21 := Lib.hid b21
    replace bx21 := Lib.hid bx21
    clear y0 y1
    have y0 : w21.cell? ⟨w.heap.size, 0, none⟩ = some (.slice Am made.length cm) := (cellm bx21.out 0).trans rfl
    have y1 : w21.cell? ⟨w.heap.size, 1, none⟩ = some (.slice At tasks.length ct) := (cellm bx21.out 1).trans rfl
    replace hW := Lib.hid (hW.out.up (h21.mono (by omega)) (Nat.le_refl _))
    replace hG2 := Lib.hid (ownsRow_block hG2.out (fun b hb => by have q1 := (hG2.out.lt b hb).1; have q2 := (hG2.out.lt b hb).2; exact h21.block b q2))
    clear h21 b20 bx20
    replace hH := Lib.hid hH
    obtain ⟨Ah, ch, hh0, hh1, hh2, -⟩ := ownsRow_ints hH.out
    subst hh0
    unfold maxLen at hh2
    have heq := eqIntS_same (Ah) (Aw) ch cw rl w21 (by unfold maxLen; omega) (ownsRow_ints_of hH.out) (hW.out.up (Below.refl _ _) (by omega))
    replace heq := Lib.hid heq
    go_wp2_with fail
    refine heq.out.mono ?_
    rintro e w22 ⟨rfl, h22⟩
    clear heq
    have s22 : w21.heap.size ≤ w22.heap.size := h22.size
    have b22 := below_up b21.out h22
    have bx22 := (h22.block _ (block_lt bx21.out)).trans bx21.out
    replace b22 := Lib.hid b22
    replace bx22 := Lib.hid bx22
    clear y0 y1
    have y0 : w22.cell? ⟨w.heap.size, 0, none⟩ = some (.slice Am made.length cm) := (cellm bx22.out 0).trans rfl
    have y1 : w22.cell? ⟨w.heap.size, 1, none⟩ = some (.slice At tasks.length ct) := (cellm bx22.out 1).trans rfl
    replace hW := Lib.hid (hW.out.up (h22.mono (by omega)) (Nat.le_refl _))
    replace hG2 := Lib.hid (ownsRow_block hG2.out (fun b hb => by have q1 := (hG2.out.lt b hb).1; have q2 := (hG2.out.lt b hb).2; exact h22.block b q2))
    clear h22 b21 bx21
    have hhe := heldIntS_calls Ag cg rl.length 1 w22 (by omega) (by omega) (by omega) (hG3.out _ hG2.out)
    replace hhe := Lib.hid hhe
    go_wp2_with fail
    refine hhe.out.mono ?_
    rintro e w23 ⟨rfl, h23⟩
    clear hhe
    have s23 : w22.heap.size ≤ w23.heap.size := h23.size
    have b23 := below_up b22.out h23
    have bx23 := (h23.block _ (block_lt bx22.out)).trans bx22.out
    replace b23 := Lib.hid b23
    replace bx23 := Lib.hid bx23
    clear y0 y1
    have y0 : w23.cell? ⟨w.heap.size, 0, none⟩ = some (.slice Am made.length cm) := (cellm bx23.out 0).trans rfl
    have y1 : w23.cell? ⟨w.heap.size, 1, none⟩ = some (.slice At tasks.length ct) := (cellm bx23.out 1).trans rfl
    replace hW := Lib.hid (hW.out.up (h23.mono (by omega)) (Nat.le_refl _))
    replace hG2 := Lib.hid (ownsRow_block hG2.out (fun b hb => by have q1 := (hG2.out.lt b hb).1; have q2 := (hG2.out.lt b hb).2; exact h23.block b q2))
    clear h23 b22 bx22
    go_wp2_with fail
    go_ret
    exact ⟨rfl, b23.out⟩
end Go.Proofs.Ytagmdljdcnmpdaa
