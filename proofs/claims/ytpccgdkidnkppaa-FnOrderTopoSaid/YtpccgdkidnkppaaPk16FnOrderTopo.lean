import Derived.Deep.RegionHeld3
import Derived.Deep.QuietTactic
import Derived.BigQuiet
import Derived.OpenShut
import Derived.Test.YtpccgdkidnkppaaPk1FnOrderTopo
import Derived.Test.YtpccgdkidnkppaaPk11FnOrderTopo
import Derived.Test.YtpccgdkidnkppaaPk15FnOrderTopo
set_option linter.unusedVariables false
set_option linter.unusedSimpArgs false
namespace Go.Proofs.Ytpccgdkidnkppaa
open Go Go.RowKit

theorem topo_main (Am At Ak : Option Addr) (cm ct ck : Nat) (made : List Bool) (tasks : List Task) (keys : List Int) (w1 : World) (ha : ArgsAt w1 Am cm At ct made tasks Ak ck keys) :
    ∃ R : List Int × Bool, R.1.length ≤ 10 ∧
      (∀ w2, Below w1.heap.size w1 w2 → Calls Try.prog 21 #[.agg #[.slice Am made.length cm, .slice At tasks.length ct], .slice Ak keys.length ck] w2 fun e w' => GivesRow R e w2 w') ∧
      (∀ w2, Below w1.heap.size w1 w2 → Calls Try.prog 22 #[.agg #[.slice Am made.length cm, .slice At tasks.length ct], .slice Ak keys.length ck] w2 fun e w' => GivesRow R e w2 w') ∧
      (R.2 = true → ∀ z : Int, 0 ≤ z ∧ z ≤ 96 → ∀ (w3 wc : World), Below w1.heap.size w1 w3 → Below w3.heap.size w3 wc → ∀ (Ai : Option Addr) (ci : Nat) (Ax : Option Addr) (cx : Nat), IntsAt w3.heap.size w3 Ai (List.replicate made.length z) → made.length ≤ ci → ci ≤ maxLen → IntsAt w3.heap.size w3 Ax R.1 → R.1.length ≤ cx → cx ≤ maxLen →
        Calls Try.prog 16 #[.agg #[.slice Am made.length cm, .slice At tasks.length ct], .slice Ai made.length ci, .slice Ax R.1.length cx] wc fun e w' => e = .returned (.bool true) ∧ Below wc.heap.size wc w') := by
  have hnod : ∀ T ∈ tasks, nodes T ≤ 1000000000 := fun T hT => by have := ha.nodes T hT; omega
  have hsm := ha.small
  have hkl := ha.ilen
  have hkm : keys.length ≤ maxLen := Nat.le_trans ha.icap ha.imax
  by_cases hgood : safeP made tasks = true ∧ keysOk made.length keys = true
  · obtain ⟨hsafe, hko⟩ := hgood
    let X0 : Int → Bool := fun k => @decide (Reach (mkK made) (mayS made tasks) keys k) (Classical.propDecidable _)
    have hX0 : ∀ k, X0 k = true ↔ Reach (mkK made) (mayS made tasks) keys k := fun k => by
      show @decide _ (Classical.propDecidable _) = true ↔ _
      exact @decide_eq_true_iff _ (Classical.propDecidable _)
    have hsame : ∀ X : Int → Bool, (∀ k, X k = true ↔ Reach (mkK made) (mayS made tasks) keys k) → X = X0 := fun X hX => funext fun k => Bool.eq_iff_iff.2 ((hX k).trans (hX0 k).symm)
    obtain ⟨t1, t2, t3⟩ := safe_topo hsafe hX0
    refine ⟨topoP X0 (mayS made tasks) made.length (cntN X0 made.length) [], ?_, fun w2 hw => ?_, fun w2 hw => ?_, fun _ z hz w3 wc h3 hw Ai ci Ax cx hi hci hcm hx hxc hxm => ?_⟩
    · rw [t3]; exact Nat.le_trans (cntN_le _ _) (by omega)
    · refine (orderTopo_good Am At Ak cm ct ck made tasks keys w1.heap.size w1 w2 hw hw.size ha.sheet hsafe ha.ints hkm hko).mono ?_
      rintro e w' ⟨X, hX, h⟩
      rw [hsame X hX] at h; exact h
    · refine (specOrderTopo_good Am At Ak cm ct ck made tasks keys w1.heap.size w1 w2 hw hw.size ha.sheet hsafe hnod ha.ints (by omega) hko).mono ?_
      rintro e w' ⟨X, hX, h⟩
      rw [hsame X hX] at h; exact h
    · exact fits_topo_calls Am At Ai Ax cm ct ci cx made tasks keys _ z hz X0 hsafe hX0 t2 w3.heap.size w3 wc hw hw.size ⟨ha.sheet.lm, ha.sheet.mm, ha.sheet.lt, ha.sheet.mt, ha.sheet.made.up h3 h3.size, PartsIs.up h3 h3.size _ _ _ ha.sheet.tasks⟩ hi hci hcm hx hxc hxm
  · have hbad : safeP made tasks = true → keysOk made.length keys = false := fun a => by
      cases h : keysOk made.length keys with
      | false => rfl
      | true => exact (hgood ⟨a, h⟩).elim
    refine ⟨([], false), by simp, fun w2 hw => ?_, fun w2 hw => ?_, fun h => by cases h⟩
    · refine (orderTopo_bad Am At Ak cm ct ck made tasks keys w1.heap.size w1 w2 hw hw.size ha.sheet ha.ints hkm hbad).mono ?_
      rintro e w' ⟨rfl, h⟩
      exact ⟨_, rfl, World.ownsRow_nil _ _ _ _, h⟩
    · exact specOrderTopo_bad Am At Ak cm ct ck made tasks keys w1.heap.size w1 w2 hw hw.size ha.sheet hnod (by omega) ha.ints hkm hbad

set_option maxRecDepth 5000 in
set_option maxHeartbeats 8000000 in
theorem fnOrderTopo_calls (A : Option Addr) (c : Nat) (bytes : List Int) (w : World) (hx : RowAt (fun b : Int => Value.int .u8 b) w.heap.size w A bytes) (hl : bytes.length ≤ c) (hc : c ≤ maxLen) (hby : ∀ b ∈ bytes, 0 ≤ b ∧ b ≤ 255) :
    Calls Try.prog 5 #[.slice A bytes.length c] w fun e w' => e = .returned (.bool true) ∧ Below w.heap.size w w' := by
  have hcm := hc
  unfold maxLen at hcm
  by_cases hbig : 1048576 < bytes.length
  · clear hx hby
    go_enter Try.func5, Try.ntmps5
    go_wp2_with fail
    go_ret
    exact ⟨rfl, Below.refl _ _⟩
  have hdr := drawOrderTopo_calls A c bytes w.heap.size w w (Below.refl _ _) (Nat.le_refl _) hx hl hc hby
  replace hdr := Lib.hid hdr
  clear hx hby
  go_enter Try.func5, Try.ntmps5
  go_wp2_with fail
  refine hdr.out.mono ?_
  rintro e w1 ⟨Am, cm, At, ct, made, tasks, Ak, ck, keys, rfl, ha, hb1⟩
  obtain ⟨⟨rl, rb⟩, hR10, hI, hS, hF⟩ := topo_main Am At Ak cm ct ck made tasks keys w1 ha
  dsimp only at hR10 hF
  have hsm := ha.small
  have hal := below_al (Below.refl w1.heap.size w1) (.cells #[.slice Am made.length cm, .slice At tasks.length ct] 31 (0, 0))
  have hmk := make_ints made.length (by omega)
  replace hI := Lib.hid hI
  replace hS := Lib.hid hS
  replace hF := Lib.hid hF
  replace hal := Lib.hid hal
  replace hb1 := Lib.hid hb1
  clear ha hdr
  go_wp2_with fail
  refine (hI.out _ hal.out).mono ?_
  rintro e w2 ⟨v1, rfl, hown1, h2⟩
  dsimp only at hown1 ⊢
  have x0 : w2.cell? ⟨w1.heap.size, 0, none⟩ = some (.slice Am made.length cm) := (h2.cell (p := ⟨w1.heap.size, 0, none⟩) (by simp)).trans (by simp)
  have x1 : w2.cell? ⟨w1.heap.size, 1, none⟩ = some (.slice At tasks.length ct) := (h2.cell (p := ⟨w1.heap.size, 1, none⟩) (by simp)).trans (by simp)
  have s2 : w1.heap.size < w2.heap.size := by have := h2.size; simp at this; omega
  have b2 : Below w1.heap.size w1 w2 := below_from h2
  obtain ⟨A1, c1, rfl, hl1, hm1, hi1⟩ := ownsRow_ints hown1
  replace b2 := Lib.hid b2
  replace hi1 := Lib.hid hi1
  clear h2 hown1
  go_wp2_with fail
  refine (hS.out _ b2.out).mono ?_
  rintro e w3 ⟨v2, rfl, hown2, h3⟩
  dsimp only at hown2 ⊢
  have y0 := kept_cell h3 s2 x0
  have y1 := kept_cell h3 s2 x1
  have s3 : w1.heap.size < w3.heap.size := by have := h3.size; omega
  have b3 := b2.out.trans (h3.mono (Nat.le_of_lt s2))
  obtain ⟨A2, c2, rfl, hl2, hm2, hi2⟩ := ownsRow_ints hown2
  have hi13 := hi1.out.up h3 h3.size
  have hbr := brInts_calls A1 c1 rl A2 c2 rl w3 hi13 hi2 (by unfold maxLen; omega) (by unfold maxLen; omega)
  rw [decide_eq_true rfl] at hbr
  have hneq : (rb != rb) = false := by cases rb <;> rfl
  replace b3 := Lib.hid b3
  replace hi13 := Lib.hid hi13
  replace hbr := Lib.hid hbr
  clear h3 x0 x1 b2 hown2 hi2
  unfold maxLen at hm1 hm2
  go_wp2_with fail
  refine hbr.out.mono ?_
  rintro e w4 ⟨rfl, h4⟩
  have z0 := kept_cell h4 s3 y0
  have z1 := kept_cell h4 s3 y1
  have s4 : w1.heap.size < w4.heap.size := by have := h4.size; omega
  have b4 := b3.out.trans (h4.mono b3.out.size)
  have hi14 := hi13.out.up h4 h4.size
  replace b4 := Lib.hid b4
  replace hi14 := Lib.hid hi14
  clear h4 y0 y1 b3 hi13 hbr
  go_wp2_with fail
  go_loopw [11] (fun i wr => ∃ (j : Nat), j ≤ made.length ∧ i = .int .i64 j ∧ wr.cell? ⟨w1.heap.size, 0, none⟩ = some (.slice Am made.length cm) ∧ wr.cell? ⟨w1.heap.size, 1, none⟩ = some (.slice At tasks.length ct) ∧ Hid (RowBlk (fun n : Int => Value.int .i64 n) 3 wr w4.heap.size (List.replicate j 2 ++ List.replicate (made.length - j) 0)) ∧ Hid (Below w4.heap.size w4 wr)) (fun i _ => made.length - (intOf i).toNat)
  case atStart => exact ⟨0, by omega, rfl, (cell_al s4).trans z0, (cell_al s4).trans z1, Lib.hid (made_blk (z := (0 : Int)) (heap_new rfl)), Lib.hid (below_al (Below.refl _ _) _)⟩
  case round =>
    obtain ⟨j, hj, rfl, z0, z1, hR, hw⟩ := hrel
    have hz := hR.out.lt
    have hsz := hw.out.size
    by_cases hlt2 : j < made.length
    · have f0 := hR.out.frozen j
      have c0 := hR.out.cell (i := j) (by simp; omega)
      have hset := hR.out.set j 2
      have e : (List.replicate j (2 : Int) ++ List.replicate (made.length - j) 0).set j 2 = List.replicate (j + 1) 2 ++ List.replicate (made.length - (j + 1)) 0 := by
        rw [List.set_append_right _ _ (by simp)]
        rw [show made.length - j = (made.length - (j + 1)) + 1 by omega, List.replicate_succ, List.replicate_succ']
        simp
      rw [e] at hset
      have hne : w1.heap.size ≠ w4.heap.size := by omega
      have q0 : (wr.setCell ⟨w4.heap.size, j, none⟩ (.int .i64 2)).cell? ⟨w1.heap.size, 0, none⟩ = some (.slice Am made.length cm) := (World.cell?_of_block (setCell_far hne)).trans z0
      have q1 : (wr.setCell ⟨w4.heap.size, j, none⟩ (.int .i64 2)).cell? ⟨w1.heap.size, 1, none⟩ = some (.slice At tasks.length ct) := (World.cell?_of_block (setCell_far hne)).trans z1
      have hw2 : Below w4.heap.size w4 (wr.setCell ⟨w4.heap.size, j, none⟩ (.int .i64 2)) := hw.out.setCell (by simp) _
      replace hset := Lib.hid hset
      replace hw2 := Lib.hid hw2
      replace q0 := Lib.hid q0
      replace q1 := Lib.hid q1
      replace e := Lib.hid e
      go_wp2_with fail
      go_roundw
      case rel => exact ⟨j + 1, by omega, by go_num, q0.out, q1.out, hset, hw2⟩
      case measure => simp [intOf]; omega
    · have e : j = made.length := by omega
      subst e
      have hR2 := hR.out
      rw [Nat.sub_self, List.replicate_zero, List.append_nil] at hR2
      have hi := hR2.row
      have s5 : w1.heap.size < wr.heap.size := by omega
      have b5' : Below w1.heap.size w1 wr := b4.out.trans (hw.out.mono b4.out.size)
      have hx1 := hi14.out.up hw.out hw.out.size
      replace hR2 := Lib.hid hR2
      replace hi := Lib.hid hi
      replace b5' := Lib.hid b5'
      replace hx1 := Lib.hid hx1
      clear hR
      cases rb with
      | false =>
        go_wp2_with fail
        go_quiet (fail)
        go_wp2_with fail
        go_ret
        exact ⟨rfl, hb1.out.trans ((below_drewN b5'.out _).mono hb1.out.size)⟩
      | true =>
        have hbW : Below w1.heap.size w1 (wr.drew.alloc (.cells (madeCells #[.int .i64 0] made.length) 3 (0, 0))) := below_al' b5'.out.drew _ (Nat.le_of_lt s5)
        have hF2 := hF.out rfl
        replace hF2 := Lib.hid hF2
        clear hF
        have hc4 := hF2.out 0 (by omega) _ _ hbW (Below.refl _ _) (some ⟨wr.heap.size, 0, none⟩) made.length A1 c1 ((made_blk (f := fun n : Int => Value.int .i64 n) (z := (0 : Int)) (heap_new rfl)).row) (Nat.le_refl _) (by unfold maxLen; omega) (hx1.out.up (below_al (Below.refl _ _).drew _) (by simp)) hl1 (by unfold maxLen; omega)
        replace hc4 := Lib.hid hc4
        replace hbW := Lib.hid hbW
        go_wp2_with fail
        go_region_held3 (fun w' => w'.cell? ⟨w1.heap.size, 0, none⟩ = some (.slice Am made.length cm) ∧ w'.cell? ⟨w1.heap.size, 1, none⟩ = some (.slice At tasks.length ct)) (first | exact ⟨l0, l1⟩ | exact ⟨k0, k1⟩ | exact ⟨z0, z1⟩ | exact ⟨(cell_al s5).trans z0, (cell_al s5).trans z1⟩)
          (first
            | (go_at_call 16; refine hc5.out.mono ?_; rintro e w6 ⟨rfl, h6⟩; have l0 : w6.cell? ⟨w1.heap.size, 0, none⟩ = some (.slice Am made.length cm) := kept_cell h6 s6 k0; have l1 : w6.cell? ⟨w1.heap.size, 1, none⟩ = some (.slice At tasks.length ct) := kept_cell h6 s6 k1; have b7 : Hid (Below w1.heap.size w1 w6) := Lib.hid (below_up b6.out h6))
            | (go_at_call 16; go_must (refine hc4.out.mono ?_; rintro e w5 ⟨rfl, h5⟩; have k0 : w5.cell? ⟨w1.heap.size, 0, none⟩ = some (.slice Am made.length cm) := kept_cell h5 (by rw [World.size_alloc]; exact Nat.lt_succ_of_lt s5) ((cell_al s5).trans z0); have k1 : w5.cell? ⟨w1.heap.size, 1, none⟩ = some (.slice At tasks.length ct) := kept_cell h5 (by rw [World.size_alloc]; exact Nat.lt_succ_of_lt s5) ((cell_al s5).trans z1); have b6 : Below w1.heap.size w1 w5 := below_up hbW.out h5; have hwr5 : Below wr.heap.size wr w5 := (below_al (Below.refl _ _).drew _).trans (h5.mono (by simp)); have s6 : w1.heap.size < w5.heap.size := Nat.lt_of_lt_of_le s5 hwr5.size; have hc5 := hF2.out 2 (by omega) w5 w5 b6 (Below.refl _ _) (some ⟨w4.heap.size, 0, none⟩) made.length A1 c1 (hi.out.up hwr5 hwr5.size) (Nat.le_refl _) (by unfold maxLen; omega) (hx1.out.up hwr5 hwr5.size) hl1 (by unfold maxLen; omega); replace hc5 := Lib.hid hc5; replace b6 := Lib.hid b6; clear h5 hwr5)))
        all_goals
          go_wp2_with fail
          go_ret
          exact ⟨rfl, hb1.out.trans (b7.out.mono hb1.out.size)⟩
end Go.Proofs.Ytpccgdkidnkppaa

set_option linter.unusedVariables false
namespace Go.Proofs.Ytpccgdkidnkppaa
open Go Go.RowKit

theorem byte_row {w : World} {x : Addr} {zs : List Int} (len : Nat) (hcell : ∀ i, i < zs.length → w.cell? (x.add i) = some (.int .u8 (zs.getD i 0))) : RowAt (fun b : Int => Value.int .u8 b) w.heap.size w (some x) (zs.take len) := by
  intro i hi
  have hl : i < zs.length := by simp at hi; omega
  obtain ⟨b, off, rfl, h⟩ := ints_at hcell (by omega)
  have h1 := h i hl
  refine ⟨b, off, rfl, ?_, ?_⟩
  · by_cases hb : b < w.heap.size
    · exact hb
    · exfalso
      have h2 : w.heap[b]? = none := by simp; omega
      simp [World.cell?, h2] at h1
  · rw [h1]; simp [hl]
theorem byte_vals {zs : List Int} (len : Nat) (h : ∀ n ∈ zs, (Lit.int .u8 n).wf = true) : ∀ b ∈ zs.take len, 0 ≤ b ∧ b ≤ 255 :=
  fun b hb => bounds_u8 (h b (List.mem_of_mem_take hb))
end Go.Proofs.Ytpccgdkidnkppaa
