import Derived.Deep.QuietTactic
import Derived.BigQuiet
import Derived.Test.YtkbblekengdhaaaPk19Told
import Derived.Test.YtkbblekengdhaaaPk20Told
set_option linter.unusedVariables false
set_option linter.unusedSimpArgs false
namespace Go.Proofs.Ytkbblekengdhaaa
open Go Go.RowKit

set_option maxHeartbeats 4000000 in
theorem drawToldValues_calls (A : Option Addr) (c : Nat) (bytes : List Int) (B : Nat) (w0 w : World) (hb : Below B w0 w) (hB : B ≤ w.heap.size) (hx : RowAt (fun b : Int => Value.int .u8 b) B w0 A bytes) (hl : bytes.length ≤ c) (hc : c ≤ maxLen) (hby : ∀ b ∈ bytes, 0 ≤ b ∧ b ≤ 255) :
    Calls Try.prog 10 #[.slice A bytes.length c] w (DrawToldP w) := by
  have h0 := l6Open_calls A c bytes B w0 ((w.alloc (.cells #[.slice none 0 0, .slice none 0 0] 26 (0, 0)))) (below_al' hb _ hB) (by simp; omega) hx hl hc hby
  replace h0 := Lib.hid h0
  clear hb hx hby hl hc
  go_enter Try.func10, Try.ntmps10
  go_wp2_with fail
  refine h0.out.mono ?_
  rintro e w1 ⟨R, rfl, hR, hRB, hRw, hRg, hrd, hb1⟩
  have h1 := l91Sheet_calls R hR 0 (by omega) w1 hrd
  have hgl := block_lt hrd.blk
  have hres1 := (hb1.block w.heap.size (by simp)).trans (heap_new rfl)
  have hz1 : w.heap.size < w1.heap.size := by have := hb1.size; simp at this; omega
  have hg0 : w.heap.size < R.g := by simp at hRg; omega
  have hbw := below_from hb1
  replace h1 := Lib.hid h1
  clear hb1 h0 hRg
  go_wp2_with fail
  refine h1.out.mono ?_
  rintro e w2 ⟨p2, G, made, ts, vm, vt, rfl, hml, hm8, hm2, hp0, hp2, hrd2, ht2, hsh2⟩
  obtain ⟨Am, cm, At, ct, tasks, rfl, rfl, htl, hS2, hnd⟩ := hsh2.readsM
  have htl2 : tasks.length = made.length := by omega
  clear hml htl
  have hz2 : w1.heap.size ≤ w2.heap.size := ht2.size
  have hres2 := (ht2.block _ hz1 (fun e => by omega)).trans hres1
  have hbw2 : Below w.heap.size w w2 := hbw.trans (ht2.below (Nat.le_of_lt hz1) (fun i e => by cases e; omega))
  have hal := below_al (Below.refl _ w2) (.cells #[.slice Am made.length cm, .slice At tasks.length ct] 26 (0, 0))
  have hS3 := hS2.up (mask_up hal) hal.size
  have h2 := l91Told_calls R hR p2 (by omega) Am At cm ct w1.heap.size made tasks _ (hrd2.up hal) hS3 hgl htl2 hm8 hnd
  replace htl2 := Lib.hid htl2
  have hres3 := (hal.block _ (by omega)).trans hres2
  have hbw3 : Below w.heap.size w _ := hbw2.trans (hal.mono (by omega))
  have hbox3 := heap_alloc_new w2 (.cells #[.slice Am made.length cm, .slice At tasks.length ct] 26 (0, 0))
  replace h2 := Lib.hid h2
  replace hS3 := Lib.hid hS3
  clear h1 hrd2 ht2 hsh2 hres2 hbw2 hal hbw hres1 hrd hS2
  go_wp2_with fail
  refine h2.out.mono ?_
  rintro e w3 ⟨p3, ll, vl, vs, rfl, hxl, hsm, hp3, hp3', hrd3, ht3, hown3⟩
  obtain ⟨Ao, co, rfl, hol, hom, hO3⟩ := hown3.rowsM (lo := w1.heap.size) (by simp; omega)
  have hS4 := hS3.out.up (mask_turn ht3 (fun i e => by cases e; exact hgl)) ht3.size
  have hres4 := (ht3.block _ (by simp; omega) (fun e => by omega)).trans hres3
  have hbox4 := (ht3.block _ (by simp) (fun e => by omega)).trans hbox3
  have hbw4 : Below w.heap.size w w3 := hbw3.trans (ht3.below (by simp; omega) (fun i e => by cases e; omega))
  have hz3 : w2.heap.size < w3.heap.size := by have := ht3.size; simp at this; omega
  have x0 : w3.cell? ⟨w2.heap.size, 0, none⟩ = some (.slice Am made.length cm) := cellm hbox4 0
  have x1 : w3.cell? ⟨w2.heap.size, 1, none⟩ = some (.slice At tasks.length ct) := cellm hbox4 1
  have h3 := l91Inputs_calls R hR p3 (by omega) Am At made.length cm tasks.length ct w3 hrd3 (by omega)
  replace h3 := Lib.hid h3
  replace hS4 := Lib.hid hS4
  replace hO3 := Lib.hid hO3
  replace hsm := Lib.hid hsm
  clear h2 hS3 hres3 hbw3 hbox3 ht3 hown3 hrd3
  go_wp2_with fail
  refine h3.out.mono ?_
  rintro e w4 ⟨p4, xs, vi, rfl, hil, hp4, hp4', hrd4, ht4, hown4⟩
  obtain ⟨Ai, ci, rfl, hil2, him, hI4⟩ := rowM (lo := w1.heap.size) hown4 (by omega)
  have hmt4 := mask_turn (lo := w1.heap.size) ht4 (fun i e => by cases e; exact hgl)
  have hS5 := hS4.out.up hmt4 ht4.size
  have hO5 := hO3.out.up hmt4 ht4.size
  have hres5 := (ht4.block _ (by omega) (fun e => by omega)).trans hres4
  have hbox5 := (ht4.block _ (by omega) (fun e => by omega)).trans hbox4
  have hbw5 : Below w.heap.size w w4 := hbw4.trans (ht4.below (by omega) (fun i e => by cases e; omega))
  have hz4 : w2.heap.size < w4.heap.size := by have := ht4.size; omega
  have h4 := l91More_calls R hR p4 (by omega) Ai ci xs w4 hrd4 (by omega) hI4.unmask
  clear x0 x1
  have x0 : w4.cell? ⟨w2.heap.size, 0, none⟩ = some (.slice Am made.length cm) := cellm hbox5 0
  have x1 : w4.cell? ⟨w2.heap.size, 1, none⟩ = some (.slice At tasks.length ct) := cellm hbox5 1
  replace h4 := Lib.hid h4
  replace hS5 := Lib.hid hS5
  replace hO5 := Lib.hid hO5
  replace hI4 := Lib.hid hI4
  clear h3 hS4 hO3 hmt4 hres4 hbox4 hbw4 ht4 hown4 hrd4
  go_wp2_with fail
  refine h4.out.mono ?_
  rintro e w5 ⟨p5, ks, vk, rfl, hkl, hp5, hp5', hrd5, ht5, hown5⟩
  obtain ⟨Ak, ck, rfl, hkl2, hkm, hK⟩ := rowM (lo := w1.heap.size) hown5 (by omega)
  have hmt := mask_turn (lo := w1.heap.size) ht5 (fun i e => by cases e; exact hgl)
  have hS := hS5.out.up hmt ht5.size
  have hO := hO5.out.up hmt ht5.size
  have hI := hI4.out.up hmt ht5.size
  have hres := (ht5.block _ (by omega) (fun e => by omega)).trans hres5
  have hbox := (ht5.block _ (by omega) (fun e => by omega)).trans hbox5
  have hbw6 : Below w.heap.size w w5 := hbw5.trans (ht5.below (by omega) (fun i e => by cases e; omega))
  have hz5 : w2.heap.size < w5.heap.size := by have := ht5.size; omega
  clear x0 x1
  have x0 : w5.cell? ⟨w2.heap.size, 0, none⟩ = some (.slice Am made.length cm) := cellm hbox 0
  have x1 : w5.cell? ⟨w2.heap.size, 1, none⟩ = some (.slice At tasks.length ct) := cellm hbox 1
  have y0 : w5.cell? ⟨w.heap.size, 0, none⟩ = some (.slice none 0 0) := cellm hres 0
  have y1 : w5.cell? ⟨w.heap.size, 1, none⟩ = some (.slice none 0 0) := cellm hres 1
  have f0 : w5.frozen? ⟨w.heap.size, 0, none⟩ = false := frozenm hres 0
  have f1 : w5.frozen? ⟨w.heap.size, 1, none⟩ = false := frozenm hres 1
  have hW := setCell_block (setCell_block hres 0 (.slice Am made.length cm)) 1 (.slice At tasks.length ct)
  have hfin := drawTold_done hz1 hS hO hI hK htl2.out hm8 hnd (by omega) hsm.out hol hom (by omega) hil2 him (by omega) hkl2 hkm hbw6 (.slice Am made.length cm) (.slice At tasks.length ct)
  replace hfin := Lib.hid hfin
  replace hW := Lib.hid hW
  clear h4 hS5 hO5 hI4 hS hO hI hK hmt hres hbox hbw5 hbw6 ht5 hown5 hres5 hbox5 hrd5
  go_wp2_with fail
  exact ret_sheet3 rfl rfl rfl rfl rfl (hW.out.trans rfl) hfin.out
end Go.Proofs.Ytkbblekengdhaaa

set_option linter.unusedVariables false
set_option linter.unusedSimpArgs false
namespace Go.Proofs.Ytkbblekengdhaaa
open Go Go.RowKit

set_option maxRecDepth 5000 in
set_option maxHeartbeats 8000000 in
theorem fnToldValues_calls (A : Option Addr) (c : Nat) (bytes : List Int) (w : World) (hx : RowAt (fun b : Int => Value.int .u8 b) w.heap.size w A bytes) (hl : bytes.length ≤ c) (hc : c ≤ maxLen) (hby : ∀ b ∈ bytes, 0 ≤ b ∧ b ≤ 255) :
    Calls Try.prog 3 #[.slice A bytes.length c] w fun e w' => e = .returned (.bool true) ∧ Below w.heap.size w w' := by
  have hcm := hc
  unfold maxLen at hcm
  by_cases hbig : 1048576 < bytes.length
  · clear hx hby
    go_enter Try.func3, Try.ntmps3
    go_wp2_with fail
    go_ret
    exact ⟨rfl, Below.refl _ _⟩
  have hdr := drawToldValues_calls A c bytes w.heap.size w w (Below.refl _ _) (Nat.le_refl _) hx hl hc hby
  replace hdr := Lib.hid hdr
  clear hx hby
  go_enter Try.func3, Try.ntmps3
  go_wp2_with fail
  refine hdr.out.mono ?_
  rintro e w1 ⟨Am, cm, At, ct, made, tasks, Ao, co, ll, Ai, ci, xs, Ak, ck, ks, rfl, ha, hb1⟩
  have hnod : ∀ T ∈ tasks, nodes T ≤ 1000000000 := fun T hT => by have := ha.nodes T hT; omega
  obtain ⟨⟨⟨vl, rl⟩, rb⟩, rr, hA⟩ := told_all made tasks ll xs ks hnod (fun x hx => by have := ha.rsmall x hx; omega)
  have hrl := (told_len hA).2
  obtain ⟨hlv, hun⟩ := hA.vals
  dsimp only at hrl hlv hun
  have hI := fun w2 (h : Below w1.heap.size w1 w2) => (hA.ivals w2 Am At cm ct Ao co Ai ci Ak ck w1.heap.size w1 h h.size ha.sheet ha.rows ha.ints ha.icap ha.imax ha.more ha.kcap ha.kmax).mono fun _ _ h => h.list
  have hS := fun w2 (h : Below w1.heap.size w1 w2) => (hA.svals w2 Am At cm ct Ao co Ai ci Ak ck w1.heap.size w1 h h.size ha.sheet ha.rows ha.ints ha.icap ha.imax ha.more ha.kcap ha.kmax).mono fun _ _ h => h.list
  have hal := below_al (Below.refl w1.heap.size w1) (.cells #[.slice Am made.length cm, .slice At tasks.length ct] 26 (0, 0))
  have hsm := ha.small
  have hM := ha.sheet.made
  have hneq : (rb != rb) = false := by cases rb <;> rfl
  replace hI := Lib.hid hI
  replace hS := Lib.hid hS
  replace hal := Lib.hid hal
  replace hb1 := Lib.hid hb1
  replace hM := Lib.hid hM
  replace hlv := Lib.hid hlv
  replace hun := Lib.hid hun
  have hK := ha.more
  replace hK := Lib.hid hK
  clear ha hdr hnod hA
  go_wp2_with fail
  refine (hI.out _ hal.out).mono ?_
  rintro e w2 ⟨A1, c1, rfl, hl1, hm1, hi1, h2⟩
  dsimp only at hl1 hi1 ⊢
  have x0 : w2.cell? ⟨w1.heap.size, 0, none⟩ = some (.slice Am made.length cm) := (h2.cell (p := ⟨w1.heap.size, 0, none⟩) (by simp)).trans (by simp)
  have x1 : w2.cell? ⟨w1.heap.size, 1, none⟩ = some (.slice At tasks.length ct) := (h2.cell (p := ⟨w1.heap.size, 1, none⟩) (by simp)).trans (by simp)
  have s2 : w1.heap.size < w2.heap.size := by have := h2.size; simp at this; omega
  have b2 : Below w1.heap.size w1 w2 := below_from h2
  replace b2 := Lib.hid b2
  replace hi1 := Lib.hid hi1
  clear h2 hI
  go_wp2_with fail
  refine (hS.out _ b2.out).mono ?_
  rintro e w3 ⟨A2, c2, rfl, hl2, hm2, hi2, h3⟩
  dsimp only at hl2 hi2 ⊢
  have y0 := kept_cell h3 s2 x0
  have y1 := kept_cell h3 s2 x1
  have s3 : w1.heap.size < w3.heap.size := by have := h3.size; omega
  have b3 := b2.out.trans (h3.mono (Nat.le_of_lt s2))
  have hi13 := hi1.out.up h3 h3.size
  have hbr := brInts_calls A1 c1 rl A2 c2 rl w3 hi13 hi2 (by unfold maxLen; omega) (by unfold maxLen; omega)
  rw [decide_eq_true rfl] at hbr
  replace b3 := Lib.hid b3
  replace hi13 := Lib.hid hi13
  replace hbr := Lib.hid hbr
  clear h3 x0 x1 b2 hi2 hS hi1
  have hm1' := hm1
  unfold maxLen at hm1 hm2
  go_wp2_with fail
  refine hbr.out.mono ?_
  rintro e w4 ⟨rfl, h4⟩
  have z0 := kept_cell h4 s3 y0
  have z1 := kept_cell h4 s3 y1
  have s4 : w1.heap.size < w4.heap.size := by have := h4.size; omega
  have b4 := b3.out.trans (h4.mono b3.out.size)
  have hi14 := hi13.out.up h4 h4.size
  replace b4 := Lib.hid b4
  replace hi14 := Lib.hid hi14
  clear h4 y0 y1 b3 hi13 hbr
  go_wp2_with fail
  go_loopw [11] (fun i wr => ∃ (j : Nat), j ≤ rl.length ∧ i = .int .i64 j ∧ Hid (Below w4.heap.size w4 wr)) (fun i _ => rl.length - (intOf i).toNat)
  case atStart => exact ⟨0, Nat.zero_le _, rfl, Lib.hid (Below.refl _ _)⟩
  case round =>
    obtain ⟨j, hj, rfl, hw⟩ := hrel
    obtain ⟨w9, hw9⟩ : ∃ w9, w9 = wr := ⟨_, rfl⟩
    subst hw9
    have y0 := (hw.out.cell (p := ⟨w1.heap.size, 0, none⟩) s4).trans z0
    have y1 := (hw.out.cell (p := ⟨w1.heap.size, 1, none⟩) s4).trans z1
    by_cases hlt : j < rl.length
    · obtain ⟨hrm, hkm⟩ : rl.length = made.length ∧ ks.length = made.length := by
        rcases hlv.out with h | h
        · rw [h] at hlt; cases hlt
        · exact h
      have hww := b4.out.trans (hw.out.mono b4.out.size)
      have hjm : j < made.length := by omega
      have hjk : j < ks.length := by omega
      obtain ⟨bx, ox, rfl, hbx, yx⟩ := hM.out.at hww hww.size j hjm
      obtain ⟨br, or, rfl, hbr, yr⟩ := hi14.out.at hw.out hw.out.size j hlt
      obtain ⟨bk, ok, rfl, hbk, yk⟩ := hK.out.at hww hww.size j hjk
      cases hmj : made[j] with
      | true =>
        rw [hmj] at yx
        replace hww := Lib.hid hww
        replace hrm := Lib.hid hrm
        replace hkm := Lib.hid hkm
        go_wp2_with fail
        go_quiet (fail)
        go_wp2_with fail
        go_roundw
        case rel => exact ⟨j + 1, by omega, by go_num, Lib.hid (below_drewN hw.out _)⟩
        case measure => simp [intOf]; omega
      | false =>
        rw [hmj] at yx
        have hv := hun.out j hlt (by rw [mkK_at j hjm]; exact hmj)
        rw [atK_in hlt, atK_in hjk] at hv
        have hne : (rl[j] != ks[j]) = false := by rw [hv]; simp
        replace hww := Lib.hid hww
        replace hv := Lib.hid hv
        replace hrm := Lib.hid hrm
        replace hkm := Lib.hid hkm
        go_wp2_with fail
        go_quiet (fail)
        go_wp2_with fail
        go_roundw
        case rel => exact ⟨j + 1, by omega, by go_num, Lib.hid (below_drewN hw.out _)⟩
        case measure => simp [intOf]; omega
    · go_wp2_with fail
      go_ret
      exact ⟨rfl, hb1.out.trans ((b4.out.trans (hw.out.mono b4.out.size)).mono hb1.out.size)⟩
end Go.Proofs.Ytkbblekengdhaaa
