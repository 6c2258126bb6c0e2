import Derived.Deep.QuietTactic
import Derived.BigQuiet
import Derived.Test.YtkbblekengdhaaaPk19Told
import Derived.Test.YtkbblekengdhaaaPk20Told
set_option linter.unusedVariables false
set_option linter.unusedSimpArgs false
namespace Go.Proofs.Ytkbblekengdhaaa
open Go Go.RowKit

set_option maxHeartbeats 4000000 in
theorem drawToldRight_calls (A : Option Addr) (c : Nat) (bytes : List Int) (B : Nat) (w0 w : World) (hb : Below B w0 w) (hB : B ≤ w.heap.size) (hx : RowAt (fun b : Int => Value.int .u8 b) B w0 A bytes) (hl : bytes.length ≤ c) (hc : c ≤ maxLen) (hby : ∀ b ∈ bytes, 0 ≤ b ∧ b ≤ 255) :
    Calls Try.prog 18 #[.slice A bytes.length c] w (DrawToldP w) := by
  have h0 := l6Open_calls A c bytes B w0 ((w.alloc (.cells #[.slice none 0 0, .slice none 0 0] 26 (0, 0)))) (below_al' hb _ hB) (by simp; omega) hx hl hc hby
  replace h0 := Lib.hid h0
  clear hb hx hby hl hc
  go_enter Try.func18, Try.ntmps18
  go_wp2_with fail
  refine h0.out.mono ?_
  rintro e w1 ⟨R, rfl, hR, hRB, hRw, hRg, hrd, hb1⟩
  have h1 := l91Sheet_calls R hR 0 (by omega) w1 hrd
  have hgl := block_lt hrd.blk
  have hres1 := (hb1.block w.heap.size (by simp)).trans (heap_new rfl)
  have hz1 : w.heap.size < w1.heap.size := by have := hb1.size; simp at this; omega
  have hg0 : w.heap.size < R.g := by simp at hRg; omega
  have hbw := below_from hb1
  replace h1 := Lib.hid h1
  clear hb1 h0 hRg
  go_wp2_with fail
  refine h1.out.mono ?_
  rintro e w2 ⟨p2, G, made, ts, vm, vt, rfl, hml, hm8, hm2, hp0, hp2, hrd2, ht2, hsh2⟩
  obtain ⟨Am, cm, At, ct, tasks, rfl, rfl, htl, hS2, hnd⟩ := hsh2.readsM
  have htl2 : tasks.length = made.length := by omega
  clear hml htl
  have hz2 : w1.heap.size ≤ w2.heap.size := ht2.size
  have hres2 := (ht2.block _ hz1 (fun e => by omega)).trans hres1
  have hbw2 : Below w.heap.size w w2 := hbw.trans (ht2.below (Nat.le_of_lt hz1) (fun i e => by cases e; omega))
  have hal := below_al (Below.refl _ w2) (.cells #[.slice Am made.length cm, .slice At tasks.length ct] 26 (0, 0))
  have hS3 := hS2.up (mask_up hal) hal.size
  have h2 := l91Told_calls R hR p2 (by omega) Am At cm ct w1.heap.size made tasks _ (hrd2.up hal) hS3 hgl htl2 hm8 hnd
  replace htl2 := Lib.hid htl2
  have hres3 := (hal.block _ (by omega)).trans hres2
  have hbw3 : Below w.heap.size w _ := hbw2.trans (hal.mono (by omega))
  have hbox3 := heap_alloc_new w2 (.cells #[.slice Am made.length cm, .slice At tasks.length ct] 26 (0, 0))
  replace h2 := Lib.hid h2
  replace hS3 := Lib.hid hS3
  clear h1 hrd2 ht2 hsh2 hres2 hbw2 hal hbw hres1 hrd hS2
  go_wp2_with fail
  refine h2.out.mono ?_
  rintro e w3 ⟨p3, ll, vl, vs, rfl, hxl, hsm, hp3, hp3', hrd3, ht3, hown3⟩
  obtain ⟨Ao, co, rfl, hol, hom, hO3⟩ := hown3.rowsM (lo := w1.heap.size) (by simp; omega)
  have hS4 := hS3.out.up (mask_turn ht3 (fun i e => by cases e; exact hgl)) ht3.size
  have hres4 := (ht3.block _ (by simp; omega) (fun e => by omega)).trans hres3
  have hbox4 := (ht3.block _ (by simp) (fun e => by omega)).trans hbox3
  have hbw4 : Below w.heap.size w w3 := hbw3.trans (ht3.below (by simp; omega) (fun i e => by cases e; omega))
  have hz3 : w2.heap.size < w3.heap.size := by have := ht3.size; simp at this; omega
  have x0 : w3.cell? ⟨w2.heap.size, 0, none⟩ = some (.slice Am made.length cm) := cellm hbox4 0
  have x1 : w3.cell? ⟨w2.heap.size, 1, none⟩ = some (.slice At tasks.length ct) := cellm hbox4 1
  have h3 := l91Inputs_calls R hR p3 (by omega) Am At made.length cm tasks.length ct w3 hrd3 (by omega)
  replace h3 := Lib.hid h3
  replace hS4 := Lib.hid hS4
  replace hO3 := Lib.hid hO3
  replace hsm := Lib.hid hsm
  clear h2 hS3 hres3 hbw3 hbox3 ht3 hown3 hrd3
  go_wp2_with fail
  refine h3.out.mono ?_
  rintro e w4 ⟨p4, xs, vi, rfl, hil, hp4, hp4', hrd4, ht4, hown4⟩
  obtain ⟨Ai, ci, rfl, hil2, him, hI4⟩ := rowM (lo := w1.heap.size) hown4 (by omega)
  have hmt4 := mask_turn (lo := w1.heap.size) ht4 (fun i e => by cases e; exact hgl)
  have hS5 := hS4.out.up hmt4 ht4.size
  have hO5 := hO3.out.up hmt4 ht4.size
  have hres5 := (ht4.block _ (by omega) (fun e => by omega)).trans hres4
  have hbox5 := (ht4.block _ (by omega) (fun e => by omega)).trans hbox4
  have hbw5 : Below w.heap.size w w4 := hbw4.trans (ht4.below (by omega) (fun i e => by cases e; omega))
  have hz4 : w2.heap.size < w4.heap.size := by have := ht4.size; omega
  have h4 := l91More_calls R hR p4 (by omega) Ai ci xs w4 hrd4 (by omega) hI4.unmask
  clear x0 x1
  have x0 : w4.cell? ⟨w2.heap.size, 0, none⟩ = some (.slice Am made.length cm) := cellm hbox5 0
  have x1 : w4.cell? ⟨w2.heap.size, 1, none⟩ = some (.slice At tasks.length ct) := cellm hbox5 1
  replace h4 := Lib.hid h4
  replace hS5 := Lib.hid hS5
  replace hO5 := Lib.hid hO5
  replace hI4 := Lib.hid hI4
  clear h3 hS4 hO3 hmt4 hres4 hbox4 hbw4 ht4 hown4 hrd4
  go_wp2_with fail
  refine h4.out.mono ?_
  rintro e w5 ⟨p5, ks, vk, rfl, hkl, hp5, hp5', hrd5, ht5, hown5⟩
  obtain ⟨Ak, ck, rfl, hkl2, hkm, hK⟩ := rowM (lo := w1.heap.size) hown5 (by omega)
  have hmt := mask_turn (lo := w1.heap.size) ht5 (fun i e => by cases e; exact hgl)
  have hS := hS5.out.up hmt ht5.size
  have hO := hO5.out.up hmt ht5.size
  have hI := hI4.out.up hmt ht5.size
  have hres := (ht5.block _ (by omega) (fun e => by omega)).trans hres5
  have hbox := (ht5.block _ (by omega) (fun e => by omega)).trans hbox5
  have hbw6 : Below w.heap.size w w5 := hbw5.trans (ht5.below (by omega) (fun i e => by cases e; omega))
  have hz5 : w2.heap.size < w5.heap.size := by have := ht5.size; omega
  clear x0 x1
  have x0 : w5.cell? ⟨w2.heap.size, 0, none⟩ = some (.slice Am made.length cm) := cellm hbox 0
  have x1 : w5.cell? ⟨w2.heap.size, 1, none⟩ = some (.slice At tasks.length ct) := cellm hbox 1
  have y0 : w5.cell? ⟨w.heap.size, 0, none⟩ = some (.slice none 0 0) := cellm hres 0
  have y1 : w5.cell? ⟨w.heap.size, 1, none⟩ = some (.slice none 0 0) := cellm hres 1
  have f0 : w5.frozen? ⟨w.heap.size, 0, none⟩ = false := frozenm hres 0
  have f1 : w5.frozen? ⟨w.heap.size, 1, none⟩ = false := frozenm hres 1
  have hW := setCell_block (setCell_block hres 0 (.slice Am made.length cm)) 1 (.slice At tasks.length ct)
  have hfin := drawTold_done hz1 hS hO hI hK htl2.out hm8 hnd (by omega) hsm.out hol hom (by omega) hil2 him (by omega) hkl2 hkm hbw6 (.slice Am made.length cm) (.slice At tasks.length ct)
  replace hfin := Lib.hid hfin
  replace hW := Lib.hid hW
  clear h4 hS5 hO5 hI4 hS hO hI hK hmt hres hbox hbw5 hbw6 ht5 hown5 hres5 hbox5 hrd5
  go_wp2_with fail
  exact ret_sheet3 rfl rfl rfl rfl rfl (hW.out.trans rfl) hfin.out
end Go.Proofs.Ytkbblekengdhaaa

set_option linter.unusedVariables false
set_option linter.unusedSimpArgs false
namespace Go.Proofs.Ytkbblekengdhaaa
open Go Go.RowKit

set_option maxRecDepth 5000 in
set_option maxHeartbeats 8000000 in
theorem fnToldRight_calls (A : Option Addr) (c : Nat) (bytes : List Int) (w : World) (hx : RowAt (fun b : Int => Value.int .u8 b) w.heap.size w A bytes) (hl : bytes.length ≤ c) (hc : c ≤ maxLen) (hby : ∀ b ∈ bytes, 0 ≤ b ∧ b ≤ 255) :
    Calls Try.prog 5 #[.slice A bytes.length c] w fun e w' => e = .returned (.bool true) ∧ Below w.heap.size w w' := by
  have hcm := hc
  unfold maxLen at hcm
  by_cases hbig : 1048576 < bytes.length
  · clear hx hby
    go_enter Try.func5, Try.ntmps5
    go_wp2_with fail
    go_ret
    exact ⟨rfl, Below.refl _ _⟩
  have hdr := drawToldRight_calls A c bytes w.heap.size w w (Below.refl _ _) (Nat.le_refl _) hx hl hc hby
  replace hdr := Lib.hid hdr
  clear hx hby
  go_enter Try.func5, Try.ntmps5
  go_wp2_with fail
  refine hdr.out.mono ?_
  rintro e w1 ⟨Am, cm, At, ct, made, tasks, Ao, co, ll, Ai, ci, xs, Ak, ck, ks, rfl, ha, hb1⟩
  have hnod : ∀ T ∈ tasks, nodes T ≤ 1000000000 := fun T hT => by have := ha.nodes T hT; omega
  obtain ⟨R0, rr, hA⟩ := told_all made tasks ll xs ks hnod (fun x hx => by have := ha.rsmall x hx; omega)
  obtain ⟨R2, r2, hA2⟩ := told_all made tasks (tasks.map mayList) xs ks hnod (fun x hx => by
    obtain ⟨T, -, rfl⟩ := List.mem_map.1 hx
    have := mayList_len T
    omega)
  have hfull := hA2.full
  subst hfull
  have hI := fun w2 (h : Below w1.heap.size w1 w2) => hA.iright w2 Am At cm ct Ao co Ai ci Ak ck w1.heap.size w1 h h.size ha.sheet ha.rows ha.ints ha.icap ha.imax ha.more ha.kcap ha.kmax
  have hS := fun w2 (h : Below w1.heap.size w1 w2) => hA.sright w2 Am At cm ct Ao co Ai ci Ak ck w1.heap.size w1 h h.size ha.sheet ha.rows ha.ints ha.icap ha.imax ha.more ha.kcap ha.kmax
  have hI2 := fun w2 Ao co w0 (hb : Below w1.heap.size w1 w0) (h : Below w0.heap.size w0 w2) (hr : RowsAt w0.heap.size w0 Ao (tasks.map mayList)) => (hA2.iruns w2 Am At cm ct Ao co Ai ci Ak ck w0.heap.size w0 h h.size (ha.sheet.up hb hb.size) hr (ha.ints.up hb hb.size) ha.icap ha.imax (ha.more.up hb hb.size) ha.kcap ha.kmax).mono fun _ _ h => h.list
  have hR2 := fun w2 Ao co w0 (hb : Below w1.heap.size w1 w0) (h : Below w0.heap.size w0 w2) (hr : RowsAt w0.heap.size w0 Ao (tasks.map mayList)) => hA2.iright w2 Am At cm ct Ao co Ai ci Ak ck w0.heap.size w0 h h.size (ha.sheet.up hb hb.size) hr (ha.ints.up hb hb.size) ha.icap ha.imax (ha.more.up hb hb.size) ha.kcap ha.kmax
  have hal := below_al (Below.refl w1.heap.size w1) (.cells #[.slice Am made.length cm, .slice At tasks.length ct] 26 (0, 0))
  have hsm := ha.small
  have hlt0 := ha.len
  have hT := ha.sheet
  have hneq : (rr != rr) = false := by cases rr <;> rfl
  replace hI := Lib.hid hI
  replace hS := Lib.hid hS
  replace hI2 := Lib.hid hI2
  replace hR2 := Lib.hid hR2
  replace hal := Lib.hid hal
  replace hb1 := Lib.hid hb1
  replace hT := Lib.hid hT
  replace hlt0 := Lib.hid hlt0
  clear ha hdr hnod hA hA2
  go_wp2_with fail
  refine (hI.out _ hal.out).mono ?_
  rintro e w2 ⟨rfl, h2⟩
  have x0 : w2.cell? ⟨w1.heap.size, 0, none⟩ = some (.slice Am made.length cm) := (h2.cell (p := ⟨w1.heap.size, 0, none⟩) (by simp)).trans (by simp)
  have x1 : w2.cell? ⟨w1.heap.size, 1, none⟩ = some (.slice At tasks.length ct) := (h2.cell (p := ⟨w1.heap.size, 1, none⟩) (by simp)).trans (by simp)
  have s2 : w1.heap.size < w2.heap.size := by have := h2.size; simp at this; omega
  have b2 : Below w1.heap.size w1 w2 := below_from h2
  replace b2 := Lib.hid b2
  clear h2 hI
  go_wp2_with fail
  refine (hS.out _ b2.out).mono ?_
  rintro e w3 ⟨rfl, h3⟩
  have y0 := kept_cell h3 s2 x0
  have y1 := kept_cell h3 s2 x1
  have s3 : w1.heap.size < w3.heap.size := by have := h3.size; omega
  have b3 := b2.out.trans (h3.mono (Nat.le_of_lt s2))
  replace b3 := Lib.hid b3
  clear h3 x0 x1 b2 hS
  have hm0 : (w3.alloc (.cells #[] 28 (0, 0))).ownsRow w3.heap.size 28 1 (.slice (some ⟨w3.heap.size, 0, none⟩) 0 0) 0 [] := by
    simpa using World.ownsRow_made (base := w3.heap.size) (e := 28) (size := 1) w3 #[] 0 (by simp) (by simp [maxLen]) rfl
  replace hm0 := Lib.hid hm0
  go_wp2_with fail
  go_loopw [9, 10] (fun o i wr => ∃ (k : Nat) (vs : List Value), k ≤ made.length ∧ i = .int .i64 k ∧ Hid (OwnRd w3.heap.size wr o vs ((tasks.take k).map mayList)) ∧ Hid (Below w3.heap.size w3 wr)) (fun _ i _ => made.length - (intOf i).toNat)
  case atStart => exact ⟨0, [], Nat.zero_le _, rfl, Lib.hid ⟨hm0.out, fun i hi => by simp at hi⟩, Lib.hid (below_al (Below.refl _ _) _)⟩
  case round =>
    obtain ⟨k, vs, hk, rfl, hO, hw⟩ := hrel
    obtain ⟨w9, hw9⟩ : ∃ w9, w9 = wr := ⟨_, rfl⟩
    subst hw9
    have z0 := (hw.out.cell (p := ⟨w1.heap.size, 0, none⟩) s3).trans y0
    have z1 := (hw.out.cell (p := ⟨w1.heap.size, 1, none⟩) s3).trans y1
    have s9 : w3.heap.size ≤ w9.heap.size := hw.out.size
    by_cases hlt : k < made.length
    · have hkt : k < tasks.length := by have := hlt0.out; omega
      have hww := b3.out.trans (hw.out.mono b3.out.size)
      obtain ⟨bt, ot, At', ct', rfl, hbt, ht0, ht1, ht2, htc, htm, htp⟩ := (hT.out.up hww hww.size).tasks.at (Below.refl _ _) k hkt
      have hmy := taskMay_calls tasks[k] At' ct' w9.heap.size w9 w9 (Below.refl _ _) (Nat.le_refl _) htc htm htp
      have hml := mayList_len tasks[k]
      have htk : (tasks.take (k + 1)).map mayList = (tasks.take k).map mayList ++ [mayList tasks[k]] := by
        rw [List.take_succ_eq_append_getElem hkt, List.map_append]; rfl
      have hlk : ((tasks.take k).map mayList).length = k := by simp; omega
      replace hmy := Lib.hid hmy
      replace htp := Lib.hid htp
      replace htk := Lib.hid htk
      replace hlk := Lib.hid hlk
      replace hww := Lib.hid hww
      go_wp2_with fail
      refine hmy.out.mono ?_
      rintro e w10 ⟨vl, rfl, hown, h10⟩
      have hO2 := hO.out.keep (w2 := w10) (fun i _ h => h10.block i h)
      obtain ⟨A0, c0, evl, -, hc0, -⟩ := ownsRow_ints hown
      subst evl
      have hrx : RdR w3.heap.size w10 (.slice A0 (mayList tasks[k]).length c0) (mayList tasks[k]) := by
        obtain ⟨A, c, h1, h2, h3, h4⟩ := RdR.own hown
        exact ⟨A, c, h1, h2, h3, h4.imp id fun ⟨g, off, cur, a, b, c⟩ => ⟨g, off, cur, a, by omega, c⟩⟩
      have hX := hO2.out.alloc (.cells #[.slice A0 (mayList tasks[k]).length c0] 28 (0, 0))
      rw [hlk.out] at hX
      have hw10 := hw.out.trans (h10.mono s9)
      have s10 := h10.size
      replace hX := Lib.hid hX
      replace hrx := Lib.hid hrx
      replace hO2 := Lib.hid hO2
      replace hw10 := Lib.hid hw10
      clear hown h10 hmy ht0 ht1 ht2 hO
      go_wp2_with (at_builtin; go_loud (with_reducible refine wpList_app1 (by rfl) (.tmp 44) (.tmp 51) 27 (by rfl) rowTy w3.heap.size u9 k vs (by with_unfolding_all rfl) hX.out w10.heap.size 1 [.slice A0 (mayList tasks[k]).length c0] (by with_unfolding_all rfl) (by with_unfolding_all rfl) ⟨_, _, heap_alloc_new w10 _, rfl⟩ ?_ ?_ ?_ ?_ ?_))
      · intro v hv; simp at hv; rw [hv]; rfl
      · unfold maxLen; omega
      · omega
      · simp; omega
      intro g3 cap3 w15 hown3 hgrow3 hat3
      have hN := hO2.out.app hrx.out hgrow3 (by rw [hlk.out]; exact hown3)
      rw [← htk.out] at hN
      have hw15 := (hw10.out.alloc hw10.out.size _).grown hgrow3 (by have := hw10.out.size; simp; omega) (fun i hi => (hO2.out.out.lt i hi).1)
      replace hN := Lib.hid hN
      replace hw15 := Lib.hid hw15
      clear hown3 hgrow3 hat3 hX hrx hO2
      go_wp2_with fail
      go_roundw
      case rel => exact ⟨k + 1, _, by omega, by go_num, hN, hw15⟩
      case measure => simp [intOf]; omega
    · have hke : k = tasks.length := by have := hlt0.out; omega
      have hO3 := hO.out
      rw [hke, List.take_length] at hO3
      obtain ⟨Aa, ca, ea, -, -, hrows⟩ := hO3.rows
      subst ea
      have hww := b3.out.trans (hw.out.mono b3.out.size)
      have s9' : w1.heap.size < w9.heap.size := by omega
      have hc1 := hI2.out w9 Aa ca w9 hww (Below.refl _ _) hrows
      have hc2 := fun w10 (h : Below w9.heap.size w9 w10) => hR2.out w10 Aa ca w9 hww h hrows
      simp only [List.length_map] at hc1 hc2
      replace hke := Lib.hid hke
      replace hc1 := Lib.hid hc1
      replace hc2 := Lib.hid hc2
      clear hO3 hO hrows
      go_wp2_with fail
      refine hc1.out.mono ?_
      rintro e w10 ⟨A1, c1, rfl, hl1, hm1, hi1, h10⟩
      dsimp only at hl1 hi1 ⊢
      have t0 := kept_cell h10 s9' z0
      have t1 := kept_cell h10 s9' z1
      have s10 : w1.heap.size < w10.heap.size := by have := h10.size; omega
      have hd := hc2.out w10 h10
      have b10 := hww.trans (h10.mono hww.size)
      replace hd := Lib.hid hd
      replace b10 := Lib.hid b10
      clear h10 hc1 hc2 hi1 z0 z1
      go_wp2_with fail
      refine hd.out.mono ?_
      rintro e w11 ⟨rfl, h11⟩
      have hfin := hb1.out.trans ((b10.out.trans (h11.mono b10.out.size)).mono hb1.out.size)
      have heq : (R2.2 == R2.2) = true := by cases R2.2 <;> rfl
      replace hfin := Lib.hid hfin
      clear h11 hd
      go_wp2_with fail
      go_ret
      exact ⟨rfl, hfin.out⟩
end Go.Proofs.Ytkbblekengdhaaa
