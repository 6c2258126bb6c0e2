import Derived.Test.YtkbblekengdhaaaPk17Told
set_option linter.unusedVariables false
set_option linter.unusedSimpArgs false
namespace Go.Proofs.Ytkbblekengdhaaa
open Go Go.RowKit

set_option maxRecDepth 5000 in
set_option maxHeartbeats 8000000 in
theorem l12Told_good (Am At Ao Ai Al : Option Addr) (cm ct co ci cl : Nat) (made : List Bool) (tks : List Tk) (old inputs bef order : List Int) (told : List (List Int)) (B : Nat) (w0 w : World) (hb : Below B w0 w) (hB : B ≤ w.heap.size)
    (hs : SheetAt B w0 Am cm At ct made (tks.map Tk.enc)) (hnod : ∀ T ∈ tks.map Tk.enc, nodes T ≤ 1000000000) (hS0 : Sh.Ok ⟨made, tks, old⟩) (hS1 : Sh.Ok ⟨made, tks, inputs⟩) (hsafe : safeP made (tks.map Tk.enc) = true) (hio : IntsAt B w0 Ao old) (hlo : old.length ≤ co) (hmo : co ≤ maxLen)
    (hii : IntsAt B w0 Ai inputs) (hli : inputs.length ≤ ci) (hmi : ci ≤ maxLen) (hrows : RowsAt B w0 Al told) (htl : told.length = made.length) (hbef : buildAllP ⟨made, tks, old⟩ = (bef, true)) (hspec : specAllP ⟨made, tks, old⟩ = (bef, true))
    (hom : ∀ x ∈ order, mkK made x = true) (hon : order.Nodup) (hrl : ∀ x ∈ told, x.length ≤ 1048576)
    (hT : ∀ (w1 : World) (Ak : Option Addr) (ck : Nat), Below w.heap.size w w1 → IntsAt w1.heap.size w1 Ak (keysN made.length) → Calls Try.prog 86 #[.agg #[.slice Am made.length cm, .slice At tks.length ct], .slice Ak made.length ck] w1 (fun e w2 => GivesRow (order, true) e w1 w2)) :
    Calls Try.prog 46 #[.agg #[.slice Am made.length cm, .slice At tks.length ct], .slice Al told.length cl, .slice Ao old.length co, .slice Ai inputs.length ci] w fun e w' =>
      GivesTold w.heap.size (toldP made tks bef inputs told order, true) e w w' := by
  have hten := hS0.ten
  simp only at hten
  have hc1 := fun w1 (hw : Below w.heap.size w w1) => specSheetSafe_calls Am At cm ct made (tks.map Tk.enc) B w0 w1 (below_up' hb hB hw) (Nat.le_trans hB hw.size) hs hnod
  rw [hsafe] at hc1
  simp only [List.length_map] at hc1
  have hc2 := fun w1 (hw : Below w.heap.size w w1) => l3Inputs_calls Am At Ao cm ct co made (tks.map Tk.enc) old B w0 w1 (below_up' hb hB hw) (Nat.le_trans hB hw.size) hs hnod (Nat.le_trans hlo hmo) hio
  rw [show inputsOk made (tks.map Tk.enc) old = true by unfold inputsOk; rw [hS0.takes, show sheetOk made (tks.map Tk.enc) = true from hS0.sheet]; rfl] at hc2
  simp only [List.length_map] at hc2
  have hc3 := fun w1 (hw : Below w.heap.size w w1) => l3Inputs_calls Am At Ai cm ct ci made (tks.map Tk.enc) inputs B w0 w1 (below_up' hb hB hw) (Nat.le_trans hB hw.size) hs hnod (Nat.le_trans hli hmi) hii
  rw [show inputsOk made (tks.map Tk.enc) inputs = true by unfold inputsOk; rw [hS1.takes, show sheetOk made (tks.map Tk.enc) = true from hS1.sheet]; rfl] at hc3
  simp only [List.length_map] at hc3
  have hc4 := fun w1 (hw : Below w.heap.size w w1) => specBuildAll_good ⟨Am, cm, At, ct, Ao, co, B, w0⟩ ⟨made, tks, old⟩ ⟨hs, hio, hlo, hmo, hS0⟩ hnod w1 (below_up' hb hB hw) (Nat.le_trans hB hw.size)
  rw [hspec] at hc4
  obtain ⟨hbl, hbv, -, -⟩ := all_law hS0 hbef
  dsimp only at hbl
  have hil := hS1.ins
  simp only at hil
  have ho10 : order.length ≤ 10 := by
    have := nodup_bound (n := made.length) hon (fun x hx => mkK_range (by rw [hom x hx]; simp))
    omega
  have hst0 : TInv made bef inputs [] ([], toldStart made bef inputs) := TInv.start (fun k => by
    unfold atK
    split
    · omega
    · by_cases h1 : k.toNat < bef.length
      · rw [getD_at _ h1]; exact hbv _ (List.getElem_mem _)
      · rw [getD_out _ (by omega)]; omega) (fun k => atK_value hS1 k)
  have hmk := make_bools made.length (by omega)
  rw [htl]
  replace hc1 := Lib.hid hc1
  replace hc2 := Lib.hid hc2
  replace hc3 := Lib.hid hc3
  replace hc4 := Lib.hid hc4
  replace hT := Lib.hid hT
  replace hb := Lib.hid hb
  replace hom := Lib.hid hom
  replace hon := Lib.hid hon
  replace hrl := Lib.hid hrl
  replace hS1 := Lib.hid hS1
  replace hs := Lib.hid hs
  replace hrows := Lib.hid hrows
  replace htl := Lib.hid htl
  replace hbl := Lib.hid hbl
  replace hil := Lib.hid hil
  replace hii := Lib.hid hii
  replace hst0 := Lib.hid hst0
  clear hsafe hio hnod hS0 hbef hspec hbv
  obtain ⟨bx, hbx⟩ : ∃ bx, bx = #[Value.slice Am made.length cm, Value.slice At tks.length ct] := ⟨_, rfl⟩
  go_enter Try.func46, Try.ntmps46
  go_wp2_with fail
  have hR0 : ∀ w1, Below ((w.alloc (.cells #[.slice Am made.length cm, .slice At tks.length ct] 26 (0, 0))).alloc (.cells #[] 3 (0, 0))).heap.size ((w.alloc (.cells #[.slice Am made.length cm, .slice At tks.length ct] 26 (0, 0))).alloc (.cells #[] 3 (0, 0))) w1 →
      w1.heap[w.heap.size]? = some (.cells bx 26 (0, 0)) ∧ w1.ownsRow w.heap.size 3 1 (.slice (some ⟨w.heap.size + 1, 0, none⟩) 0 0) 0 [] ∧ Below w.heap.size w w1 ∧ w.heap.size + 2 ≤ w1.heap.size := fun w1 h => by
    refine ⟨?_, ?_, below_from (below_from h), by have := h.size; simp at this; omega⟩
    · rw [hbx]
      exact (h.block _ (by simp; omega)).trans ((heap_old (by simp)).trans (heap_new rfl))
    · exact ownsRow_block (by simpa using World.ownsRow_made (base := w.heap.size) (size := 1) (e := 3) (w.alloc (.cells #[.slice Am made.length cm, .slice At tks.length ct] 26 (0, 0))) #[] 0 (by simp) (by simp [maxLen]) rfl) (fun i hi => h.block i (by cases hi; simp))
  replace hR0 := Lib.hid hR0
  refine (hc1.out _ (below_al (below_al (Below.refl _ _) _) _)).mono ?_
  rintro e w1 ⟨rfl, h1⟩
  have g1 := hR0.out w1 h1
  have x0 : w1.cell? ⟨w.heap.size, 0, none⟩ = some (.slice Am made.length cm) := (cellm g1.1 0).trans (by rw [hbx]; rfl)
  have x1 : w1.cell? ⟨w.heap.size, 1, none⟩ = some (.slice At tks.length ct) := (cellm g1.1 1).trans (by rw [hbx]; rfl)
  have b1 := g1.2.2.1
  have s1 : w.heap.size < w1.heap.size := by have := g1.2.2.2; omega
  replace g1 := Lib.hid g1
  replace b1 := Lib.hid b1
  replace h1 := Lib.hid h1
  replace hbx := Lib.hid hbx
  clear hc1
  go_wp2_with fail
  refine (hc2.out _ b1.out).mono ?_
  rintro e w2 ⟨rfl, h2⟩
  have y0 := kept_cell h2 s1 x0
  have y1 := kept_cell h2 s1 x1
  have b2 := below_up b1.out h2
  have s2 : w.heap.size < w2.heap.size := by have := h2.size; omega
  have h12 := h1.out.trans (h2.mono h1.out.size)
  replace h12 := Lib.hid h12
  replace b2 := Lib.hid b2
  clear h1 h2 hc2 x0 x1 b1 g1
  go_wp2_with fail
  refine (hc3.out _ b2.out).mono ?_
  rintro e w3 ⟨rfl, h3⟩
  have x0 := kept_cell h3 s2 y0
  have x1 := kept_cell h3 s2 y1
  have b3 := below_up b2.out h3
  have s3 : w.heap.size < w3.heap.size := by have := h3.size; omega
  have h13 := h12.out.trans (h3.mono h12.out.size)
  replace h13 := Lib.hid h13
  replace b3 := Lib.hid b3
  clear h3 hc3 y0 y1 b2 s2 s1 h12
  go_wp2_with fail
  refine (hc4.out _ b3.out).mono ?_
  rintro e w4 ⟨vb, rfl, hown4, h4⟩
  dsimp only at hown4 ⊢
  obtain ⟨Ab, cb, rfl, hlb, hmb, hib⟩ := ownsRow_ints hown4
  rw [hbl.out] at hown4
  have y0 := kept_cell h4 s3 x0
  have y1 := kept_cell h4 s3 x1
  have b4 := below_up b3.out h4
  have s4 : w.heap.size < w4.heap.size := by have := h4.size; omega
  have g4 := hR0.out w4 (h13.out.trans (h4.mono h13.out.size))
  have hlow4 : ∀ i, (Value.slice Ab made.length cb).ownBlock = some i → w.heap.size + 1 < i ∧ i < w4.heap.size := fun i hi => by
    have := hown4.lt i hi
    have := (hR0.out w3 h13.out).2.2.2
    omega
  have hown4' := own_low2 hown4 b3.out.size
  replace b4 := Lib.hid b4
  replace g4 := Lib.hid g4
  replace hown4' := Lib.hid hown4'
  replace hlow4 := Lib.hid hlow4
  rw [hbl.out]
  clear h4 hc4 x0 x1 b3 hown4 hib h13 hR0 s3
  go_wp2_with fail
  have hTS : TS made.length bx w (.slice Ab made.length cb) (w4.heap.size + 1) bef (othAt made bef inputs 0) (.slice (some ⟨w.heap.size + 1, 0, none⟩) 0 0) [] ((w4.alloc (.cells #[] 3 (0, 0))).alloc (.cells (madeCells #[.bool false] made.length) 4 (0, 0))) := by
    have hup := below_al (below_al (Below.refl _ w4) (.cells #[] 3 (0, 0))) (.cells (madeCells #[.bool false] made.length) 4 (0, 0))
    have g := g4.out
    refine ⟨(hup.block _ s4).trans g.1, ownsRow_block hown4'.out (fun i hi => hup.block i (hlow4.out i hi).2), ?_, ownsRow_block g.2.1 (fun i hi => hup.block i (by have e := Option.some.inj (show some (w.heap.size + 1) = some i from hi); have := g.2.2.2; omega)), fun i hi e => ?_, b4.out.trans (hup.mono (Nat.le_of_lt s4)), hbl.out⟩
    · rw [othAt_zero, ← keysN_rep]
      exact made_blk (heap_new (by simp))
    · have := (hlow4.out i hi).1
      have e2 := Option.some.inj (show some (w.heap.size + 1) = some i from e)
      omega
  have hal0 : ((w4.alloc (.cells #[] 3 (0, 0))).alloc (.cells (madeCells #[.bool false] made.length) 4 (0, 0))).ownsRow w4.heap.size 3 1 (.slice (some ⟨w4.heap.size, 0, none⟩) 0 0) 0 (ints ((keysN made.length).take 0)) :=
    ownsRow_block (by simpa [ints] using World.ownsRow_made (base := w4.heap.size) (size := 1) (e := 3) w4 #[] 0 (Nat.le_refl _) (by simp [maxLen]) rfl) (fun i hi => heap_old (by cases hi; simp))
  have g4s := g4.out.2.2.2
  have hsz5 : w4.heap.size + 2 ≤ ((w4.alloc (.cells #[] 3 (0, 0))).alloc (.cells (madeCells #[.bool false] made.length) 4 (0, 0))).heap.size := by simp
  generalize hw5 : (w4.alloc (.cells #[] 3 (0, 0))).alloc (.cells (madeCells #[.bool false] made.length) 4 (0, 0)) = w5 at *
  replace hTS := Lib.hid hTS
  replace hal0 := Lib.hid hal0
  replace hw5 := Lib.hid hw5
  replace g4s := Lib.hid g4s
  clear g4 hown4' hmk y0 y1
  go_loopw [14, 16] (fun o i wr => ∃ (j : Nat), j ≤ made.length ∧ i = .int .i64 j ∧ Hid (TS made.length bx w (.slice Ab made.length cb) (w4.heap.size + 1) (nowAt made bef inputs j) (othAt made bef inputs j) (.slice (some ⟨w.heap.size + 1, 0, none⟩) 0 0) [] wr) ∧ Hid (wr.ownsRow w4.heap.size 3 1 o j (ints ((keysN made.length).take j)))) (fun o i _ => made.length - (intOf i).toNat)
  case atStart => exact ⟨0, Nat.zero_le _, rfl, by rw [nowAt_zero inputs hbl.out]; exact hTS, hal0⟩
  case round =>
    obtain ⟨j, hj, rfl, hTS, hal⟩ := hrel
    obtain ⟨w9, hw9⟩ : ∃ w9, w9 = wr := ⟨_, rfl⟩
    subst hw9
    have bw := hTS.out.below
    have z0 : w9.cell? ⟨w.heap.size, 0, none⟩ = some (.slice Am made.length cm) := (cellm hTS.out.box 0).trans (by rw [hbx.out]; rfl)
    have z1 : w9.cell? ⟨w.heap.size, 1, none⟩ = some (.slice At tks.length ct) := (cellm hTS.out.box 1).trans (by rw [hbx.out]; rfl)
    have hwz := block_lt hTS.out.box
    by_cases hlt : j < made.length
    · have hgo := hTS.out.oo.lt
      have s49 : w4.heap.size ≤ w9.heap.size := by omega
      have hoj := hal.out
      -- the row of all keys has grown
      have htsn : ∀ (o : Obj) (w7 : World) (row : Option Nat), (w9.alloc o).grownBy w7 row → (∀ i, row = some i → w4.heap.size ≤ i ∧ i ≠ w4.heap.size + 1) → TS made.length bx w (.slice Ab made.length cb) (w4.heap.size + 1) (nowAt made bef inputs j) (othAt made bef inputs j) (.slice (some ⟨w.heap.size + 1, 0, none⟩) 0 0) [] w7 := fun o w7 row hg hr => by
        refine hTS.out.kept (fun i hi => far_grown hg (hTS.out.bnd i hi) fun e => ?_) ((below_al' hTS.out.below o hTS.out.below.size).grown hg (by have := hTS.out.below.size; simp; omega) (fun i hi => by have := (hr i hi).1; omega))
        have := hr i e
        rcases hi with rfl | hi | rfl | hi
        · omega
        · have := (hlow4.out i hi).2; omega
        · omega
        · have e2 := Option.some.inj (show some (w.heap.size + 1) = some i from hi)
          have := g4s.out
          omega
      have halne : ∀ i, u14.ownBlock = some i → w4.heap.size ≤ i ∧ i ≠ w4.heap.size + 1 := fun i hi => ⟨(hal.out.lt i hi).1, fun e => ownsRow_ne hal.out hTS.out.oo (fun c e => by cases e) (by rw [hi, e])⟩
      have hstep : ∀ (g cap : Nat) (w7 : World), w7.ownsRow w4.heap.size 3 1 (.slice (some ⟨g, 0, none⟩) (j + 1) cap) (j + 1) (ints ((keysN made.length).take j) ++ [.int .i64 (j : Int)]) → w7.ownsRow w4.heap.size 3 1 (.slice (some ⟨g, 0, none⟩) (j + 1) cap) (j + 1) (ints ((keysN made.length).take (j + 1))) := fun g cap w7 h => by
        rw [keysN_take hlt, ints_append]; simpa [ints] using h
      replace htsn := Lib.hid htsn
      replace halne := Lib.hid halne
      replace hstep := Lib.hid hstep
      replace hoj := Lib.hid hoj
      have hmd := fun (W : World) (h : Below w.heap.size w W) => hs.out.made.at (below_up' hb.out hB h) (Nat.le_trans hB h.size) j hlt
      have hk := at_row hlt
      obtain ⟨mj, hmj⟩ : ∃ mj, made[j] = mj := ⟨_, rfl⟩
      simp only [hmj] at hmd hk
      replace hmd := Lib.hid hmd
      replace hmj := Lib.hid hmj
      go_wp2_with (at_builtin; go_loud (with_reducible refine wpList_app1 (by rfl) (.tmp 66) (.tmp 68) 28 (by rfl) intTy w4.heap.size u14 j (ints ((keysN made.length).take j)) (by with_unfolding_all rfl) (hoj.out.alloc _) w9.heap.size 1 [.int .i64 j] (by with_unfolding_all rfl) (by with_unfolding_all rfl) ⟨_, _, heap_alloc_new w9 _, rfl⟩ (one_int _ _) ?_ ?_ ?_ ?_))
      · unfold maxLen; omega
      · omega
      · first | omega | (simp; omega)
      intro g7 cap7 w7 hown7 hgrow7 hat7
      have hT7 := htsn.out _ w7 _ hgrow7 halne.out
      have ho7 := hstep.out _ _ _ hown7
      have z0 : w7.cell? ⟨w.heap.size, 0, none⟩ = some (.slice Am made.length cm) := (cellm hT7.box 0).trans (by rw [hbx.out]; rfl)
      have z1 : w7.cell? ⟨w.heap.size, 1, none⟩ = some (.slice At tks.length ct) := (cellm hT7.box 1).trans (by rw [hbx.out]; rfl)
      obtain ⟨bm, om, rfl, hbm, cm7⟩ := hmd.out w7 hT7.below
      replace hT7 := Lib.hid hT7
      replace ho7 := Lib.hid ho7
      clear hgrow7 hown7 hat7 htsn halne hstep hoj hal hTS
      cases mj with
      | true =>
        have hT8 := hT7.out
        rw [← nowAt_made hk, ← othAt_made hk] at hT8
        replace hT8 := Lib.hid hT8
        replace hk := Lib.hid hk
        go_wp2_with fail
        go_roundw
        case rel => exact ⟨j + 1, by omega, by go_num, hT8, ho7⟩
        case measure => simp [intOf]; omega
      | false =>
        have hbw7 := hT7.out.below
        obtain ⟨bi, oi, rfl, hbi, ci0⟩ := hii.out j (by rw [hil.out]; exact hlt)
        have ci7 := ((below_up' hb.out hB hbw7).cell (p := ⟨bi, oi + j, none⟩) hbi).trans ci0
        have hbi7 : bi < w7.heap.size := by have := hbw7.size; omega
        have hbne : bi ≠ w4.heap.size + 1 := by omega
        clear ci0
        have hin : inputs[j]'(by rw [hil.out]; exact hlt) = atK inputs j := (atK_in _).symm
        rw [hin] at ci7
        have hji : j < inputs.length := by rw [hil.out]; exact hlt
        obtain ⟨g, cap, eg, hBg, hgl⟩ := hT7.out.vo.form (by omega)
        cases eg
        have hln := nowAt_len made bef inputs j
        have hnj : (nowAt made bef inputs j)[j]'(by omega) = atK bef j := by simp [nowAt]
        have cv : w7.cell? ⟨g, j, none⟩ = some (.int .i64 (atK bef j)) := by
          have h2 := hT7.out.vo
          obtain ⟨A', c', e, _, _, hc⟩ := ownsRow_cells h2
          cases e
          obtain ⟨b', e2, _, hc'⟩ := hc j (by simpa [ints, hln] using hlt)
          cases e2
          rw [hc', ← hnj]; simp [ints]
        have fv : ∀ W : World, W.heap[g]? = w7.heap[g]? → W.frozen? ⟨g, j, none⟩ = false := fun W hW => by
          have h2 := hT7.out.vo
          obtain ⟨_, ⟨h3, _⟩ | ⟨g', cap', cur, h3, _, h5, _⟩⟩ := h2
          · cases h3
          · cases h3; exact frozenm (hW.trans h5) j
        have co : w7.cell? ⟨w4.heap.size + 1, j, none⟩ = some (.bool (othAt made bef inputs j j)) := by
          have := hT7.out.oo.cell (i := j) (by simpa [keysN] using hlt)
          simpa [keysN_get] using this
        have fo : w7.frozen? ⟨w4.heap.size + 1, j, none⟩ = false := hT7.out.oo.frozen j
        have hT8 := (hT7.out.setO (by omega) j (atK bef j != atK inputs j)).up (Below.refl _ _).drew
        have hT9 := hT8.setV rfl j (atK inputs j) hlt
        rw [← othAt_unmade hk, ← nowAt_unmade hlt hk] at hT9
        have hgne : g ≠ w4.heap.size + 1 := fun e => hT7.out.vgo (by rw [← e]; rfl)
        have hc9 : (w7.setCell ⟨w4.heap.size + 1, j, none⟩ (.bool (atK bef j != atK inputs j))).drew.cell? ⟨g, j, none⟩ = some (.int .i64 (atK bef j)) := (World.cell?_of_block (w := w7) (setCell_far hgne)).trans cv
        have hf9 := fv (w7.setCell ⟨w4.heap.size + 1, j, none⟩ (.bool (atK bef j != atK inputs j))).drew (setCell_far hgne)
        have hi9 : (w7.setCell ⟨w4.heap.size + 1, j, none⟩ (.bool (atK bef j != atK inputs j))).drew.cell? ⟨bi, oi + j, none⟩ = some (.int .i64 (atK inputs j)) := (World.cell?_of_block (w := w7) (setCell_far hbne)).trans ci7
        generalize othAt made bef inputs j j = oj at co
        generalize atK bef j = vbj at *
        generalize atK inputs j = vij at *
        replace hT9 := Lib.hid hT9
        replace hk := Lib.hid hk
        replace hin := Lib.hid hin
        replace hnj := Lib.hid hnj
        replace hln := Lib.hid hln
        have hTo := hT7.out.oo
        replace hTo := Lib.hid hTo
        clear hT8 fv hT7
        go_wp2_with fail
        go_region
        all_goals
          generalize hW8 : (w7.setCell ⟨w4.heap.size + 1, j, none⟩ (.bool (vbj != vij))).drew = w8 at *
          replace hW8 := Lib.hid hW8
          go_wp2_with fail
          go_roundw
          case rel => exact ⟨j + 1, by omega, by go_num, hT9, Lib.hid (ownsRow_block ho7.out fun i hi => by
            have := (ho7.out.lt i hi).1
            rw [setCell_far (by have := (hlow4.out g rfl).2; omega), ← hW8.out]
            exact setCell_far (fun e => ownsRow_ne ho7.out hTo.out (fun c e => by cases e) (by rw [hi, e])))⟩
          case measure => simp [intOf]; omega
    · have e : j = made.length := by omega
      subst e
      rw [nowAt_end] at hTS
      have hal2 := hal.out
      rw [List.take_of_length_le (by rw [keysN_length]; omega)] at hal2
      have hal3 := hal2
      rw [show made.length = (keysN made.length).length by rw [keysN_length]] at hal3
      simp only [keysN_length] at hal3
      obtain ⟨Ak, ck, evk, -, -, hik⟩ := ownsRow_ints (xs := keysN made.length) (v := u14) (base := w4.heap.size) (e := 3) (w := w9) (by rw [keysN_length]; exact hal2)
      rw [keysN_length] at evk
      subst evk
      have hTo := hT.out w9 Ak ck bw hik
      have hvow : ∀ i, TFoot w.heap.size (.slice Ab made.length cb) (w4.heap.size + 1) (.slice (some ⟨w.heap.size + 1, 0, none⟩) 0 0) i → i < w9.heap.size := hTS.out.bnd
      replace hTo := Lib.hid hTo
      replace hvow := Lib.hid hvow
      clear hik hal hal2 hal3 hT hlt hal0
      go_wp2_with fail
      refine hTo.out.mono ?_
      rintro e w10 ⟨vo, rfl, hown10, h10⟩
      dsimp only at hown10 ⊢
      obtain ⟨Ar, cr, evo, hrl1, hrl2, -⟩ := ownsRow_ints hown10
      subst evo
      have hT10 := hTS.out.up h10
      have hob : ∀ i, (Value.slice Ar order.length cr).ownBlock = some i → w9.heap.size ≤ i := fun i hi => (hown10.lt i hi).1
      have hol10 := own_low2 hown10 bw.size
      have hoc : ∀ i : Int, 0 ≤ i ∧ i < made.length → othAt made bef inputs made.length i = chg made.length bef ([], toldStart made bef inputs) i := fun i hi => oth_chg i hi
      have htk : ∀ q : Nat, q < made.length → (tkAt made tks q).ok := fun q hq => tk_ok hS1.out q
      have htok : ∀ q (h : q < tks.length), okT tks[q].enc = true := fun q h => hS1.out.okT h
      have htl2 : made.length = tks.length := hS1.out.len
      replace hT10 := Lib.hid hT10
      replace hob := Lib.hid hob
      replace hol10 := Lib.hid hol10
      replace hoc := Lib.hid hoc
      replace htk := Lib.hid htk
      replace htok := Lib.hid htok
      replace htl2 := Lib.hid htl2
      replace bw := Lib.hid bw
      clear hown10 h10 hTS hTo z0 z1
      go_wp2_with fail
      go_loopw [11, 19, 20, 21] (fun vr i _ _ wr => ∃ (q : Nat) (st : List Int × List Int) (Y : Int → Bool), q ≤ order.length ∧ i = .int .i64 q ∧ Hid (TS made.length bx w (.slice Ab made.length cb) (w4.heap.size + 1) st.2 Y vr st.1 wr) ∧ Hid (wr.ownsRow w.heap.size 3 1 (.slice Ar order.length cr) order.length (ints order)) ∧
        Hid (∀ i, (Value.slice Ar order.length cr).ownBlock = some i → vr.ownBlock ≠ some i) ∧ Hid ((order.take q).foldl (toldStep made tks bef told) ([], toldStart made bef inputs) = st) ∧ Hid (TInv made bef inputs (order.take q) st) ∧ Hid (∀ i : Int, 0 ≤ i ∧ i < made.length → Y i = chg made.length bef st i)) (fun _ i _ _ _ => order.length - (intOf i).toNat)
      case atStart => exact ⟨0, _, _, Nat.zero_le _, rfl, hT10, hol10, Lib.hid (fun i hi e => by have h1 := hob.out i hi; have h2 := hvow.out i (.inr (.inr (.inr e))); omega), Lib.hid rfl, Lib.hid (by rw [List.take_zero]; exact hst0.out), hoc⟩
      case round =>
        obtain ⟨q, st, Y, hq, rfl, hTS, hol, hora, hst, hI, hY⟩ := hrel
        obtain ⟨wl, hwl⟩ : ∃ wl, wl = wr := ⟨_, rfl⟩
        subst hwl
        by_cases hql : q < order.length
        · obtain ⟨Ar', cr', eo, -, -, hio⟩ := ownsRow_ints hol.out
          cases eo
          obtain ⟨bo, oo, rfl, hbo, co0⟩ := hio q hql
          have hkm := hom.out order[q] (List.getElem_mem _)
          have hkr := mkK_range (show mkK made order[q] ≠ false by rw [hkm]; simp)
          obtain ⟨k, hk⟩ := Int.eq_ofNat_of_zero_le hkr.1
          have hkn : k < made.length := by omega
          have hnd : order[q] ∉ order.take q := by
            intro h
            have hn := hon.out
            rw [← List.take_append_drop q order, List.nodup_append] at hn
            refine hn.2.2 _ h order[q] ?_ rfl
            rw [List.drop_eq_getElem_cons hql]; exact List.mem_cons_self ..
          have hI2 := hI.out.step (told := told) hkm hnd htk.out
          have htake : order.take q ++ [order[q]] = order.take (q + 1) := (List.take_succ_eq_append_getElem hql).symm
          have hst2 : (order.take (q + 1)).foldl (toldStep made tks bef told) ([], toldStart made bef inputs) = toldStep made tks bef told st order[q] := by
            rw [← htake, List.foldl_append, hst.out]; rfl
          rw [htake] at hI2
          rw [hk] at co0 hI2 hst2 hkm hnd
          have hcs := fun i h0 => chg_step (tks := tks) (told := told) hI.out hkn hkm hnd i h0
          have hck : chg made.length bef st k = false := by
            have hks : (k : Int) ∉ st.1 := fun e => hnd (hI.out.sub _ e)
            simp only [chg, hI.out.yet k hkn hkm hks, bne_self_eq_false, Bool.or_false, Bool.and_eq_false_iff]
            right
            simpa using hks
          have hkt : k < told.length := by rw [htl.out]; exact hkn
          have hta : toldAt told k = told[k] := by unfold toldAt; rw [Int.toNat_natCast]; exact getD_at _ hkt
          have hlk := hrl.out told[k] (List.getElem_mem _)
          have hrow := fun (W : World) (h : Below w.heap.size w W) => hrows.out.at (below_up' hb.out hB h) (Nat.le_trans hB h.size) k hkt
          rw [hta] at hcs
          generalize told[k] = tk0 at *
          have hrun : st.1.length ≤ 10 := by
            have := nodup_bound (n := made.length) hI.out.nodup (fun x hx => mkK_range (by rw [hI.out.madeOf x (hI.out.sub x hx)]; simp))
            omega
          have hY0 : ∀ i : Int, 0 ≤ i ∧ i < made.length → Y i = if i = (k : Int) then (tk0.take 0).any (chg made.length bef st) else chg made.length bef st i := fun i hi => by
            rw [hY.out i hi]
            split
            · rename_i e; rw [e, hck]; rfl
            · rfl
          replace hrow := Lib.hid hrow
          replace hcs := Lib.hid hcs
          replace hck := Lib.hid hck
          replace hst2 := Lib.hid hst2
          replace hI2 := Lib.hid hI2
          replace hkm := Lib.hid hkm
          replace hY0 := Lib.hid hY0
          replace hta := Lib.hid hta
          have hsl := hTS.out.below.size
          clear hio hnd htake hkr hY hbo
          go_wp2_with fail
          go_loopw [21] (fun m wr => ∃ (a : Nat) (Y2 : Int → Bool), a ≤ tk0.length ∧ m = .int .i64 a ∧ Hid (TS made.length bx w (.slice Ab made.length cb) (w4.heap.size + 1) st.2 Y2 u11 st.1 wr) ∧ Hid (wr.ownsRow w.heap.size 3 1 (.slice (some ⟨bo, oo, none⟩) order.length cr) order.length (ints order)) ∧
            Hid (∀ i : Int, 0 ≤ i ∧ i < made.length → Y2 i = if i = (k : Int) then (tk0.take a).any (chg made.length bef st) else chg made.length bef st i)) (fun m _ => tk0.length - (intOf m).toNat)
          case atStart => exact ⟨0, Y, Nat.zero_le _, rfl, hTS, hol, hY0⟩
          case round =>
            obtain ⟨a, Y2, ha, rfl, hTS, hol, hY2⟩ := hrel
            obtain ⟨wi, hwi⟩ : ∃ wi, wi = wr := ⟨_, rfl⟩
            subst hwi
            obtain ⟨bl, ol, Al', cl', rfl, hbl0, cl0, hil0⟩ := hrow.out wi hTS.out.below
            have z0 : wi.cell? ⟨w.heap.size, 0, none⟩ = some (.slice Am made.length cm) := (cellm hTS.out.box 0).trans (by rw [hbx.out]; rfl)
            have z1 : wi.cell? ⟨w.heap.size, 1, none⟩ = some (.slice At tks.length ct) := (cellm hTS.out.box 1).trans (by rw [hbx.out]; rfl)
            have hwz := block_lt hTS.out.box
            by_cases hla : a < tk0.length
            · obtain ⟨ba, oa, rfl, hba, ca0⟩ := hil0 a hla
              have hany : (tk0.take (a + 1)).any (chg made.length bef st) = ((tk0.take a).any (chg made.length bef st) || chg made.length bef st tk0[a]) := by
                rw [List.take_succ_eq_append_getElem hla, List.any_append]; simp
              have hcall := fun W : World => l6In_calls tk0[a] 0 ((made.length : Int) - 1) W
              have hoN : ∀ N : Nat, (wi.drewN N).ownsRow w.heap.size 3 1 (.slice (some ⟨bo, oo, none⟩) order.length cr) order.length (ints order) := fun N => ownsRow_block hol.out (fun i hi => rfl)
              have hTN := fun N : Nat => hTS.out.up (below_drewN (Below.refl _ _) N)
              generalize hx0 : tk0[a] = x at *
              replace hx0 := Lib.hid hx0
              replace hoN := Lib.hid hoN
              by_cases hin : 0 ≤ x ∧ x < (made.length : Int)
              · obtain ⟨r, rfl⟩ := Int.eq_ofNat_of_zero_le hin.1
                have hrn : r < made.length := by omega
                have hd : decide ((0 : Int) ≤ (r : Int) ∧ (r : Int) ≤ (made.length : Int) - 1) = true := decide_eq_true (by omega)
                simp only [hd] at hcall
                have hyr := hY2.out (r : Int) hin
                have cg : wi.cell? ⟨w4.heap.size + 1, r, none⟩ = some (.bool (Y2 r)) := by
                  have := hTS.out.oo.cell (i := r) (by simpa [keysN] using hrn)
                  simpa [keysN_get] using this
                have ck : wi.cell? ⟨w4.heap.size + 1, k, none⟩ = some (.bool (Y2 k)) := by
                  have := hTS.out.oo.cell (i := k) (by simpa [keysN] using hkn)
                  simpa [keysN_get] using this
                have fk : wi.frozen? ⟨w4.heap.size + 1, k, none⟩ = false := hTS.out.oo.frozen k
                obtain ⟨y, hy⟩ : ∃ y, Y2 (r : Int) = y := ⟨_, rfl⟩
                rw [hy] at cg hyr
                have hany2 : (tk0.take (a + 1)).any (chg made.length bef st) = ((tk0.take a).any (chg made.length bef st) || y) := by
                  rw [hany, hyr]
                  by_cases e : (r : Int) = (k : Int)
                  · rw [e, if_pos rfl, hck.out]; simp
                  · rw [if_neg e]
                replace hcall := Lib.hid hcall
                replace hTN := Lib.hid hTN
                replace hd := Lib.hid hd
                cases y with
                | false =>
                  rw [Bool.or_false] at hany2
                  have hY3 : ∀ i : Int, 0 ≤ i ∧ i < made.length → Y2 i = if i = (k : Int) then (tk0.take (a + 1)).any (chg made.length bef st) else chg made.length bef st i := fun i hi => by rw [hany2]; exact hY2.out i hi
                  replace hY3 := Lib.hid hY3
                  replace hy := Lib.hid hy
                  clear hyr hany hany2 hTS hol ck fk
                  go_wp2_with fail
                  go_quiet ((go_at_call 87; exact Calls.quiet_of_same ((hcall.out _).mono fun _ _ h => ⟨h.1, h.2.symm⟩)))
                  go_wp2_with fail
                  go_roundw
                  case rel => exact ⟨a + 1, Y2, by omega, by go_num, Lib.hid (hTN.out _), Lib.hid (hoN.out _), hY3⟩
                  case measure => simp [intOf]; omega
                | true =>
                  rw [Bool.or_true] at hany2
                  have hY3 : ∀ i : Int, 0 ≤ i ∧ i < made.length → (fun i : Int => if i = (k : Int) then true else Y2 i) i = if i = (k : Int) then (tk0.take (a + 1)).any (chg made.length bef st) else chg made.length bef st i := fun i hi => by
                    simp only
                    split
                    · exact hany2.symm
                    · rename_i e; rw [hY2.out i hi, if_neg e]
                  replace hY3 := Lib.hid hY3
                  replace hy := Lib.hid hy
                  generalize Y2 (k : Int) = yk at ck
                  clear hyr hany hany2
                  go_wp2_with fail
                  go_quiet ((go_at_call 87; exact Calls.quiet_of_same ((hcall.out _).mono fun _ _ h => ⟨h.1, h.2.symm⟩)))
                  go_wp2_with fail
                  go_roundw
                  case rel => exact ⟨a + 1, _, by omega, by go_num, Lib.hid ((hTN.out _).setO (by omega) k true), Lib.hid (ownsRow_block (hoN.out _) (fun i hi => setCell_far (fun e => ownsRow_ne (hoN.out 0) hTS.out.oo (fun c e => by cases e) (by rw [hi, e])))), hY3⟩
                  case measure => simp [intOf]; omega
              · have hd : decide ((0 : Int) ≤ x ∧ x ≤ (made.length : Int) - 1) = false := decide_eq_false (by omega)
                simp only [hd] at hcall
                have hcx : chg made.length bef st x = false := by simp only [chg, decide_eq_false hin, Bool.false_and]
                rw [hcx, Bool.or_false] at hany
                have hY3 : ∀ i : Int, 0 ≤ i ∧ i < made.length → Y2 i = if i = (k : Int) then (tk0.take (a + 1)).any (chg made.length bef st) else chg made.length bef st i := fun i hi => by rw [hany]; exact hY2.out i hi
                replace hcall := Lib.hid hcall
                replace hTN := Lib.hid hTN
                replace hY3 := Lib.hid hY3
                replace hd := Lib.hid hd
                replace hin := Lib.hid hin
                clear hcx hany hTS hol
                go_wp2_with fail
                go_quiet ((go_at_call 87; exact Calls.quiet_of_same ((hcall.out _).mono fun _ _ h => ⟨h.1, h.2.symm⟩)))
                go_wp2_with fail
                go_roundw
                case rel => exact ⟨a + 1, Y2, by omega, by go_num, Lib.hid (hTN.out _), Lib.hid (hoN.out _), hY3⟩
                case measure => simp [intOf]; omega
            · have e : a = tk0.length := by omega
              subst e
              have hY3 := hY2.out
              rw [List.take_length] at hY3
              obtain ⟨res, hres⟩ : ∃ res, tk0.any (chg made.length bef st) = res := ⟨_, rfl⟩
              rw [hres] at hY3
              have hyk := hY3 k ⟨by omega, by omega⟩
              rw [if_pos rfl] at hyk
              have ck : wi.cell? ⟨w4.heap.size + 1, k, none⟩ = some (.bool res) := by
                have := hTS.out.oo.cell (i := k) (by simpa [keysN] using hkn)
                rw [← hyk]
                simpa [keysN_get] using this
              have hcs2 : ∀ i : Int, 0 ≤ i ∧ i < made.length → Y2 i = chg made.length bef (toldStep made tks bef told st k) i := fun i h0 => by rw [hcs.out i h0, hres]; exact hY3 i h0
              have hst3 := hst2.out
              have hI3 := hI2.out
              replace hcs2 := Lib.hid hcs2
              unfold toldStep at hst3 hI3
              rw [hta.out, hres] at hst3 hI3
              have hts : toldStep made tks bef told st k = if res = true then (st.1 ++ [(k : Int)], st.2.set (k : Int).toNat ((tkAt made tks k).itr.val st.2)) else st := by
                unfold toldStep; rw [hta.out, hres]
              have hcs3 := hcs2.out
              rw [hts] at hcs3
              replace hcs3 := Lib.hid hcs3
              have htla : tk0.length ≤ 1048576 := hlk
              clear hst2 hI2 hcs hcs2 hY2 hyk hts hil0
              cases res with
              | false =>
                rw [if_neg (by simp)] at hst3 hI3
                replace hst3 := Lib.hid hst3
                replace hI3 := Lib.hid hI3
                have hcs4 := hcs3.out
                rw [if_neg (by simp)] at hcs4
                replace hcs4 := Lib.hid hcs4
                clear hY3 hres
                go_wp2_with fail
                go_roundw
                case rel => exact ⟨q + 1, st, Y2, by omega, by go_num, hTS, hol, hora, hst3, hI3, hcs4⟩
                case measure => simp [intOf]; omega
              | true =>
                rw [if_pos rfl, Int.toNat_natCast] at hst3 hI3
                have hcs4 := hcs3.out
                rw [if_pos rfl, Int.toNat_natCast] at hcs4
                have hqk : k < tks.length := by rw [← htl2.out]; exact hkn
                have htkk : tkAt made tks k = tks[k] := tk_at (S := ⟨made, tks, inputs⟩) hqk
                rw [htkk] at hst3 hI3 hcs4
                have bwi := hTS.out.below
                obtain ⟨bt, ot, At', ct', rfl, hbt, ht0, ht1, ht2, htc, htm, htp⟩ := hs.out.tasks.at (below_up' hb.out hB bwi) k (by simpa using hqk)
                simp only [List.getElem_map] at ht0 ht1 ht2 htc htp
                have hbt13 : bt < wi.heap.size := by have := bwi.size; omega
                have hvl := hTS.out.len
                obtain ⟨g, cap, eg, hBg, hgl⟩ := hTS.out.vo.form (by omega)
                cases eg
                have hnow : IntsAt wi.heap.size wi (some ⟨g, 0, none⟩) st.2 := by
                  have := hTS.out.vo
                  rw [← hvl] at this
                  exact ownsRow_ints_of this
                have hfs : tks[k].fets ≤ 100 := fets_small (htok.out k hqk)
                have hfc := l2Run_calls tks[k] At' ct' st.2 (some ⟨g, 0, none⟩) cb wi.heap.size wi wi (Below.refl _ _) (Nat.le_refl _) (hS1.out.tks _ (List.getElem_mem _)) hfs htc (PartsIs.up (below_up' hb.out hB bwi) (Nat.le_trans hB bwi.size) _ _ _ htp) (by rw [hvl]; unfold maxLen; omega) hnow hI.out.val
                have hval : (fetchedP tks[k] st.2).1.1 = tks[k].itr.val st.2 := by rw [fetched_val]
                rw [hval, hvl] at hfc
                obtain ⟨vx, hvx⟩ : ∃ vx, tks[k].itr.val st.2 = vx := ⟨_, rfl⟩
                rw [hvx] at hfc hst3 hI3 hcs4
                have hgne : ∀ i, (Value.slice (some ⟨bo, oo, none⟩) order.length cr).ownBlock = some i → i ≠ g := fun i hi e => by
                  have h1 := hob.out i hi
                  have h2 := hvow.out g (.inr (.inl rfl))
                  omega
                replace hfc := Lib.hid hfc
                replace hst3 := Lib.hid hst3
                replace hI3 := Lib.hid hI3
                replace hcs4 := Lib.hid hcs4
                replace hgne := Lib.hid hgne
                replace hvx := Lib.hid hvx
                replace htkk := Lib.hid htkk
                replace htp := Lib.hid htp
                replace hval := Lib.hid hval
                clear hY3 hres hcs3 hnow
                go_wp2_with fail
                refine hfc.out.mono ?_
                rintro e w14 ⟨vf, rfl, -, h14⟩
                have hT14 := hTS.out.up h14
                have hol14 := ownsRow_block hol.out (fun i hi => h14.block i (hol.out.lt i hi).2)
                obtain ⟨⟨vo0, cv14⟩, fv14⟩ : (∃ u, w14.cell? ⟨g, k, none⟩ = some (.int .i64 u)) ∧ w14.frozen? ⟨g, k, none⟩ = false := by
                  have h2 := hT14.vo
                  refine ⟨?_, ?_⟩
                  · rw [← hvl] at h2
                    obtain ⟨A', c', e, _, _, hc⟩ := ownsRow_ints h2
                    rw [hvl] at e
                    cases e
                    obtain ⟨b', o', e2, _, hc'⟩ := hc k (by omega)
                    cases e2
                    rw [Nat.zero_add] at hc'
                    exact ⟨_, hc'⟩
                  · obtain ⟨_, ⟨h3, _⟩ | ⟨g', cap', cur, h3, _, h5, _⟩⟩ := h2
                    · cases h3
                    · cases h3; exact frozenm h5 k
                have hT15 := hT14.setV rfl k vx hkn
                have hol15 := ownsRow_block (w' := w14.setCell ⟨g, k, none⟩ (.int .i64 vx)) hol14 (fun i hi => setCell_far (hgne.out i hi))
                have hsz15 : w.heap.size ≤ (w14.setCell ⟨g, k, none⟩ (.int .i64 vx)).heap.size := hT15.below.size
                replace hT15 := Lib.hid hT15
                replace hol15 := Lib.hid hol15
                have hro := hT15.out.ro
                replace hro := Lib.hid hro
                clear hT14 hol14 h14 hfc hTS hol z0 z1 ht0 ht1 ht2
                go_wp2_with (at_builtin; go_loud (with_reducible refine wpList_app1 (by rfl) (.tmp 164) (.tmp 166) 28 (by rfl) intTy w.heap.size u11 st.1.length (ints st.1) (by with_unfolding_all rfl) (hro.out.alloc _) w14.heap.size 1 [.int .i64 k] (by with_unfolding_all rfl) (by with_unfolding_all rfl) ⟨_, _, heap_new (by simp), rfl⟩ (one_int _ _) ?_ ?_ ?_ ?_))
                · unfold maxLen; omega
                · omega
                · first | omega | (simp; omega) | (have := hT15.out.below.size; simp at this ⊢; omega)
                intro g7 cap7 w17 hown7 hgrow7 hat7
                have hT17 := hT15.out.app (k := (k : Int)) hgrow7 (by simpa [ints] using hown7) (fun i hi => by cases hi; exact hat7.imp id (fun e => by simp at e ⊢; omega))
                have hol17 := ownsRow_block (w' := w17) hol15.out (fun i hi => far_grown hgrow7 (hol15.out.lt i hi).2 (hora.out i hi))
                have hora17 : ∀ i, (Value.slice (some ⟨bo, oo, none⟩) order.length cr).ownBlock = some i → (Value.slice (some ⟨g7, 0, none⟩) (st.1.length + 1) cap7).ownBlock ≠ some i := fun i hi e => by
                  have e2 : g7 = i := Option.some.inj (show some g7 = some i from e)
                  rcases hat7 with h1 | h1
                  · exact hora.out i hi (by rw [h1, e2])
                  · have := (hol15.out.lt i hi).2
                    simp at h1 this
                    omega
                replace hT17 := Lib.hid hT17
                replace hol17 := Lib.hid hol17
                replace hora17 := Lib.hid hora17
                clear hown7 hgrow7 hat7 hro hT15 hol15
                go_wp2_with fail
                go_roundw
                case rel => exact ⟨q + 1, (st.1 ++ [(k : Int)], st.2.set k vx), Y2, by omega, by go_num, hT17, hol17, hora17, hst3, hI3, hcs4⟩
                case measure => simp [intOf]; omega
        · have e : q = order.length := by omega
          subst e
          rw [List.take_length] at hst
          have hres : toldP made tks bef inputs told order = st := hst.out
          have r1 : wl.ownsRow w.heap.size 3 1 u11 st.1.length (ints st.1) := hTS.out.ro
          have r2 : wl.ownsRow w.heap.size 3 1 (.slice Ab made.length cb) st.2.length (ints st.2) := by rw [hTS.out.len]; exact hTS.out.vo
          have bwl := hTS.out.below
          obtain ⟨Au, cu, evr, hu1, hu2, hu3⟩ := ownsRow_ints r1
          subst evr
          replace r1 := Lib.hid r1
          replace r2 := Lib.hid r2
          replace hres := Lib.hid hres
          replace bwl := Lib.hid bwl
          clear hst hu3
          go_wp2_with fail
          go_ret3
          rw [hres.out]
          exact ⟨_, _, rfl, r1.out, r2.out, bwl.out⟩
end Go.Proofs.Ytkbblekengdhaaa

set_option linter.unusedVariables false
set_option linter.unusedSimpArgs false
namespace Go.Proofs.Ytkbblekengdhaaa
open Go Go.RowKit

theorem told_none {w w' : World} (h : Below w.heap.size w w') : GivesTold w.heap.size (([], []), false) (.returned (.tuple #[.slice none 0 0, .slice none 0 0, .bool false])) w w' :=
  ⟨_, _, rfl, World.ownsRow_nil _ _ _ _, World.ownsRow_nil _ _ _ _, h⟩
theorem told_made {w w' : World} {v : Value} {n : Nat} (hn : n = w'.heap.size) (h : Below w.heap.size w w') (ho : w'.ownsRow w.heap.size 3 1 v 0 []) : GivesTold w.heap.size (([], []), false) (.returned (.tuple #[v, .slice (some ⟨n, 0, none⟩) 0 0, .bool false])) w (w'.alloc (.cells #[] 3 (0, 0))) := by
  subst hn
  exact ⟨_, _, rfl, ownsRow_block ho (fun i hi => heap_old (ho.lt i hi).2), by simpa [ints] using World.ownsRow_made (base := w.heap.size) (size := 1) (e := 3) w' #[] 0 h.size (by simp [maxLen]) rfl, below_al' h _ h.size⟩

set_option maxRecDepth 5000 in
set_option maxHeartbeats 4000000 in
theorem tells_bad (Am At Ao Ai Al : Option Addr) (cm ct co ci cl : Nat) (made : List Bool) (tasks : List Task) (old inputs : List Int) (B : Nat) (w0 : World) (w : World) (hs : SheetAt B w0 Am cm At ct made tasks) (ho : IntsAt B w0 Ao old) (hlo : old.length ≤ maxLen) (hi : IntsAt B w0 Ai inputs) (hli : inputs.length ≤ maxLen) (hb : Below B w0 w) (hB : B ≤ w.heap.size) (hbad : safeP made tasks = true → takesOk made.length old = true → takesOk made.length inputs = false) :
    Calls Try.prog 45 #[.agg #[.slice Am made.length cm, .slice At tasks.length ct], .slice Al made.length cl, .slice Ao old.length co, .slice Ai inputs.length ci] w fun e w' => GivesTold w.heap.size (([], []), false) e w w' := by
  have hc1 := fun w1 (hw : Below w.heap.size w w1) => sheetSafe_calls Am At cm ct made tasks B w0 w1 (below_up' hb hB hw) (Nat.le_trans hB hw.size) hs
  have hc2 := fun w1 (hw : Below w.heap.size w w1) => takes_calls Am At Ao made.length cm tasks.length ct co old B w0 w1 (below_up' hb hB hw) (Nat.le_trans hB hw.size) hlo ho
  have hc3 := fun w1 (hw : Below w.heap.size w w1) => takes_calls Am At Ai made.length cm tasks.length ct ci inputs B w0 w1 (below_up' hb hB hw) (Nat.le_trans hB hw.size) hli hi
  generalize safeP made tasks = d1 at *
  generalize takesOk made.length old = d2 at *
  generalize takesOk made.length inputs = d3 at *
  clear hs hb
  cases d1 with
  | false =>
    clear hbad
    replace hc1 := Lib.hid hc1
    clear hc2
    clear hc3
    go_enter Try.func45, Try.ntmps45
    go_wp2_with fail
    refine (hc1.out _ (below_al (Below.refl _ _) _)).mono ?_
    rintro e w1 ⟨rfl, h1⟩
    have b1 := below_from h1
    have s1 : w.heap.size < w1.heap.size := by have := h1.size; simp at this; omega
    replace b1 := Lib.hid b1
    clear h1
    go_wp2_with fail
    go_ret3
    exact told_none b1.out
  | true =>
    replace hbad := hbad rfl
    cases d2 with
    | false =>
      clear hbad
      replace hc1 := Lib.hid hc1
      replace hc2 := Lib.hid hc2
      clear hc3
      go_enter Try.func45, Try.ntmps45
      go_wp2_with fail
      refine (hc1.out _ (below_al (Below.refl _ _) _)).mono ?_
      rintro e w1 ⟨rfl, h1⟩
      have b1 := below_from h1
      have s1 : w.heap.size < w1.heap.size := by have := h1.size; simp at this; omega
      have x0_1 : w1.cell? ⟨w.heap.size, 0, none⟩ = some (.slice Am made.length cm) := (h1.cell (p := ⟨w.heap.size, 0, none⟩) (by simp)).trans (by simp)
      have x1_1 : w1.cell? ⟨w.heap.size, 1, none⟩ = some (.slice At tasks.length ct) := (h1.cell (p := ⟨w.heap.size, 1, none⟩) (by simp)).trans (by simp)
      replace b1 := Lib.hid b1
      clear h1
      go_wp2_with fail
      refine (hc2.out _ b1.out).mono ?_
      rintro e w2 ⟨rfl, h2⟩
      have b2 := below_up b1.out h2
      clear x0_1 x1_1
      replace b2 := Lib.hid b2
      clear h2
      go_wp2_with fail
      go_ret3
      exact told_none b2.out
    | true =>
      replace hbad := hbad rfl
      subst hbad
      replace hc1 := Lib.hid hc1
      replace hc2 := Lib.hid hc2
      replace hc3 := Lib.hid hc3
      go_enter Try.func45, Try.ntmps45
      go_wp2_with fail
      refine (hc1.out _ (below_al (Below.refl _ _) _)).mono ?_
      rintro e w1 ⟨rfl, h1⟩
      have b1 := below_from h1
      have s1 : w.heap.size < w1.heap.size := by have := h1.size; simp at this; omega
      have x0_1 : w1.cell? ⟨w.heap.size, 0, none⟩ = some (.slice Am made.length cm) := (h1.cell (p := ⟨w.heap.size, 0, none⟩) (by simp)).trans (by simp)
      have x1_1 : w1.cell? ⟨w.heap.size, 1, none⟩ = some (.slice At tasks.length ct) := (h1.cell (p := ⟨w.heap.size, 1, none⟩) (by simp)).trans (by simp)
      replace b1 := Lib.hid b1
      clear h1
      go_wp2_with fail
      refine (hc2.out _ b1.out).mono ?_
      rintro e w2 ⟨rfl, h2⟩
      have b2 := below_up b1.out h2
      have x0_2 := kept_cell h2 s1 x0_1
      have x1_2 := kept_cell h2 s1 x1_1
      have s2 : w.heap.size < w2.heap.size := by have := h2.size; omega
      clear x0_1 x1_1
      replace b2 := Lib.hid b2
      clear h2
      go_wp2_with fail
      refine (hc3.out _ b2.out).mono ?_
      rintro e w3 ⟨rfl, h3⟩
      have b3 := below_up b2.out h3
      clear x0_2 x1_2
      replace b3 := Lib.hid b3
      clear h3
      go_wp2_with fail
      go_ret3
      exact told_none b3.out

set_option maxRecDepth 5000 in
set_option maxHeartbeats 4000000 in
theorem l12Told_bad (Am At Ao Ai Al : Option Addr) (cm ct co ci cl : Nat) (made : List Bool) (tasks : List Task) (old inputs : List Int) (B : Nat) (w0 : World) (w : World) (hs : SheetAt B w0 Am cm At ct made tasks) (ho : IntsAt B w0 Ao old) (hlo : old.length ≤ maxLen) (hi : IntsAt B w0 Ai inputs) (hli : inputs.length ≤ maxLen) (hb : Below B w0 w) (hB : B ≤ w.heap.size) (hnod : ∀ T ∈ tasks, nodes T ≤ 1000000000) (hbad : safeP made tasks = true → inputsOk made tasks old = true → inputsOk made tasks inputs = false) :
    Calls Try.prog 46 #[.agg #[.slice Am made.length cm, .slice At tasks.length ct], .slice Al made.length cl, .slice Ao old.length co, .slice Ai inputs.length ci] w fun e w' => GivesTold w.heap.size (([], []), false) e w w' := by
  have hc1 := fun w1 (hw : Below w.heap.size w w1) => specSheetSafe_calls Am At cm ct made tasks B w0 w1 (below_up' hb hB hw) (Nat.le_trans hB hw.size) hs hnod
  have hc2 := fun w1 (hw : Below w.heap.size w w1) => l3Inputs_calls Am At Ao cm ct co made tasks old B w0 w1 (below_up' hb hB hw) (Nat.le_trans hB hw.size) hs hnod hlo ho
  have hc3 := fun w1 (hw : Below w.heap.size w w1) => l3Inputs_calls Am At Ai cm ct ci made tasks inputs B w0 w1 (below_up' hb hB hw) (Nat.le_trans hB hw.size) hs hnod hli hi
  generalize safeP made tasks = d1 at *
  generalize inputsOk made tasks old = d2 at *
  generalize inputsOk made tasks inputs = d3 at *
  clear hs hb
  cases d1 with
  | false =>
    clear hbad
    replace hc1 := Lib.hid hc1
    clear hc2
    clear hc3
    go_enter Try.func46, Try.ntmps46
    go_wp2_with fail
    refine (hc1.out _ (below_al (below_al (Below.refl _ _) _) _)).mono ?_
    rintro e w1 ⟨rfl, h1⟩
    have b1 : Below w.heap.size w w1 := (below_al (below_al (Below.refl _ _) _) _).trans (h1.mono (by simp; omega))
    have s1 : w.heap.size < w1.heap.size := by have := h1.size; simp at this; omega
    have ho1 : w1.ownsRow w.heap.size 3 1 (.slice (some ⟨w.heap.size + 1, 0, none⟩) 0 0) 0 [] := ownsRow_block (by simpa using World.ownsRow_made (base := w.heap.size) (w.alloc (.cells #[.slice Am made.length cm, .slice At tasks.length ct] 26 (0, 0))) #[] 0 (by simp) (by simp [maxLen]) rfl) (fun i hi => h1.block i (by simp [Value.ownBlock] at hi; simp; omega))
    replace b1 := Lib.hid b1
    replace ho1 := Lib.hid ho1
    clear h1
    go_wp2_with fail
    go_ret3
    exact told_made rfl b1.out ho1.out
  | true =>
    replace hbad := hbad rfl
    cases d2 with
    | false =>
      clear hbad
      replace hc1 := Lib.hid hc1
      replace hc2 := Lib.hid hc2
      clear hc3
      go_enter Try.func46, Try.ntmps46
      go_wp2_with fail
      refine (hc1.out _ (below_al (below_al (Below.refl _ _) _) _)).mono ?_
      rintro e w1 ⟨rfl, h1⟩
      have b1 : Below w.heap.size w w1 := (below_al (below_al (Below.refl _ _) _) _).trans (h1.mono (by simp; omega))
      have s1 : w.heap.size < w1.heap.size := by have := h1.size; simp at this; omega
      have ho1 : w1.ownsRow w.heap.size 3 1 (.slice (some ⟨w.heap.size + 1, 0, none⟩) 0 0) 0 [] := ownsRow_block (by simpa using World.ownsRow_made (base := w.heap.size) (w.alloc (.cells #[.slice Am made.length cm, .slice At tasks.length ct] 26 (0, 0))) #[] 0 (by simp) (by simp [maxLen]) rfl) (fun i hi => h1.block i (by simp [Value.ownBlock] at hi; simp; omega))
      have x0_1 : w1.cell? ⟨w.heap.size, 0, none⟩ = some (.slice Am made.length cm) := (h1.cell (p := ⟨w.heap.size, 0, none⟩) (by simp; omega)).trans (by simp)
      have x1_1 : w1.cell? ⟨w.heap.size, 1, none⟩ = some (.slice At tasks.length ct) := (h1.cell (p := ⟨w.heap.size, 1, none⟩) (by simp; omega)).trans (by simp)
      replace b1 := Lib.hid b1
      replace ho1 := Lib.hid ho1
      clear h1
      go_wp2_with fail
      refine (hc2.out _ b1.out).mono ?_
      rintro e w2 ⟨rfl, h2⟩
      have b2 := below_up b1.out h2
      have ho2 := ownsRow_block ho1.out (fun i hi => h2.block i (ho1.out.lt i hi).2)
      clear x0_1 x1_1
      replace b2 := Lib.hid b2
      replace ho2 := Lib.hid ho2
      clear h2
      go_wp2_with fail
      go_ret3
      exact told_made rfl b2.out ho2.out
    | true =>
      replace hbad := hbad rfl
      subst hbad
      replace hc1 := Lib.hid hc1
      replace hc2 := Lib.hid hc2
      replace hc3 := Lib.hid hc3
      go_enter Try.func46, Try.ntmps46
      go_wp2_with fail
      refine (hc1.out _ (below_al (below_al (Below.refl _ _) _) _)).mono ?_
      rintro e w1 ⟨rfl, h1⟩
      have b1 : Below w.heap.size w w1 := (below_al (below_al (Below.refl _ _) _) _).trans (h1.mono (by simp; omega))
      have s1 : w.heap.size < w1.heap.size := by have := h1.size; simp at this; omega
      have ho1 : w1.ownsRow w.heap.size 3 1 (.slice (some ⟨w.heap.size + 1, 0, none⟩) 0 0) 0 [] := ownsRow_block (by simpa using World.ownsRow_made (base := w.heap.size) (w.alloc (.cells #[.slice Am made.length cm, .slice At tasks.length ct] 26 (0, 0))) #[] 0 (by simp) (by simp [maxLen]) rfl) (fun i hi => h1.block i (by simp [Value.ownBlock] at hi; simp; omega))
      have x0_1 : w1.cell? ⟨w.heap.size, 0, none⟩ = some (.slice Am made.length cm) := (h1.cell (p := ⟨w.heap.size, 0, none⟩) (by simp; omega)).trans (by simp)
      have x1_1 : w1.cell? ⟨w.heap.size, 1, none⟩ = some (.slice At tasks.length ct) := (h1.cell (p := ⟨w.heap.size, 1, none⟩) (by simp; omega)).trans (by simp)
      replace b1 := Lib.hid b1
      replace ho1 := Lib.hid ho1
      clear h1
      go_wp2_with fail
      refine (hc2.out _ b1.out).mono ?_
      rintro e w2 ⟨rfl, h2⟩
      have b2 := below_up b1.out h2
      have x0_2 := kept_cell h2 s1 x0_1
      have x1_2 := kept_cell h2 s1 x1_1
      have s2 : w.heap.size < w2.heap.size := by have := h2.size; omega
      have ho2 := ownsRow_block ho1.out (fun i hi => h2.block i (ho1.out.lt i hi).2)
      clear x0_1 x1_1
      replace b2 := Lib.hid b2
      replace ho2 := Lib.hid ho2
      clear h2
      go_wp2_with fail
      refine (hc3.out _ b2.out).mono ?_
      rintro e w3 ⟨rfl, h3⟩
      have b3 := below_up b2.out h3
      have ho3 := ownsRow_block ho2.out (fun i hi => h3.block i (ho2.out.lt i hi).2)
      clear x0_2 x1_2
      replace b3 := Lib.hid b3
      replace ho3 := Lib.hid ho3
      clear h3
      go_wp2_with fail
      go_ret3
      exact told_made rfl b3.out ho3.out

set_option maxRecDepth 5000 in
set_option maxHeartbeats 4000000 in
theorem tells_len (Am At Ao Ai Al : Option Addr) (cm ct co ci cl nl no ni : Nat) (made : List Bool) (tasks : List Task) (B : Nat) (w0 : World) (w : World) (hs : SheetAt B w0 Am cm At ct made tasks) (hb : Below B w0 w) (hB : B ≤ w.heap.size) (hne : nl ≠ made.length) :
    Calls Try.prog 45 #[.agg #[.slice Am made.length cm, .slice At tasks.length ct], .slice Al nl cl, .slice Ao no co, .slice Ai ni ci] w fun e w' => GivesTold w.heap.size (([], []), false) e w w' := by
  have hc1 := sheetSafe_calls Am At cm ct made tasks B w0 _ (below_al' hb (.cells #[.slice Am made.length cm, .slice At tasks.length ct] 26 (0, 0)) hB) (by simp; omega) hs
  have hd : ((nl : Int) != (made.length : Int)) = true := by simp; omega
  generalize safeP made tasks = d1 at *
  clear hs hb
  cases d1 with
  | false =>
    replace hc1 := Lib.hid hc1
    go_enter Try.func45, Try.ntmps45
    go_wp2_with fail
    refine hc1.out.mono ?_
    rintro e w1 ⟨rfl, h1⟩
    have b1 := below_from h1
    replace b1 := Lib.hid b1
    clear h1
    go_wp2_with fail
    go_ret3
    exact told_none b1.out
  | true =>
    replace hc1 := Lib.hid hc1
    go_enter Try.func45, Try.ntmps45
    go_wp2_with fail
    refine hc1.out.mono ?_
    rintro e w1 ⟨rfl, h1⟩
    have x0 : w1.cell? ⟨w.heap.size, 0, none⟩ = some (.slice Am made.length cm) := (h1.cell (p := ⟨w.heap.size, 0, none⟩) (by simp)).trans (by simp)
    have b1 := below_from h1
    replace b1 := Lib.hid b1
    clear h1
    go_wp2_with fail
    go_ret3
    exact told_none b1.out

set_option maxRecDepth 5000 in
set_option maxHeartbeats 4000000 in
theorem l12Told_len (Am At Ao Ai Al : Option Addr) (cm ct co ci cl nl no ni nm nt : Nat) (w : World) (hne : nl ≠ nm) :
    Calls Try.prog 46 #[.agg #[.slice Am nm cm, .slice At nt ct], .slice Al nl cl, .slice Ao no co, .slice Ai ni ci] w fun e w' => GivesTold w.heap.size (([], []), false) e w w' := by
  have hd : ((nl : Int) != (nm : Int)) = true := by simp; omega
  have ho : ((w.alloc (.cells #[.slice Am nm cm, .slice At nt ct] 26 (0, 0))).alloc (.cells #[] 3 (0, 0))).ownsRow w.heap.size 3 1 (.slice (some ⟨w.heap.size + 1, 0, none⟩) 0 0) 0 [] := by
    simpa using World.ownsRow_made (base := w.heap.size) (size := 1) (e := 3) (w.alloc (.cells #[.slice Am nm cm, .slice At nt ct] 26 (0, 0))) #[] 0 (by simp) (by simp [maxLen]) rfl
  replace ho := Lib.hid ho
  go_enter Try.func46, Try.ntmps46
  go_wp2_with fail
  go_ret3
  exact told_made (by simp) (below_al (below_al (Below.refl _ _) _) _) ho.out

end Go.Proofs.Ytkbblekengdhaaa
