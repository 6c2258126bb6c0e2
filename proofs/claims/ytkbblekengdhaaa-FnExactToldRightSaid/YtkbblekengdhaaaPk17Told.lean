import Derived.Test.YtkbblekengdhaaaPk5Told
import Derived.Test.YtkbblekengdhaaaPk6Told
import Derived.Test.YtkbblekengdhaaaPk12Told
import Derived.Test.YtkbblekengdhaaaPk14Told
import Derived.Test.YtkbblekengdhaaaPk16Told
set_option linter.unusedVariables false
set_option linter.unusedSimpArgs false
namespace Go.Proofs.Ytkbblekengdhaaa
open Go Go.RowKit

/-- the values while those of inputs are taken over -/
def nowAt (made : List Bool) (bef inputs : List Int) (j : Nat) : List Int := (List.range made.length).map fun q : Nat => if q < j ∧ mkK made q = false then atK inputs q else atK bef q
theorem nowAt_len (made : List Bool) (bef inputs : List Int) (j : Nat) : (nowAt made bef inputs j).length = made.length := by simp [nowAt]
theorem nowAt_zero {made : List Bool} {bef : List Int} (inputs : List Int) (h : bef.length = made.length) : nowAt made bef inputs 0 = bef := by
  apply List.ext_getElem
  · rw [nowAt_len, h]
  · intro i h1 h2
    simp only [nowAt, List.getElem_map, List.getElem_range, Nat.not_lt_zero, false_and, if_false]
    exact atK_in h2
theorem nowAt_end (made : List Bool) (bef inputs : List Int) : nowAt made bef inputs made.length = toldStart made bef inputs := by
  apply List.ext_getElem
  · rw [nowAt_len]; simp [toldStart]
  · intro i h1 h2
    have hi : i < made.length := by rw [nowAt_len] at h1; exact h1
    simp only [nowAt, toldStart, List.getElem_map, List.getElem_range, hi, true_and]
    cases mkK made (i : Int) <;> simp
theorem nowAt_made {made : List Bool} {bef inputs : List Int} {j : Nat} (h : mkK made j = true) : nowAt made bef inputs (j + 1) = nowAt made bef inputs j := by
  apply List.map_congr_left
  intro q _
  by_cases e : q = j
  · subst e; simp [h]
  · have : (q < j + 1) = (q < j) := propext (by omega)
    simp only [this]
theorem nowAt_unmade {made : List Bool} {bef inputs : List Int} {j : Nat} (hj : j < made.length) (h : mkK made j = false) : nowAt made bef inputs (j + 1) = (nowAt made bef inputs j).set j (atK inputs j) := by
  apply List.ext_getElem
  · simp [nowAt]
  · intro i h1 h2
    rw [List.getElem_set]
    simp only [nowAt, List.getElem_map, List.getElem_range]
    by_cases e : j = i
    · subst e; simp [h]
    · have : (i < j + 1) = (i < j) := propext (by omega)
      simp only [this, if_neg e]
theorem at_row {made : List Bool} {j : Nat} (hj : j < made.length) : mkK made j = made[j] := by
  unfold mkK
  rw [if_neg (by omega), Int.toNat_natCast, getD_at _ hj]
/-- two rows, and a truth -/
def GivesTold (B : Nat) (R : (List Int × List Int) × Bool) (e : Ending) (w w' : World) : Prop :=
  ∃ vr vn, e = .returned (.tuple #[vr, vn, .bool R.2]) ∧ w'.ownsRow B 3 1 vr R.1.1.length (ints R.1.1) ∧ w'.ownsRow B 3 1 vn R.1.2.length (ints R.1.2) ∧ Below w.heap.size w w'

set_option maxRecDepth 5000 in
set_option maxHeartbeats 8000000 in
theorem tells_good (Am At Ao Ai Al : Option Addr) (cm ct co ci cl : Nat) (made : List Bool) (tks : List Tk) (old inputs bef order : List Int) (told : List (List Int)) (B : Nat) (w0 w : World) (hb : Below B w0 w) (hB : B ≤ w.heap.size)
    (hs : SheetAt B w0 Am cm At ct made (tks.map Tk.enc)) (hS0 : Sh.Ok ⟨made, tks, old⟩) (hS1 : Sh.Ok ⟨made, tks, inputs⟩) (hsafe : safeP made (tks.map Tk.enc) = true) (hio : IntsAt B w0 Ao old) (hlo : old.length ≤ co) (hmo : co ≤ maxLen)
    (hii : IntsAt B w0 Ai inputs) (hli : inputs.length ≤ ci) (hmi : ci ≤ maxLen) (hrows : RowsAt B w0 Al told) (htl : told.length = made.length) (hbef : buildAllP ⟨made, tks, old⟩ = (bef, true))
    (hom : ∀ x ∈ order, mkK made x = true) (hon : order.Nodup) (hrl : ∀ x ∈ told, x.length ≤ maxLen)
    (hT : ∀ (w1 : World) (Ak : Option Addr) (ck : Nat), Below w.heap.size w w1 → IntsAt w1.heap.size w1 Ak (keysN made.length) → Calls Try.prog 77 #[.agg #[.slice Am made.length cm, .slice At tks.length ct], .slice Ak made.length ck] w1 (fun e w2 => GivesRow (order, true) e w1 w2)) :
    Calls Try.prog 45 #[.agg #[.slice Am made.length cm, .slice At tks.length ct], .slice Al told.length cl, .slice Ao old.length co, .slice Ai inputs.length ci] w fun e w' =>
      GivesTold w.heap.size (toldP made tks bef inputs told order, true) e w w' := by
  have hten := hS0.ten
  simp only at hten
  have hok2 : takesOk made.length old = true := hS0.takes
  have hok3 : takesOk made.length inputs = true := hS1.takes
  have hc1 := fun w1 (hw : Below w.heap.size w w1) => sheetSafe_calls Am At cm ct made (tks.map Tk.enc) B w0 w1 (below_up' hb hB hw) (Nat.le_trans hB hw.size) hs
  rw [hsafe] at hc1
  simp only [List.length_map] at hc1
  have hc2 := fun w1 (hw : Below w.heap.size w w1) => takes_calls Am At Ao made.length cm tks.length ct co old B w0 w1 (below_up' hb hB hw) (Nat.le_trans hB hw.size) (Nat.le_trans hlo hmo) hio
  rw [hok2] at hc2
  have hc3 := fun w1 (hw : Below w.heap.size w w1) => takes_calls Am At Ai made.length cm tks.length ct ci inputs B w0 w1 (below_up' hb hB hw) (Nat.le_trans hB hw.size) (Nat.le_trans hli hmi) hii
  rw [hok3] at hc3
  have hc4 := fun w1 (hw : Below w.heap.size w w1) => buildAll_good ⟨Am, cm, At, ct, Ao, co, B, w0⟩ ⟨made, tks, old⟩ ⟨hs, hio, hlo, hmo, hS0⟩ w1 (below_up' hb hB hw) (Nat.le_trans hB hw.size)
  rw [hbef] at hc4
  obtain ⟨hbl, hbv, -, -⟩ := all_law hS0 hbef
  dsimp only at hbl
  have hol := hS0.ins
  have hil := hS1.ins
  simp only at hol hil
  have ho10 : order.length ≤ 10 := by
    have := nodup_bound (n := made.length) hon (fun x hx => mkK_range (by rw [hom x hx]; simp))
    omega
  rw [htl]
  replace hc1 := Lib.hid hc1
  replace hc2 := Lib.hid hc2
  replace hc3 := Lib.hid hc3
  replace hc4 := Lib.hid hc4
  replace hT := Lib.hid hT
  replace hb := Lib.hid hb
  replace hom := Lib.hid hom
  replace hon := Lib.hid hon
  replace hrl := Lib.hid hrl
  replace hS0 := Lib.hid hS0
  replace hS1 := Lib.hid hS1
  replace hs := Lib.hid hs
  replace hrows := Lib.hid hrows
  replace htl := Lib.hid htl
  replace hbl := Lib.hid hbl
  replace hbv := Lib.hid hbv
  replace hol := Lib.hid hol
  replace hil := Lib.hid hil
  replace hii := Lib.hid hii
  replace hbef := Lib.hid hbef
  clear hok2 hok3 hsafe hio
  go_enter Try.func45, Try.ntmps45
  go_wp2_with fail
  refine (hc1.out _ (below_al (Below.refl _ _) _)).mono ?_
  rintro e w1 ⟨rfl, h1⟩
  have x0 : w1.cell? ⟨w.heap.size, 0, none⟩ = some (.slice Am made.length cm) := (h1.cell (p := ⟨w.heap.size, 0, none⟩) (by simp)).trans (by simp)
  have x1 : w1.cell? ⟨w.heap.size, 1, none⟩ = some (.slice At tks.length ct) := (h1.cell (p := ⟨w.heap.size, 1, none⟩) (by simp)).trans (by simp)
  have b1 := below_from h1
  have s1 : w.heap.size < w1.heap.size := by have := h1.size; simp at this; omega
  replace b1 := Lib.hid b1
  clear h1 hc1
  go_wp2_with fail
  refine (hc2.out _ b1.out).mono ?_
  rintro e w2 ⟨rfl, h2⟩
  have y0 := kept_cell h2 s1 x0
  have y1 := kept_cell h2 s1 x1
  have b2 := below_up b1.out h2
  have s2 : w.heap.size < w2.heap.size := by have := h2.size; omega
  replace b2 := Lib.hid b2
  clear h2 hc2 x0 x1 b1
  go_wp2_with fail
  refine (hc3.out _ b2.out).mono ?_
  rintro e w3 ⟨rfl, h3⟩
  have x0 := kept_cell h3 s2 y0
  have x1 := kept_cell h3 s2 y1
  have b3 := below_up b2.out h3
  have s3 : w.heap.size < w3.heap.size := by have := h3.size; omega
  replace b3 := Lib.hid b3
  clear h3 hc3 y0 y1 b2 s2 s1
  go_wp2_with fail
  refine (hc4.out _ b3.out).mono ?_
  rintro e w4 ⟨vb, rfl, hown4, h4⟩
  dsimp only at hown4 ⊢
  obtain ⟨Ab, cb, rfl, hlb, hmb, hib⟩ := ownsRow_ints hown4
  have y0 := kept_cell h4 s3 x0
  have y1 := kept_cell h4 s3 x1
  have b4 := below_up b3.out h4
  have s4 : w.heap.size < w4.heap.size := by have := h4.size; omega
  replace b4 := Lib.hid b4
  replace hib := Lib.hid hib
  rw [hbl.out]
  clear h4 hc4 x0 x1 b3 hown4
  go_wp2_with fail
  have hal5 := below_al (Below.refl _ w4) (.cells #[.slice Ab made.length cb] 28 (0, 0))
  have b5 := below_up b4.out hal5
  have hib5 := hib.out.up hal5 hal5.size
  have hcl := clone_calls Ab cb bef (w4.alloc (.cells #[.slice Ab made.length cb] 28 (0, 0))).heap.size _ _ (Below.refl _ _) (Nat.le_refl _) (by rw [hbl.out]; omega) hib5
  rw [hbl.out] at hcl
  have z0 := kept_cell hal5 s4 y0
  have z1 := kept_cell hal5 s4 y1
  have zb : (w4.alloc (.cells #[.slice Ab made.length cb] 28 (0, 0))).cell? ⟨w4.heap.size, 0, none⟩ = some (.slice Ab made.length cb) := (cellm (heap_new rfl) 0).trans rfl
  have s5 : w4.heap.size < (w4.alloc (.cells #[.slice Ab made.length cb] 28 (0, 0))).heap.size := by simp
  generalize hw5 : w4.alloc (.cells #[.slice Ab made.length cb] 28 (0, 0)) = w5 at *
  replace hcl := Lib.hid hcl
  replace b5 := Lib.hid b5
  replace hib5 := Lib.hid hib5
  have s05 : w.heap.size < w5.heap.size := by omega
  clear hal5 hib b4 y0 y1 hw5 s3
  refine hcl.out.mono ?_
  rintro e w6 ⟨vn0, rfl, hown6, h6⟩
  have hown6' := hown6
  rw [← hbl.out] at hown6'
  obtain ⟨An, cn, evn, hln1, hln2, -⟩ := ownsRow_ints hown6'
  subst evn
  rw [hbl.out] at hown6 hln1
  rw [hbl.out]
  clear hown6'
  obtain ⟨vn, hvn⟩ : ∃ vn, vn = Value.slice An made.length cn := ⟨_, rfl⟩
  rw [← hvn] at hown6
  have hrv := (show RowVar w5.heap.size w6.heap.size vn bef (w6.alloc (.cells #[vn] 28 (0, 0))) from ⟨heap_new rfl, by rw [hbl.out]; exact ownsRow_block hown6 (fun i hi => heap_old (hown6.lt i hi).2), h6.size⟩)
  have b6 := below_al h6 (.cells #[vn] 28 (0, 0))
  have z7 := kept_cell b6 s05 z0
  subst hvn
  replace hrv := Lib.hid hrv
  replace b6 := Lib.hid b6
  clear hown6 h6 hcl
  go_wp2_with fail
  generalize hw7 : w6.alloc (.cells #[.slice An made.length cn] 28 (0, 0)) = w7 at *
  generalize hb13 : w6.heap.size = b13 at *
  replace hw7 := Lib.hid hw7
  go_loopw [14, 15, 55] (fun _ _ i wr => ∃ (j : Nat), j ≤ made.length ∧ i = .int .i64 j ∧ Hid (RowVar w5.heap.size b13 (.slice An made.length cn) (nowAt made bef inputs j) wr) ∧ Hid (Below w5.heap.size w5 wr)) (fun _ _ i _ => made.length - (intOf i).toNat)
  case atStart => exact ⟨0, Nat.zero_le _, rfl, Lib.hid (by rw [nowAt_zero inputs hbl.out]; exact hrv.out), b6⟩
  case round =>
    obtain ⟨j, hj, rfl, hV, hw⟩ := hrel
    obtain ⟨w9, hw9⟩ : ∃ w9, w9 = wr := ⟨_, rfl⟩
    subst hw9
    have bw := b5.out.trans (hw.out.mono (Nat.le_of_lt s05))
    by_cases hlt : j < made.length
    · obtain ⟨bm, om, rfl, hbm, cm9⟩ := hs.out.made.at (below_up' hb.out hB bw) (Nat.le_trans hB bw.size) j hlt
      have hk := at_row hlt
      cases hm : made[j] with
      | true =>
        rw [hm] at cm9 hk
        have hV2 := hV.out
        rw [← nowAt_made hk] at hV2
        replace hV2 := Lib.hid hV2
        replace hk := Lib.hid hk
        replace bw := Lib.hid bw
        clear hm
        go_wp2_with fail
        go_roundw
        case rel => exact ⟨j + 1, by omega, by go_num, hV2, hw⟩
        case measure => simp [intOf]; omega
      | false =>
        rw [hm] at cm9 hk
        have hln := nowAt_len made bef inputs j
        have hownj := hV.out.own
        rw [hln] at hownj
        obtain ⟨g, cap, eg, hBg, hgl⟩ := hownj.form (by omega)
        cases eg
        obtain ⟨bi, oi, rfl, hbi, ci9⟩ := hii.out.at (below_up' hb.out hB bw) (Nat.le_trans hB bw.size) j (by rw [hil.out]; exact hlt)
        have hin : inputs[j]'(by rw [hil.out]; exact hlt) = atK inputs j := (atK_in _).symm
        rw [hin] at ci9
        have hji : j < inputs.length := by rw [hil.out]; exact hlt
        have xv : w9.cell? ⟨b13, 0, none⟩ = some (.slice (some ⟨g, 0, none⟩) made.length cn) := (cellm hV.out.blk 0).trans rfl
        have hownd : w9.drew.ownsRow w5.heap.size 3 1 (.slice (some ⟨g, 0, none⟩) made.length cn) made.length (ints (nowAt made bef inputs j)) := hownj
        have hset := ownsRow_set hownd j (.int .i64 (atK inputs j)) hlt
        rw [ints_set, ← nowAt_unmade hlt hk] at hset
        have hne : b13 ≠ g := fun e => hV.out.ne (by rw [e]; rfl)
        have hV2 : RowVar w5.heap.size b13 (.slice (some ⟨g, 0, none⟩) made.length cn) (nowAt made bef inputs (j + 1)) (w9.drew.setCell ⟨g, j, none⟩ (.int .i64 (atK inputs j))) := ⟨(setCell_far hne).trans hV.out.blk, by rw [nowAt_len]; exact hset, hV.out.le⟩
        have hw2 := hw.out.drew.trans ((setCell_turn (F := fun i => i = g) (w := w9.drew) (a := ⟨g, j, none⟩) rfl (.int .i64 (atK inputs j))).below hw.out.size (fun i e => by rw [e]; exact hBg))
        have cg : w9.cell? ⟨g, j, none⟩ = some (.int .i64 ((nowAt made bef inputs j)[j]'(by rw [hln]; exact hlt))) := by
          obtain ⟨A', c', e, _, _, hc⟩ := ownsRow_cells hownj
          cases e
          obtain ⟨b', e2, _, hc'⟩ := hc j (by simpa [ints, hln] using hlt)
          cases e2
          rw [hc']; simp [ints]
        have fg : w9.frozen? ⟨g, j, none⟩ = false := by
          obtain ⟨_, ⟨h2, _⟩ | ⟨g', cap', cur, h2, h3, h4, _⟩⟩ := hownj
          · cases h2
          · cases h2; exact frozenm h4 j
        generalize (nowAt made bef inputs j)[j]'(by rw [hln]; exact hlt) = vj at cg
        replace hV2 := Lib.hid hV2
        replace hw2 := Lib.hid hw2
        replace hk := Lib.hid hk
        replace bw := Lib.hid bw
        replace hin := Lib.hid hin
        replace hset := Lib.hid hset
        replace hownj := Lib.hid hownj
        replace hownd := Lib.hid hownd
        replace hln := Lib.hid hln
        clear hm
        go_wp2_with fail
        go_region
        all_goals
          go_wp2_with fail
          go_roundw
          case rel => exact ⟨j + 1, by omega, by go_num, hV2, hw2⟩
          case measure => simp [intOf]; omega
    · have e : j = made.length := by omega
      subst e
      rw [nowAt_end] at hV
      have z8 := kept_cell hw.out s05 z0
      have z9 := kept_cell hw.out s05 z1
      have zv := kept_cell hw.out s5 zb
      have s9 : w.heap.size < w9.heap.size := by have := hw.out.size; omega
      have s49 : w4.heap.size < w9.heap.size := by have := hw.out.size; omega
      have hkc := fun w2 : World => keys_calls Am At made.length cm tks.length ct w2 (by omega)
      have hib9 := hib5.out.up hw.out hw.out.size
      have hnb : ∀ i, (Value.slice An made.length cn).ownBlock = some i → i < w9.heap.size := fun i hi => (hV.out.own.lt i hi).2
      have hl13 := block_lt hV.out.blk
      replace bw := Lib.hid bw
      replace hkc := Lib.hid hkc
      replace hib9 := Lib.hid hib9
      replace hnb := Lib.hid hnb
      clear hrv b6 z7 hw7 hlt
      go_wp2_with fail
      go_region_held3 (fun w' => w'.cell? ⟨w.heap.size, 0, none⟩ = some (.slice Am made.length cm) ∧ w'.cell? ⟨w.heap.size, 1, none⟩ = some (.slice At tks.length ct)) (first | exact ⟨l0, l1⟩ | exact ⟨j0, j1⟩ | exact ⟨z8, z9⟩)
        (first
          | (go_at_call 77; refine (hT.out _ Ak ck j3.out hik).mono ?_; rintro e w11 ⟨vo, rfl, hown11, h11⟩; dsimp only at hown11 ⊢; obtain ⟨Ar, cr, evo, hrl1, hrl2, -⟩ := ownsRow_ints hown11; subst evo; have l0 := kept_cell h11 j2 j0; have l1 := kept_cell h11 j2 j1)
          | (go_at_call 78; refine (hkc.out _).mono ?_; rintro e w10 ⟨vk, rfl, hk10, h10⟩; obtain ⟨Ak, ck, evk, -, -, hik⟩ := ownsRow_ints hk10; subst evk; rw [keysN_length] at hk10 ⊢; have j0 := kept_cell h10 s9 z8; have j1 := kept_cell h10 s9 z9; have j2 : w.heap.size < w10.heap.size := (by { have := h10.size; simp at this; omega }); have j3 : Hid (Below w.heap.size w w10) := Lib.hid (bw.out.drew.trans (h10.mono (by simp; omega)))))
      have h911 : Below w9.heap.size w9 w11 := (Below.refl _ _).drew.trans (h10.trans (h11.mono h10.size))
      have hV11 := hV.out.up h911
      have z11 := kept_cell h911 s49 zv
      have hol11 := own_low2 hown11 h10.size
      have hob : ∀ i, (Value.slice Ar order.length cr).ownBlock = some i → w9.heap.size ≤ i ∧ i < w11.heap.size := fun i hi => hol11.lt i hi
      have hb11 : Below w5.heap.size w5 w11 := hw.out.trans (h911.mono hw.out.size)
      have h9s := h911.size
      have hib11 := hib9.out.up h911 h911.size
      clear j0 j1 j2 j3 hk10 hik h10 h11 hown11 h911 z8 z9 hkc hT zv
      have hal12 := below_al (Below.refl _ w11) (.cells #[.slice none 0 0] 28 (0, 0))
      have hV12 := hV11.up hal12
      have hR12 : RowVar w11.heap.size w11.heap.size (.slice none 0 0) [] (w11.alloc (.cells #[.slice none 0 0] 28 (0, 0))) := ⟨heap_new rfl, World.ownsRow_nil _ _ _ _, Nat.le_refl _⟩
      have hol12 := ownsRow_block (w' := w11.alloc (.cells #[.slice none 0 0] 28 (0, 0))) hol11 (fun i hi => heap_old (hob i hi).2)
      have hb12 := below_al' hb11 (.cells #[.slice none 0 0] 28 (0, 0)) hb11.size
      have hst0 : TInv made bef inputs [] ([], toldStart made bef inputs) := TInv.start (fun k => by
        unfold atK
        split
        · omega
        · by_cases h1 : k.toNat < bef.length
          · rw [getD_at _ h1]; exact hbv.out _ (List.getElem_mem _)
          · rw [getD_out _ (by omega)]; omega) (fun k => atK_value hS1.out k)
      have htk : ∀ q : Nat, q < made.length → (tkAt made tks q).ok := fun q hq => tk_ok hS1.out q
      have htok : ∀ q (h : q < tks.length), okT tks[q].enc = true := fun q h => hS1.out.okT h
      have htl2 : made.length = tks.length := hS1.out.len
      replace hV12 := Lib.hid hV12
      replace hR12 := Lib.hid hR12
      replace hol12 := Lib.hid hol12
      replace hb12 := Lib.hid hb12
      replace hst0 := Lib.hid hst0
      replace htk := Lib.hid htk
      replace htok := Lib.hid htok
      replace hob := Lib.hid hob
      replace htl2 := Lib.hid htl2
      replace hib11 := Lib.hid hib11
      clear hV11 hol11 hb11 hal12 hib9 hV
      go_wp2_with fail
      generalize hw12 : w11.alloc (.cells #[.slice none 0 0] 28 (0, 0)) = w12 at *
      replace hw12 := Lib.hid hw12
      go_loopw [20, 79] (fun _ i wr => ∃ (q : Nat) (st : List Int × List Int) (vr : Value), q ≤ order.length ∧ i = .int .i64 q ∧ Hid (RowVar w11.heap.size w11.heap.size vr st.1 wr) ∧ Hid (RowVar w5.heap.size b13 (.slice An made.length cn) st.2 wr) ∧ Hid (wr.ownsRow w9.heap.size 3 1 (.slice Ar order.length cr) order.length (ints order)) ∧
        Hid (Below w5.heap.size w5 wr) ∧ Hid ((order.take q).foldl (toldStep made tks bef told) ([], toldStart made bef inputs) = st) ∧ Hid (TInv made bef inputs (order.take q) st)) (fun _ i _ => order.length - (intOf i).toNat)
      case atStart => exact ⟨0, _, .slice none 0 0, Nat.zero_le _, rfl, hR12, hV12, hol12, hb12, Lib.hid rfl, Lib.hid (by rw [List.take_zero]; exact hst0.out)⟩
      case round =>
        obtain ⟨q, st, vr, hq, rfl, hR, hV, hol, hw2, hst, hI⟩ := hrel
        obtain ⟨wl, hwl⟩ : ∃ wl, wl = wr := ⟨_, rfl⟩
        subst hwl
        have hsz := hw2.out.size
        have bw2 : Below w.heap.size w wl := b5.out.trans (hw2.out.mono (Nat.le_of_lt s05))
        by_cases hql : q < order.length
        · obtain ⟨Ar', cr', eo, -, -, hio⟩ := ownsRow_ints hol.out
          cases eo
          obtain ⟨bo, oo, rfl, hbo, co0⟩ := hio q hql
          have hkm := hom.out order[q] (List.getElem_mem _)
          have hkr := mkK_range (show mkK made order[q] ≠ false by rw [hkm]; simp)
          obtain ⟨k, hk⟩ := Int.eq_ofNat_of_zero_le hkr.1
          have hkn : k < made.length := by omega
          have hnd : order[q] ∉ order.take q := by
            intro h
            have hn := hon.out
            rw [← List.take_append_drop q order, List.nodup_append] at hn
            refine hn.2.2 _ h order[q] ?_ rfl
            rw [List.drop_eq_getElem_cons hql]; exact List.mem_cons_self ..
          have hI2 := hI.out.step (told := told) hkm hnd htk.out
          have htake : order.take q ++ [order[q]] = order.take (q + 1) := (List.take_succ_eq_append_getElem hql).symm
          have hst2 : (order.take (q + 1)).foldl (toldStep made tks bef told) ([], toldStart made bef inputs) = toldStep made tks bef told st order[q] := by
            rw [← htake, List.foldl_append, hst.out]; rfl
          rw [htake] at hI2
          rw [hk] at co0 hI2 hst2 hkm
          have hkt : k < told.length := by rw [htl.out]; exact hkn
          obtain ⟨bl, ol, Al', cl', rfl, hbl0, cl0, hil0⟩ := hrows.out.at (below_up' hb.out hB bw2) (Nat.le_trans hB bw2.size) k hkt
          have hta : toldAt told k = told[k] := by unfold toldAt; rw [Int.toNat_natCast]; exact getD_at _ hkt
          have hlk := hrl.out told[k] (List.getElem_mem _)
          have hrun : st.1.length ≤ 10 := by
            have := nodup_bound (n := made.length) hI.out.nodup (fun x hx => mkK_range (by rw [hI.out.madeOf x (hI.out.sub x hx)]; simp))
            omega
          have hvl := hI.out.len
          have c0 : wl.cell? ⟨w.heap.size, 0, none⟩ = some (.slice Am made.length cm) := (hw2.out.cell (p := ⟨w.heap.size, 0, none⟩) s05).trans z0
          have c1 : wl.cell? ⟨w.heap.size, 1, none⟩ = some (.slice At tks.length ct) := (hw2.out.cell (p := ⟨w.heap.size, 1, none⟩) s05).trans z1
          have c11 : wl.cell? ⟨w4.heap.size, 0, none⟩ = some (.slice Ab made.length cb) := (hw2.out.cell (p := ⟨w4.heap.size, 0, none⟩) s5).trans zb
          have c13 : wl.cell? ⟨b13, 0, none⟩ = some (.slice An made.length cn) := (cellm hV.out.blk 0).trans rfl
          obtain ⟨Au, cu, evr, hu1, hu2, hu3⟩ := ownsRow_ints hR.out.own
          have c18 : wl.cell? ⟨w11.heap.size, 0, none⟩ = some (.slice Au st.1.length cu) := by rw [← evr]; exact (cellm hR.out.blk 0).trans rfl
          have hnowI : IntsAt wl.heap.size wl An st.2 := by
            have := hV.out.own
            rw [← hvl] at this
            exact ownsRow_ints_of this
          have hbefI : IntsAt wl.heap.size wl Ab bef := hib5.out.up hw2.out hsz
          have l13 := block_lt hV.out.blk
          have l18 := block_lt hR.out.blk
          have hcf := containsFunc_calls (chg made.length bef st) 80 #[] #[.pointer (some ⟨w.heap.size, 0, none⟩), .pointer (some ⟨w11.heap.size, 0, none⟩), .pointer (some ⟨b13, 0, none⟩), .pointer (some ⟨w4.heap.size, 0, none⟩)]
            (enters_of Try.func80 (by kernel_rfl) rfl) Al' cl' told[k] wl.heap.size wl wl (Below.refl _ _) (Nat.le_refl _) hlk hil0 (fun x w' hx hw' => by
              have := tells1_calls w.heap.size w11.heap.size b13 w4.heap.size Am At Au An Ab cm tks.length ct cu cn cb made.length st.1 st.2 bef x w' (kept_cell hw' (by omega) c0) (kept_cell hw' (by omega) c1) (kept_cell hw' l18 c18) (by rw [hvl]; exact kept_cell hw' l13 c13) (by rw [hbl.out]; exact kept_cell hw' (by omega) c11)
                (by have := hw'.size; omega) (by have := hw'.size; omega) (by have := hw'.size; omega) (by have := hw'.size; omega) (hu3.up hw' hw'.size) (hnowI.up hw' hw'.size) (hbefI.up hw' hw'.size) hvl hbl.out hten hrun
              simpa using this)
          obtain ⟨res, hres⟩ : ∃ res, told[k].any (chg made.length bef st) = res := ⟨_, rfl⟩
          rw [hres] at hcf
          have hres2 : (toldAt told k).any (chg made.length bef st) = res := by rw [hta]; exact hres
          unfold toldStep at hst2 hI2
          rw [hres2] at hst2 hI2
          replace hcf := Lib.hid hcf
          replace hnowI := Lib.hid hnowI
          replace bw2 := Lib.hid bw2
          replace hst2 := Lib.hid hst2
          replace hI2 := Lib.hid hI2
          replace hvl := Lib.hid hvl
          replace hkm := Lib.hid hkm
          clear hu3 hbefI hil0 hres hres2 hta hlk hio hnd htake hkr
          go_wp2_with fail
          refine hcf.out.mono ?_
          rintro e w13 ⟨rfl, h13⟩
          have hR13 := hR.out.up h13
          have hV13 := hV.out.up h13
          have hol13 := ownsRow_block hol.out (fun i hi => h13.block i (hol.out.lt i hi).2)
          have hw13 := below_up' hw2.out hsz h13
          have bw13 := below_up bw2.out h13
          have hnow13 := hnowI.out.up h13 h13.size
          have d0 := kept_cell h13 (by omega) c1
          have d1 := kept_cell h13 l13 c13
          have d2 := kept_cell h13 l18 c18
          have hsz13 : w5.heap.size ≤ w13.heap.size := hw13.size
          have l13b : b13 < w13.heap.size := Nat.lt_of_lt_of_le l13 h13.size
          have l18b : w11.heap.size < w13.heap.size := Nat.lt_of_lt_of_le l18 h13.size
          replace hR13 := Lib.hid hR13
          replace hV13 := Lib.hid hV13
          replace hol13 := Lib.hid hol13
          replace hw13 := Lib.hid hw13
          replace bw13 := Lib.hid bw13
          replace hnow13 := Lib.hid hnow13
          clear hR hV hol hw2 bw2 hnowI hcf h13 c0 c1 c11 c13 c18 cl0 co0
          cases res with
          | false =>
            have hst3 := hst2.out
            have hI3 := hI2.out
            rw [if_neg (by simp)] at hst3 hI3
            replace hst3 := Lib.hid hst3
            replace hI3 := Lib.hid hI3
            clear hst2 hI2 d0 d1 d2
            go_wp2_with fail
            go_roundw
            case rel => exact ⟨q + 1, st, vr, by omega, by go_num, hR13, hV13, hol13, hw13, hst3, hI3⟩
            case measure => simp [intOf]; omega
          | true =>
            have hst3 := hst2.out
            have hI3 := hI2.out
            rw [if_pos rfl, Int.toNat_natCast] at hst3 hI3
            have hqk : k < tks.length := by rw [← htl2.out]; exact hkn
            have htkk : tkAt made tks k = tks[k] := tk_at (S := ⟨made, tks, inputs⟩) hqk
            rw [htkk] at hst3 hI3
            obtain ⟨bt, ot, At', ct', rfl, hbt, ht0, ht1, ht2, htc, htm, htp⟩ := hs.out.tasks.at (below_up' hb.out hB bw13.out) k (by simpa using hqk)
            simp only [List.getElem_map] at ht0 ht1 ht2 htc htp
            have hbt13 : bt < w13.heap.size := by have := bw13.out.size; omega
            have hfs : tks[k].fets ≤ 100 := fets_small (htok.out k hqk)
            have hfc := fetched_calls tks[k] At' ct' st.2 An cn w13.heap.size w13 w13.drew (Below.refl _ _).drew (Nat.le_refl _) (hS1.out.tks _ (List.getElem_mem _)) hfs htc (PartsIs.up (below_up' hb.out hB bw13.out) (Nat.le_trans hB bw13.out.size) _ _ _ htp) (by rw [hvl.out]; unfold maxLen; omega) hnow13.out hI.out.val
            have hval : (fetchedP tks[k] st.2).1.1 = tks[k].itr.val st.2 := by rw [fetched_val]
            rw [hval, hvl.out] at hfc
            obtain ⟨vv, hvv⟩ : ∃ vv, tks[k].itr.val st.2 = vv := ⟨_, rfl⟩
            rw [hvv] at hfc hst3 hI3
            have hownn := hV13.out.own
            rw [hvl.out] at hownn
            obtain ⟨g, cap, eg, hBg, hgl⟩ := hownn.form (by omega)
            cases eg
            have hset : ∀ W : World, Below w13.heap.size w13 W → RowVar w5.heap.size b13 (.slice (some ⟨g, 0, none⟩) made.length cn) (st.2.set k vv) (W.setCell ⟨g, k, none⟩ (.int .i64 vv)) := fun W hW => by
              have h1 := hV13.out.up hW
              have h2 := h1.own
              rw [hvl.out] at h2
              have h3 := ownsRow_set h2 k (.int .i64 vv) hkn
              rw [ints_set] at h3
              exact ⟨(setCell_far (fun e => h1.ne (by rw [e]; rfl))).trans h1.blk, by rw [List.length_set, hvl.out]; exact h3, h1.le⟩
            have hcg : ∀ W : World, Below w13.heap.size w13 W → (∃ u, W.cell? ⟨g, k, none⟩ = some (.int .i64 u)) ∧ W.frozen? ⟨g, k, none⟩ = false := fun W hW => by
              have h2 := (hV13.out.up hW).own
              have h4 := hvl.out
              obtain ⟨A', c', e, _, _, hc⟩ := ownsRow_ints h2
              rw [h4] at e
              cases e
              obtain ⟨b', o', e2, _, hc'⟩ := hc k (by omega)
              cases e2
              rw [Nat.zero_add] at hc'
              refine ⟨⟨_, hc'⟩, ?_⟩
              rw [h4] at h2
              obtain ⟨_, ⟨h3, _⟩ | ⟨g', cap', cur, h3, _, h5, _⟩⟩ := h2
              · cases h3
              · cases h3; exact frozenm h5 k
            have hgb : g < w9.heap.size := hnb.out g rfl
            have hge : w5.heap.size ≤ g := hBg
            have hne1 : b13 ≠ g := fun e => hV13.out.ne (by rw [e]; rfl)
            have hne2 : w.heap.size ≠ g := by omega
            have hne3 : bt ≠ g := by omega
            replace hfc := Lib.hid hfc
            replace hst3 := Lib.hid hst3
            replace hI3 := Lib.hid hI3
            replace hset := Lib.hid hset
            replace hcg := Lib.hid hcg
            replace hvv := Lib.hid hvv
            replace hval := Lib.hid hval
            replace htkk := Lib.hid htkk
            replace hownn := Lib.hid hownn
            replace htp := Lib.hid htp
            clear hst2 hI2
            go_wp2_with fail
            go_region_held3 (fun w' => w'.cell? ⟨b13, 0, none⟩ = some (.slice (some ⟨g, 0, none⟩) made.length cn) ∧ w'.cell? ⟨w.heap.size, 1, none⟩ = some (.slice (some ⟨bt, ot, none⟩) tks.length ct) ∧ w'.cell? ⟨bt, ot + k * 3, none⟩ = some (.int .i64 tks[k].enc.kind) ∧ w'.cell? ⟨bt, ot + k * 3 + 1, none⟩ = some (.int .i64 tks[k].enc.n) ∧ w'.cell? ⟨bt, ot + k * 3 + 2, none⟩ = some (.slice At' tks[k].enc.parts.length ct')) (first | exact ⟨n1, n2, n3, n4, n5⟩ | exact ⟨m1, m2, m3, m4, m5⟩ | exact ⟨d1, d0, ht0, ht1, ht2⟩)
              (first | (go_at_call 83; refine hfc.out.mono ?_; rintro e w14 ⟨vf, rfl, -, h14⟩; have h14' : Below w13.heap.size w13 w14 := (Below.refl _ _).drew.trans h14; obtain ⟨⟨u0, c14⟩, f14⟩ := hcg.out w14 h14'; have m1 := kept_cell h14' l13b d1; have m2 := kept_cell h14' (by omega) d0; have m3 := kept_cell h14' hbt13 ht0; have m4 := kept_cell h14' hbt13 ht1; have m5 := kept_cell h14' hbt13 ht2; have n1 := (World.cell?_of_block (w := w14) (setCell_far (w := w14) (m := g) (j := k) (v := .int .i64 vv) (k := b13) hne1)).trans m1; have n2 := (World.cell?_of_block (w := w14) (setCell_far (w := w14) (m := g) (j := k) (v := .int .i64 vv) (k := w.heap.size) hne2)).trans m2; have n3 := (World.cell?_of_block (w := w14) (setCell_far (w := w14) (m := g) (j := k) (v := .int .i64 vv) (k := bt) hne3)).trans m3; have n4 := (World.cell?_of_block (w := w14) (setCell_far (w := w14) (m := g) (j := k) (v := .int .i64 vv) (k := bt) hne3)).trans m4; have n5 := (World.cell?_of_block (w := w14) (setCell_far (w := w14) (m := g) (j := k) (v := .int .i64 vv) (k := bt) hne3)).trans m5; replace h14 := Lib.hid h14; replace h14' := Lib.hid h14'))
            all_goals
              have hV15 := hset.out w14 h14'.out
              have hR14 := hR13.out.up h14'.out
              have hol14 := ownsRow_block hol13.out (fun i hi => h14'.out.block i (hol13.out.lt i hi).2)
              have hw14 := below_up' hw13.out hsz13 h14'.out
              have hsz14 : w13.heap.size ≤ w14.heap.size := h14'.out.size
              have t15 := setCell_turn (F := fun i => i = g) (w := w14) (a := ⟨g, k, none⟩) rfl (.int .i64 vv)
              have hRne : ∀ i, vr.ownBlock = some i → i ≠ g := fun i hi e => by have := (hR14.own.lt i hi).1; omega
              have hR15 := hR14.kept (w' := w14.setCell ⟨g, k, none⟩ (.int .i64 vv)) (setCell_far (by omega)) (fun i hi => setCell_far (hRne i hi))
              have hol15 := ownsRow_block (w' := w14.setCell ⟨g, k, none⟩ (.int .i64 vv)) hol14 (fun i hi => setCell_far (by have := (hob.out i hi).1; omega))
              have hw15 := hw14.trans (t15.below (by omega) (fun i e => by rw [e]; exact hge))
              have hsz15 := t15.size
              generalize hW15 : w14.setCell ⟨g, k, none⟩ (.int .i64 vv) = w15 at *
              have d18 : w15.cell? ⟨w11.heap.size, 0, none⟩ = some (.slice Au st.1.length cu) := by rw [← evr]; exact (cellm hR15.blk 0).trans rfl
              have hown15 := hR15.own
              rw [evr] at hown15
              have l18c := block_lt hR15.blk
              replace hV15 := Lib.hid hV15
              replace hR15 := Lib.hid hR15
              replace hol15 := Lib.hid hol15
              replace hw15 := Lib.hid hw15
              replace hown15 := Lib.hid hown15
              replace hRne := Lib.hid hRne
              replace evr := Lib.hid evr
              clear hR14 hol14 hw14 t15 hW15 n1 n2 n3 n4 n5 m1 m2 m3 m4 m5 c14 f14 hfc hset hcg h14 h14' d0 d1 d2 ht0 ht1 ht2 hR13 hV13 hol13 hw13 bw13 hnow13
              go_wp2_with (at_builtin; go_loud (with_reducible refine wpList_app1 (by rfl) (.tmp 102) (.tmp 104) 28 (by rfl) intTy w11.heap.size (.slice Au st.1.length cu) st.1.length (ints st.1) (by with_unfolding_all rfl) (hown15.out.alloc _) w15.heap.size 1 [.int .i64 k] (by with_unfolding_all rfl) (by with_unfolding_all rfl) ⟨_, _, heap_alloc_new w15 _, rfl⟩ (one_int _ _) ?_ ?_ ?_ ?_))
              · unfold maxLen; omega
              · omega
              · first | omega | (simp; omega)
              intro g7 cap7 w17 hown7 hgrow7 hat7
              have hgr7 : (w15.alloc (.cells #[.int .i64 k] 3 (0, 0))).grownBy w17 vr.ownBlock := by rw [evr.out]; exact hgrow7
              have hown7' : w17.ownsRow w11.heap.size 3 1 (.slice (some ⟨g7, 0, none⟩) (st.1.length + 1) cap7) (st.1 ++ [(k : Int)]).length (ints (st.1 ++ [(k : Int)])) := by
                simpa [ints_append, ints] using hown7
              have hR17 := (hR15.out.alloc (.cells #[.int .i64 k] 3 (0, 0))).set hgr7 hown7'
              have hfar : ∀ i, i < w15.heap.size → i ≠ w11.heap.size → vr.ownBlock ≠ some i → (w17.setCell ⟨w11.heap.size, 0, none⟩ (.slice (some ⟨g7, 0, none⟩) (st.1.length + 1) cap7)).heap[i]? = w15.heap[i]? := fun i h1 h2 h3 => (setCell_far h2).trans (far_grown hgr7 h1 h3)
              have hvlow : ∀ i, vr.ownBlock = some i → w11.heap.size ≤ i := fun i hi => (hR15.out.own.lt i hi).1
              have hV17 := hV15.out.kept (hfar b13 (block_lt hV15.out.blk) (by omega) (fun e => by have := hvlow _ e; omega)) (fun i hi => hfar i (hV15.out.own.lt i hi).2 (by have := hnb.out i hi; omega) (fun e => by have := hvlow _ e; have := hnb.out i hi; omega))
              have hol17 := ownsRow_block hol15.out (fun i hi => hfar i (hol15.out.lt i hi).2 (by have := (hob.out i hi).2; omega) (fun e => by have := hvlow _ e; have := (hob.out i hi).2; omega))
              have hw17 : Below w5.heap.size w5 (w17.setCell ⟨w11.heap.size, 0, none⟩ (.slice (some ⟨g7, 0, none⟩) (st.1.length + 1) cap7)) := by
                have h1 := (below_al' hw15.out (.cells #[.int .i64 k] 3 (0, 0)) (by omega)).grown hgr7 (by simp; omega) (fun i hi => by have := hvlow _ hi; omega)
                exact h1.trans ((setCell_turn (F := fun i => i = w11.heap.size) (w := w17) (a := ⟨w11.heap.size, 0, none⟩) rfl _).below h1.size (fun i e => by omega))
              have e18 : w17.cell? ⟨w11.heap.size, 0, none⟩ = some (.slice Au st.1.length cu) := by
                rw [World.cell?_of_block (w := w15) (far_grown hgr7 l18c (fun e => hR15.out.ne e))]
                exact d18
              have f18 : w17.frozen? ⟨w11.heap.size, 0, none⟩ = false := frozenm ((far_grown hgr7 l18c (fun e => hR15.out.ne e)).trans hR15.out.blk) 0
              replace hR17 := Lib.hid hR17
              replace hV17 := Lib.hid hV17
              replace hol17 := Lib.hid hol17
              replace hw17 := Lib.hid hw17
              clear hfar hvlow hgr7 hown7 hown7' hgrow7 hat7 hR15 hV15 hol15 hw15 hown15
              go_wp2_with fail
              go_roundw
              case rel => exact ⟨q + 1, (st.1 ++ [(k : Int)], st.2.set k vv), _, by omega, by go_num, hR17, hV17, hol17, hw17, hst3, hI3⟩
              case measure => simp [intOf]; omega
        · have e : q = order.length := by omega
          subst e
          rw [List.take_length] at hst hI
          have hres : toldP made tks bef inputs told order = st := hst.out
          have hvl := hI.out.len
          obtain ⟨Au, cu, evr, hu1, hu2, hu3⟩ := ownsRow_ints hR.out.own
          have c18 : wl.cell? ⟨w11.heap.size, 0, none⟩ = some (.slice Au st.1.length cu) := by rw [← evr]; exact (cellm hR.out.blk 0).trans rfl
          have c13 : wl.cell? ⟨b13, 0, none⟩ = some (.slice An made.length cn) := (cellm hV.out.blk 0).trans rfl
          have r1 : wl.drew.ownsRow w.heap.size 3 1 (.slice Au st.1.length cu) st.1.length (ints st.1) := by rw [← evr]; exact own_low2 hR.out.own (by omega)
          have r2 : wl.drew.ownsRow w.heap.size 3 1 (.slice An made.length cn) st.2.length (ints st.2) := own_low2 hV.out.own (by omega)
          replace r1 := Lib.hid r1
          replace r2 := Lib.hid r2
          replace hres := Lib.hid hres
          replace evr := Lib.hid evr
          clear hst hI hu3
          go_wp2_with fail
          go_region
          all_goals
            go_wp2_with fail
            go_ret3
            rw [hres.out]
            exact ⟨_, _, rfl, r1.out, r2.out, bw2.drew⟩
end Go.Proofs.Ytkbblekengdhaaa

set_option linter.unusedVariables false
set_option linter.unusedSimpArgs false
namespace Go.Proofs.Ytkbblekengdhaaa
open Go Go.RowKit

theorem rows_apart {w : World} {b1 b2 : Nat} {e1 e2 : TypeId} {s1 s2 n1 n2 : Nat} {v1 v2 : Value} {x1 x2 : List Value} (h1 : w.ownsRow b1 e1 s1 v1 n1 x1) (h2 : w.ownsRow b2 e2 s2 v2 n2 x2) (hne : e1 ≠ e2) : ∀ i, v1.ownBlock = some i → v2.ownBlock ≠ some i := by
  intro i hi
  rcases h1.2 with ⟨rfl, _⟩ | ⟨g, cap, cur, rfl, _, hg, _⟩
  · cases hi
  · cases hi
    exact ownsRow_ne h2 hg (fun c e => by cases e; exact hne rfl)
theorem l2Of_calls (A : Option Addr) (c : Nat) (xs : List Int) (k : Int) (hk : 0 ≤ k) (B : Nat) (w0 w : World) (hb : Below B w0 w) (hB : B ≤ w.heap.size) (hl : xs.length ≤ maxLen) (hx : IntsAt B w0 A xs) :
    Calls Try.prog 125 #[.slice A xs.length c, .int .i64 k] w fun e w' => e = .returned (.int .i64 (atK xs k)) ∧ w = w' := by
  obtain ⟨q, rfl⟩ := Int.eq_ofNat_of_zero_le hk
  unfold maxLen at hl
  by_cases hq : q < xs.length
  · obtain ⟨b, o, rfl, hbb, y⟩ := hx.at hb hB q hq
    rw [atK_in hq]
    clear hx hb hk
    generalize xs[q] = x at *
    go_enter Try.func125, Try.ntmps125
    go_wp2_with fail
    go_ret
    exact ⟨rfl, by first | rfl | trivial⟩
  · rw [atK_out (by omega)]
    clear hx hb hk
    go_enter Try.func125, Try.ntmps125
    go_wp2_with fail
    go_ret
    exact ⟨rfl, by first | rfl | trivial⟩

/-- between two fetches of the reference's run: the task's box, what was fetched, what was got -/
structure L2R (w1 : World) (xs : List Int) (l : List (Int × Int)) (got : List Int) (vo vg : Value) (wr : World) : Prop where
  out : wr.ownsRow w1.heap.size 130 2 vo l.length (fets l)
  own : wr.ownsRow w1.heap.size 3 1 vg got.length (ints got)
  below : Below w1.heap.size w1 wr
  vals : ∀ x ∈ got, 0 ≤ x ∧ x ≤ 96
theorem L2R.up {w1 : World} {xs : List Int} {l : List (Int × Int)} {got : List Int} {vo vg : Value} {wr w2 : World} (h : L2R w1 xs l got vo vg wr) (hb : Below wr.heap.size wr w2) : L2R w1 xs l got vo vg w2 :=
  ⟨ownsRow_block h.out (fun i hi => hb.block i (h.out.lt i hi).2), ownsRow_block h.own (fun i hi => hb.block i (h.own.lt i hi).2), below_up h.below hb, h.vals⟩
theorem L2R.fet {w1 : World} {xs : List Int} {l : List (Int × Int)} {got : List Int} {vo vg v' : Value} {wr w2 : World} {o : Obj} {k x : Int} (h : L2R w1 xs l got vo vg wr) (hg : (wr.alloc o).grownBy w2 vo.ownBlock) (ho : w2.ownsRow w1.heap.size 130 2 v' (l.length + 1) (fets l ++ [.int .i64 k, .int .i64 x])) : L2R w1 xs (l ++ [(k, x)]) got v' vg w2 := by
  have hz := h.below.size
  have ha := h.own.alloc o
  refine ⟨by rw [fets_append, List.length_append, List.length_singleton]; exact ho, ownsRow_block ha (fun i hi => hg.block i (ha.lt i hi).2 (fun e => rows_apart (h.out.alloc o) ha (by decide) i e.symm hi)), (below_al' h.below o hz).grown hg (by simp; omega) (fun i hi => (h.out.lt i hi).1), h.vals⟩
theorem L2R.get {w1 : World} {xs : List Int} {l : List (Int × Int)} {got : List Int} {vo vg v' : Value} {wr w2 : World} {o : Obj} {x : Int} (h : L2R w1 xs l got vo vg wr) (hg : (wr.alloc o).grownBy w2 vg.ownBlock) (ho : w2.ownsRow w1.heap.size 3 1 v' (got.length + 1) (ints got ++ [.int .i64 x])) (hx : 0 ≤ x ∧ x ≤ 96) : L2R w1 xs l (got ++ [x]) vo v' w2 := by
  have hz := h.below.size
  have ha := h.out.alloc o
  refine ⟨ownsRow_block ha (fun i hi => hg.block i (ha.lt i hi).2 (fun e => rows_apart (h.own.alloc o) ha (by decide) i e.symm hi)), by rw [ints_append, List.length_append, List.length_singleton]; exact ho, (below_al' h.below o hz).grown hg (by simp; omega) (fun i hi => (h.own.lt i hi).1),
    fun y hy => (List.mem_append.1 hy).elim (h.vals y) (fun e => by rw [List.mem_singleton.1 e]; exact hx)⟩

set_option maxRecDepth 5000 in
set_option maxHeartbeats 4000000 in
theorem l2Run_calls (t : Tk) (A : Option Addr) (c : Nat) (xs : List Int) (Ax : Option Addr) (cx B : Nat) (w0 w : World) (hb : Below B w0 w) (hB : B ≤ w.heap.size) (hok : t.ok) (hf : t.fets ≤ 100) (hc : t.enc.parts.length ≤ c) (hp : PartsIs B w0 A 0 t.enc.parts)
    (hm : xs.length ≤ maxLen) (hx : IntsAt B w0 Ax xs) (hv : ∀ x ∈ xs, 0 ≤ x ∧ x ≤ 96) :
    Calls Try.prog 88 #[.agg #[.int .i64 t.enc.kind, .int .i64 t.enc.n, .slice A t.enc.parts.length c], .slice Ax xs.length cx] w fun e w' =>
      ∃ v, e = .returned (.tuple #[.int .i64 (fetchedP t xs).1.1, v]) ∧ w'.ownsRow w.heap.size 130 2 v (fetchedP t xs).2.length (fets (fetchedP t xs).2) ∧ Below w.heap.size w w' := by
  have hat : ∀ k : Int, 0 ≤ atK xs k ∧ atK xs k ≤ 96 := fun k => by
    unfold atK
    split
    · omega
    · by_cases h1 : k.toNat < xs.length
      · rw [getD_at _ h1]; exact hv _ (List.getElem_mem _)
      · rw [getD_out _ (by omega)]; omega
  have hnx := fun (got : List Int) (Ag : Option Addr) (cg : Nat) (w1 : World) (hw : Below w.heap.size w w1) (hg : IntsAt w1.heap.size w1 Ag got) (hgv : ∀ x ∈ got, 0 ≤ x ∧ x ≤ 96) (hl : got.length ≤ 1000000) =>
    l2Next_calls t A c got Ag cg B w0 w1 (below_up' hb hB hw) (Nat.le_trans hB hw.size) hok hc hp hg hgv hl
  have hof := fun (k : Int) (hk : 0 ≤ k) (w1 : World) (hw : Below w.heap.size w w1) => l2Of_calls Ax cx xs k hk B w0 w1 (below_up' hb hB hw) (Nat.le_trans hB hw.size) hm hx
  have hitr := fetched_itr t xs
  have hiok := Tk.itr_ok t hok
  have hile := Tk.itr_le t
  obtain ⟨Q, hQ⟩ : ∃ Q, fetchedP t xs = Q := ⟨_, rfl⟩
  rw [hQ] at hitr ⊢
  generalize t.itr = m at *
  replace hnx := Lib.hid hnx
  replace hof := Lib.hid hof
  replace hat := Lib.hid hat
  replace hitr := Lib.hid hitr
  replace hiok := Lib.hid hiok
  replace hile := Lib.hid hile
  clear hb hp hok hx hv hQ hc
  go_enter Try.func88, Try.ntmps88
  go_wp2_with fail
  obtain ⟨w1, hw1⟩ : ∃ w1, w1 = w.alloc (.cells #[.int .i64 t.enc.kind, .int .i64 t.enc.n, .slice A t.enc.parts.length c] 39 (0, 0)) := ⟨_, rfl⟩
  have hs1 : w.heap.size < w1.heap.size := by rw [hw1]; simp
  have hb1 : Below w.heap.size w w1 := by rw [hw1]; exact below_al (Below.refl _ _) _
  have x0 : w1.cell? ⟨w.heap.size, 0, none⟩ = some (.int .i64 t.enc.kind) := by rw [hw1]; simp
  have x1 : w1.cell? ⟨w.heap.size, 1, none⟩ = some (.int .i64 t.enc.n) := by rw [hw1]; simp
  have x2 : w1.cell? ⟨w.heap.size, 2, none⟩ = some (.slice A t.enc.parts.length c) := by rw [hw1]; simp
  have hL0 : L2R w1 xs [] [] (.slice (some ⟨w1.heap.size, 0, none⟩) 0 0) (.slice (some ⟨w1.heap.size + 1, 0, none⟩) 0 0) ((w1.alloc (.cells #[] 130 (0, 0))).alloc (.cells #[] 3 (0, 0))) :=
    ⟨(World.ownsRow_made (base := w1.heap.size) (size := 2) w1 #[] 0 (Nat.le_refl _) (by simp [maxLen]) rfl).alloc _, by simpa [ints] using World.ownsRow_made (base := w1.heap.size) (size := 1) (w1.alloc (.cells #[] 130 (0, 0))) #[] 0 (by simp) (by simp [maxLen]) rfl, below_al (below_al (Below.refl _ _) _) _, fun x hx => by cases hx⟩
  have hsz1 : w.heap.size + 1 = w1.heap.size := by rw [hw1]; simp
  rw [← hsz1] at hL0
  rw [← hw1]
  have hcall := hnx.out [] (some ⟨w.heap.size + 1 + 1, 0, none⟩) 0 _ (hb1.trans (hL0.below.mono (Nat.le_of_lt hs1))) (RowAt.nil _ _ _ _) (fun x hx => by cases hx) (by simp)
  replace hb1 := Lib.hid hb1
  replace x0 := Lib.hid x0
  replace x1 := Lib.hid x1
  replace x2 := Lib.hid x2
  replace hL0 := Lib.hid hL0
  replace hw1 := Lib.hid hw1
  replace hsz1 := Lib.hid hsz1
  replace hcall := Lib.hid hcall
  refine hcall.out.mono ?_
  rintro e w2 ⟨rfl, v0, v1, h2⟩
  have hL2 := hL0.out.up h2
  replace hL2 := Lib.hid hL2
  clear h2 hL0 hcall v0 v1
  go_wp2_with fail
  go_loopw [6, 7, 8, 9, 10] (fun vo vg v ky o wr => ∃ (got : List Int) (l : List (Int × Int)), Hid (got.length = l.length) ∧ l.length ≤ t.fets ∧ got.length ≤ t.fets ∧ v = .int .i64 (nextP m got).1 ∧ ky = .int .i64 (nextP m got).2.1 ∧ o = .bool (nextP m got).2.2 ∧
    Hid (L2R w1 xs l got vo vg wr) ∧ Hid (Q = (m.walk got).run (fetF xs) l)) (fun _ vg _ _ _ _ => t.fets - lenOf vg)
  case atStart => exact ⟨[], [], Lib.hid rfl, Nat.zero_le _, Nat.zero_le _, rfl, rfl, rfl, hL2, Lib.hid (by rw [hitr.out, Itr.walk_nil])⟩
  case round =>
    obtain ⟨got, l, hgl, hgf2, hgf, rfl, rfl, rfl, hL, hEq⟩ := hrel
    have hwr := hb1.out.trans (hL.out.below.mono (Nat.le_of_lt hs1))
    replace hwr := Lib.hid hwr
    cases hw : m.walk got with
    | done x =>
      obtain ⟨n1, n2⟩ := nextP_done hw
      have he := hEq.out
      rw [hw] at he
      have he2 : Q = ((x, true), l) := he
      have hfin := own_low hL.out.out (Nat.le_of_lt hs1)
      rw [n1, n2]
      replace hfin := Lib.hid hfin
      replace he2 := Lib.hid he2
      clear hw n1 n2 he hEq hL
      go_wp2_with fail
      go_ret2
      rw [he2.out]
      exact ⟨_, rfl, hfin.out, hwr.out⟩
    | ask ky ct =>
      have hnp := nextP_ask hw
      have hkr := Itr.walk_ok got _ hiok.out
      rw [hw] at hkr
      obtain ⟨hk0', hk9', -⟩ := hkr
      have hglt := Itr.walk_le got _ _ hile.out ky ct hw
      have he := hEq.out
      rw [hw, Itr.run_yes (by simp [fetF])] at he
      have he2 : Q = (m.walk (got ++ [atK xs ky])).run (fetF xs) (l ++ [(ky, atK xs ky)]) := by
        rw [he, Itr.walk_append, hw, Itr.walk, Itr.walk_nil]; rfl
      have hxx := hat.out ky
      have hof1 := hof.out ky hk0'
      rw [hnp]
      obtain ⟨Ao, co, evo, ho1, ho2, -⟩ := fets_own hL.out.out
      obtain ⟨Ag, cg, evg, hg1, hg2, -⟩ := ownsRow_ints hL.out.own
      subst evo evg
      generalize atK xs ky = x at *
      have hwz := hL.out.below.size
      unfold maxLen at ho2 hg2
      replace hof1 := Lib.hid hof1
      replace he2 := Lib.hid he2
      replace hnp := Lib.hid hnp
      replace hw := Lib.hid hw
      clear hEq he
      have hc1 := hof1.out wr hwr.out
      replace hc1 := Lib.hid hc1
      go_wp2_with fail
      refine hc1.out.mono ?_
      rintro e w3 ⟨rfl, rfl⟩
      clear hc1
      go_wp2_with (at_builtin; go_loud (with_reducible refine wpList_app1 (by rfl) (.tmp 22) (.tmp 28) 89 (by rfl) fetTy w1.heap.size (.slice Ao l.length co) l.length (fets l) (by with_unfolding_all rfl) (hL.out.out.alloc _) wr.heap.size 1 [.int .i64 ky, .int .i64 x] (by with_unfolding_all rfl) (by with_unfolding_all rfl) ⟨_, _, heap_alloc_new wr _, rfl⟩ (one_fet _ _) ?_ ?_ ?_ ?_))
      · unfold maxLen; omega
      · omega
      · simp; omega
      intro g6 cap6 w6 hown6 hgrow6 hat6
      have hL6 := hL.out.fet (xs := xs) hgrow6 hown6
      have hwr6 := hb1.out.trans (hL6.below.mono (Nat.le_of_lt hs1))
      have hwz6 := hL6.below.size
      have hc1 := hof1.out w6 hwr6
      replace hc1 := Lib.hid hc1
      replace hL6 := Lib.hid hL6
      clear hown6 hgrow6 hat6 hL hwr
      go_wp2_with fail
      refine hc1.out.mono ?_
      rintro e w3 ⟨rfl, rfl⟩
      clear hc1
      go_wp2_with (at_builtin; go_loud (with_reducible refine wpList_app1 (by rfl) (.tmp 30) (.tmp 34) 28 (by rfl) intTy w1.heap.size (.slice Ag got.length cg) got.length (ints got) (by with_unfolding_all rfl) (hL6.out.own.alloc _) w6.heap.size 1 [.int .i64 x] (by with_unfolding_all rfl) (by with_unfolding_all rfl) ⟨_, _, heap_alloc_new w6 _, rfl⟩ (one_int _ _) ?_ ?_ ?_ ?_))
      · unfold maxLen; omega
      · omega
      · simp; omega
      intro g7 cap7 w7 hown7 hgrow7 hat7
      have hL7 := hL6.out.get (xs := xs) hgrow7 hown7 hxx
      have hwr7 := hb1.out.trans (hL7.below.mono (Nat.le_of_lt hs1))
      have hwz7 := hL7.below.size
      have y0 := (hL7.below.cell (p := ⟨w.heap.size, 0, none⟩) hs1).trans x0.out
      have y1 := (hL7.below.cell (p := ⟨w.heap.size, 1, none⟩) hs1).trans x1.out
      have y2 := (hL7.below.cell (p := ⟨w.heap.size, 2, none⟩) hs1).trans x2.out
      have hzz : w.heap.size < w7.heap.size := by omega
      have hlen7 : (got ++ [x]).length = got.length + 1 := by simp
      have hi7 := hL7.own
      rw [hlen7] at hi7
      have hii : IntsAt w7.heap.size w7 (some ⟨g7, 0, none⟩) (got ++ [x]) := ownsRow_ints_of (c := cap7) (by rw [hlen7]; exact hi7)
      have hc2 := hnx.out (got ++ [x]) (some ⟨g7, 0, none⟩) cap7 w7 hwr7 hii hL7.vals (by simp; omega)
      rw [hlen7] at hc2
      replace hc2 := Lib.hid hc2
      replace hL7 := Lib.hid hL7
      replace hlen7 := Lib.hid hlen7
      clear hown7 hgrow7 hat7 hL6 hi7 hii hwr7 hwr6
      go_wp2_with fail
      refine hc2.out.mono ?_
      rintro e w8 ⟨rfl, v0, v1, h8⟩
      have hL8 := hL7.out.up h8
      replace hL8 := Lib.hid hL8
      clear hc2 hL7 h8 y0 y1 y2 hzz
      go_wp2_with fail
      go_roundw
      case rel => exact ⟨got ++ [x], l ++ [(ky, x)], Lib.hid (by simp [hgl.out]), by have := hgl.out; simp; omega, by rw [hlen7.out]; omega, rfl, rfl, rfl, hL8, he2⟩
      case measure => simp only [lenOf]; omega
end Go.Proofs.Ytkbblekengdhaaa

set_option linter.unusedVariables false
set_option linter.unusedSimpArgs false
namespace Go.Proofs.Ytkbblekengdhaaa
open Go Go.RowKit

/-- what the reference works on: values, what is another one, what was run -/
structure TS (n : Nat) (bx : Array Value) (w : World) (vv : Value) (go : Nat) (vals : List Int) (Y : Int → Bool) (vr : Value) (runs : List Int) (wr : World) : Prop where
  box : wr.heap[w.heap.size]? = some (.cells bx 26 (0, 0))
  vo : wr.ownsRow w.heap.size 3 1 vv n (ints vals)
  oo : RowBlk vB 4 wr go ((keysN n).map Y)
  ro : wr.ownsRow w.heap.size 3 1 vr runs.length (ints runs)
  ne : ∀ i, vv.ownBlock = some i → vr.ownBlock ≠ some i
  below : Below w.heap.size w wr
  len : vals.length = n
section
variable {n : Nat} {bx : Array Value} {w : World} {vv : Value} {g c go : Nat} {vals : List Int} {Y : Int → Bool} {vr : Value} {runs : List Int} {wr w2 : World}
theorem TS.vW (h : TS n bx w vv go vals Y vr runs wr) : vv.ownBlock ≠ some w.heap.size := ownsRow_ne h.vo h.box (fun c e => by cases e)
theorem TS.vgo (h : TS n bx w vv go vals Y vr runs wr) : vv.ownBlock ≠ some go := ownsRow_ne h.vo h.oo (fun c e => by cases e)
theorem TS.goW (h : TS n bx w vv go vals Y vr runs wr) : go ≠ w.heap.size := fun e => by
  have h1 := h.oo
  have h2 := h.box
  unfold RowBlk at h1
  rw [e, h2] at h1
  cases h1
theorem TS.rW (h : TS n bx w vv go vals Y vr runs wr) : vr.ownBlock ≠ some w.heap.size := ownsRow_ne h.ro h.box (fun c e => by cases e)
theorem TS.rgo (h : TS n bx w vv go vals Y vr runs wr) : vr.ownBlock ≠ some go := ownsRow_ne h.ro h.oo (fun c e => by cases e)
def TFoot (W : Nat) (vv : Value) (go : Nat) (vr : Value) (i : Nat) : Prop := i = W ∨ vv.ownBlock = some i ∨ i = go ∨ vr.ownBlock = some i
theorem TS.kept (h : TS n bx w vv go vals Y vr runs wr) (hk : ∀ i, TFoot w.heap.size vv go vr i → w2.heap[i]? = wr.heap[i]?) (hb : Below w.heap.size w w2) : TS n bx w vv go vals Y vr runs w2 :=
  ⟨(hk _ (.inl rfl)).trans h.box, ownsRow_block h.vo (fun i hi => hk i (.inr (.inl hi))), h.oo.turn (hk go (.inr (.inr (.inl rfl)))), ownsRow_block h.ro (fun i hi => hk i (.inr (.inr (.inr hi)))), h.ne, hb, h.len⟩
theorem TS.bnd (h : TS n bx w vv go vals Y vr runs wr) : ∀ i, TFoot w.heap.size vv go vr i → i < wr.heap.size := by
  intro i hi
  rcases hi with rfl | hi | rfl | hi
  · exact block_lt h.box
  · exact (h.vo.lt i hi).2
  · exact h.oo.lt
  · exact (h.ro.lt i hi).2
theorem TS.up (h : TS n bx w vv go vals Y vr runs wr) (hb : Below wr.heap.size wr w2) : TS n bx w vv go vals Y vr runs w2 :=
  h.kept (fun i hi => hb.block i (h.bnd i hi)) (below_up' h.below h.below.size hb)
theorem TS.setV (h : TS n bx w vv go vals Y vr runs wr) (hv : vv = .slice (some ⟨g, 0, none⟩) n c) (k : Nat) (v : Int) (hk : k < n) : TS n bx w vv go (vals.set k v) Y vr runs (wr.setCell ⟨g, k, none⟩ (.int .i64 v)) := by
  subst hv
  have h3 := ownsRow_set h.vo k (.int .i64 v) hk
  rw [ints_set] at h3
  have hg := h.vo.lt g rfl
  exact ⟨(setCell_far (fun e => h.vW (by rw [e]; rfl))).trans h.box, h3, h.oo.turn (setCell_far (fun e => h.vgo (by rw [e]; rfl))), ownsRow_block h.ro (fun i hi => setCell_far (own_far hi (h.ne g rfl))), h.ne,
    h.below.setCell hg.1 _, by simpa using h.len⟩
theorem TS.setO (h : TS n bx w vv go vals Y vr runs wr) (hgo : w.heap.size ≤ go) (k : Nat) (b : Bool) : TS n bx w vv go vals (fun i => if i = (k : Int) then b else Y i) vr runs (wr.setCell ⟨go, k, none⟩ (.bool b)) := by
  have h3 := h.oo.set k b
  rw [keysN_set] at h3
  exact ⟨(setCell_far (fun e => h.goW e.symm)).trans h.box, ownsRow_block h.vo (fun i hi => setCell_far (own_far hi h.vgo)), h3, ownsRow_block h.ro (fun i hi => setCell_far (own_far hi h.rgo)), h.ne,
    h.below.setCell hgo _, h.len⟩
theorem TS.app (h : TS n bx w vv go vals Y vr runs wr) {o : Obj} {k : Int} {v' : Value} (hg : (wr.alloc o).grownBy w2 vr.ownBlock) (ho : w2.ownsRow w.heap.size 3 1 v' (runs.length + 1) (ints runs ++ [.int .i64 k])) (hat : ∀ i, v'.ownBlock = some i → vr.ownBlock = some i ∨ wr.heap.size ≤ i) :
    TS n bx w vv go vals Y v' (runs ++ [k]) w2 := by
  have hk : ∀ i, (i = w.heap.size ∨ vv.ownBlock = some i ∨ i = go) → w2.heap[i]? = wr.heap[i]? := fun i hi => by
    refine far_grown hg (h.bnd i (hi.elim .inl fun e => .inr (e.elim .inl fun e => .inr (.inl e)))) ?_
    rcases hi with rfl | hi | rfl
    · exact h.rW
    · exact h.ne i hi
    · exact h.rgo
  refine ⟨(hk _ (.inl rfl)).trans h.box, ownsRow_block h.vo (fun i hi => hk i (.inr (.inl hi))), h.oo.turn (hk go (.inr (.inr rfl))), ?_, fun i hi e => ?_, (below_al' h.below o h.below.size).grown hg (by have := h.below.size; simp; omega) (fun i hi => (h.ro.lt i hi).1), h.len⟩
  · simpa [ints_append, ints] using ho
  · rcases hat _ e with h1 | h1
    · exact h.ne i hi h1
    · have := (h.vo.lt i hi).2; omega
end
/-- which inputs are others, among the first -/
def othAt (made : List Bool) (bef inputs : List Int) (j : Nat) (i : Int) : Bool := decide (0 ≤ i ∧ i < j) && (!mkK made i && (atK bef i != atK inputs i))
theorem othAt_zero (made : List Bool) (bef inputs : List Int) : othAt made bef inputs 0 = fun _ => false := by
  funext i
  have : ¬ (0 ≤ i ∧ i < ((0 : Nat) : Int)) := by omega
  simp only [othAt, this, decide_false, Bool.false_and]
theorem othAt_made {made : List Bool} {bef inputs : List Int} {j : Nat} (h : mkK made j = true) : othAt made bef inputs (j + 1) = othAt made bef inputs j := by
  funext i
  by_cases e : i = (j : Int)
  · subst e; simp [othAt, h]
  · have : decide (0 ≤ i ∧ i < ((j + 1 : Nat) : Int)) = decide (0 ≤ i ∧ i < (j : Int)) := by
      by_cases h1 : 0 ≤ i ∧ i < (j : Int)
      · rw [decide_eq_true h1, decide_eq_true (by omega)]
      · rw [decide_eq_false h1, decide_eq_false (by omega)]
    simp only [othAt, this]
theorem othAt_unmade {made : List Bool} {bef inputs : List Int} {j : Nat} (h : mkK made j = false) : othAt made bef inputs (j + 1) = fun i => if i = (j : Int) then (atK bef j != atK inputs j) else othAt made bef inputs j i := by
  funext i
  by_cases e : i = (j : Int)
  · subst e
    have : decide (0 ≤ (j : Int) ∧ (j : Int) < ((j + 1 : Nat) : Int)) = true := decide_eq_true (by omega)
    unfold othAt
    rw [this, h]
    simp
  · have : decide (0 ≤ i ∧ i < ((j + 1 : Nat) : Int)) = decide (0 ≤ i ∧ i < (j : Int)) := by
      by_cases h1 : 0 ≤ i ∧ i < (j : Int)
      · rw [decide_eq_true h1, decide_eq_true (by omega)]
      · rw [decide_eq_false h1, decide_eq_false (by omega)]
    simp only [othAt, this, if_neg e]
/-- what is another one is what was run, or has another value than ahead -/
theorem oth_chg {made : List Bool} {bef inputs : List Int} (i : Int) (h0 : 0 ≤ i ∧ i < made.length) : othAt made bef inputs made.length i = chg made.length bef ([], toldStart made bef inputs) i := by
  obtain ⟨q, rfl⟩ := Int.eq_ofNat_of_zero_le h0.1
  have hq : q < made.length := by omega
  have e := start_at (made := made) (bef := bef) (inputs := inputs) hq
  simp only [othAt, chg, decide_eq_true h0, Bool.true_and, e, List.contains_nil, Bool.false_or]
  cases mkK made (q : Int) with
  | true => simp
  | false => simp [bne_comm]
theorem chg_step {made : List Bool} {tks : List Tk} {bef inputs : List Int} {told : List (List Int)} {done : List Int} {st : List Int × List Int} {k : Nat} (h : TInv made bef inputs done st) (hk : k < made.length) (hm : mkK made k = true) (hd : (k : Int) ∉ done) (i : Int) (h0 : 0 ≤ i ∧ i < made.length) :
    chg made.length bef (toldStep made tks bef told st k) i = if i = (k : Int) then (toldAt told k).any (chg made.length bef st) else chg made.length bef st i := by
  have hks : (k : Int) ∉ st.1 := fun e => hd (h.sub _ e)
  have hck : chg made.length bef st k = false := by
    simp only [chg, h.yet k hk hm hks, bne_self_eq_false, Bool.or_false, Bool.and_eq_false_iff]
    right
    simpa using hks
  unfold toldStep
  by_cases e : i = (k : Int)
  · subst e
    rw [if_pos rfl]
    split
    · rename_i h1
      rw [h1]
      simp only [chg, decide_eq_true h0, Bool.true_and, Bool.or_eq_true]
      left; simp
    · rename_i h1
      rw [hck]; simpa using h1
  · rw [if_neg e]
    split
    · have h2 : (st.1 ++ [(k : Int)]).contains i = st.1.contains i := by
        rw [Bool.eq_iff_iff]; simp [e]
      simp only [chg, h2, Int.toNat_natCast]
      rw [show atK (st.2.set k ((tkAt made tks k).itr.val st.2)) i = atK st.2 i from by
        have := atK_set (xs := st.2) (k := (k : Int)) (j := i) (v := (tkAt made tks k).itr.val st.2) (by rw [h.len]; omega)
        rw [Int.toNat_natCast, if_neg e] at this; exact this]
    · rfl
theorem keysN_take {n j : Nat} (h : j < n) : (keysN n).take (j + 1) = (keysN n).take j ++ [(j : Int)] := by
  rw [List.take_succ_eq_append_getElem (by simpa [keysN] using h), keysN_get]
end Go.Proofs.Ytkbblekengdhaaa
