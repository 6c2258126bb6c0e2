import Derived.Deep.RegionWith
import Derived.Deep.RegionLaw
import Derived.Deep.RegionHeld3
import Derived.Test.YtpccgdkidnkppaaPk8FnWorkValues
import Derived.Test.YtpccgdkidnkppaaPk14FnWorkValues
import Derived.Test.YtpccgdkidnkppaaPk19FnWorkValues
import Derived.Test.YtpccgdkidnkppaaPk21FnWorkValues
set_option linter.unusedVariables false
set_option linter.unusedSimpArgs false
namespace Go.Proofs.Ytpccgdkidnkppaa
open Go Go.RowKit

theorem SwI.up {E : MkEnv} {S : Sh} {m : Nat} {st : WSt} {w w' : World} {F : Nat → Prop} (h : SwI E S m st w F) (hb : Below w.heap.size w w') : SwI E S m st w' F := by
  obtain ⟨vv, vl, vt, vo, vals, ts, hA, h1, h2, h3⟩ := h
  exact ⟨vv, vl, vt, vo, vals, ts, hA.up hb, h1, h2, h3⟩
theorem sw0 (E : MkEnv) (S : Sh) (v : Value) (w : World) (ho : w.ownsRow E.B 3 1 v S.inputs.length (ints S.inputs)) (hb : Below E.B E.w0 w) (hB : E.B ≤ w.heap.size) :
    SwAt E S w.heap.size v (.slice none 0 0) (.slice none 0 0) (.slice none 0 0) S.inputs [] ⟨fun _ => none, [], []⟩ (w.alloc (.cells (swCs E S v (.slice none 0 0) (.slice none 0 0) (.slice none 0 0)) 133 (0, 0))) := by
  have hnil : ∀ i, (rowP E.B 3 1 (.slice none 0 0) 0 (ints [])).F i → False := fun i hi => by cases hi
  have hv : ∀ i, v.ownBlock = some i → i < w.heap.size := fun i hi => (ho.lt i hi).2
  refine ⟨heap_new rfl, fun p hp => ?_, fun i j hi hj hij b h1 h2 => ?_, fun p hp hf => ?_, hB, below_al' hb _ hB, by simp; omega⟩
  · simp only [swPs, List.mem_cons, List.not_mem_nil, or_false] at hp
    rcases hp with rfl | rfl | rfl | rfl
    · exact rowP_ok (ho.alloc _)
    · exact rowP_ok (World.ownsRow_nil _ _ _ _)
    · exact rowP_ok (World.ownsRow_nil _ _ _ _)
    · exact rowP_ok (World.ownsRow_nil _ _ _ _)
  · match i, j, hi, hj with
    | 0, 0, _, _ => exact hij rfl
    | 0, 1, _, _ => exact hnil b h2
    | 0, 2, _, _ => exact hnil b h2
    | 0, 3, _, _ => exact hnil b h2
    | 1, _, _, _ => exact hnil b h1
    | 2, _, _, _ => exact hnil b h1
    | 3, _, _, _ => exact hnil b h1
  · simp only [swPs, List.mem_cons, List.not_mem_nil, or_false] at hp
    rcases hp with rfl | rfl | rfl | rfl
    · exact Nat.lt_irrefl _ (hv _ hf)
    · exact hnil _ hf
    · exact hnil _ hf
    · exact hnil _ hf
def SWorkedP (E : MkEnv) (S : Sh) (fin : WSt) (w : World) (e : Ending) (w' : World) : Prop :=
  ∃ m F, e = .returned (.tuple #[.pointer (some ⟨m, 0, none⟩), .bool true]) ∧ SwI E S m fin w' F ∧ (∀ i, F i → w.heap.size ≤ i) ∧ Below w.heap.size w w'

set_option maxRecDepth 5000 in
set_option maxHeartbeats 16000000 in
theorem l10All_good (E : MkEnv) (S : Sh) (hE : E.Good S) (hnod : ∀ T ∈ S.tks.map Tk.enc, nodes T ≤ 1000000000) {all : List Int} (hall : buildAllP S = (all, true)) (hsafe : safeP S.made (S.tks.map Tk.enc) = true) (Ak Av : Option Addr) (ck cv : Nat) (keys moves : List Int) (w : World) (hb : Below E.B E.w0 w) (hB : E.B ≤ w.heap.size) (hk : keysOk S.made.length keys = true) (hx : IntsAt E.B E.w0 Ak keys) (hm : keys.length ≤ 1000) (hxm : IntsAt E.B E.w0 Av moves) (hmm : moves.length ≤ 60)
    (n0 : Nat) (fin : WSt) (hr : WRun S n0 (wmoves S (wstart S keys) moves, none) fin) :
    Calls Try.prog 105 #[.agg #[.slice E.Am S.made.length E.cm, .slice E.At S.tks.length E.ct], .slice E.Ai S.inputs.length E.ci, .slice Ak keys.length ck, .slice Av moves.length cv] w (SWorkedP E S fin w) := by
  have hok2 : takesOk S.made.length S.inputs = true := by simp [takesOk, hE.ok.ins, vals_iff.2 hE.ok.vals]
  have hten := hE.ok.ten
  have hin : inputsOk S.made (S.tks.map Tk.enc) S.inputs = true := by rw [inputsOk, hE.ok.sheet, hok2]; rfl
  have hc1 := fun w1 (hw : Below w.heap.size w w1) => l3Inputs_calls E.Am E.At E.Ai E.cm E.ct E.ci S.made (S.tks.map Tk.enc) S.inputs E.B E.w0 w1 (below_up' hb hB hw) (Nat.le_trans hB hw.size) hE.sheet hnod (Nat.le_trans hE.li hE.mi) hE.ins
  rw [hin] at hc1
  simp only [List.length_map] at hc1
  have hc2 := fun w1 (hw : Below w.heap.size w w1) => l4Keys_calls E.Am E.At Ak E.cm E.ct ck S.made (S.tks.map Tk.enc) keys E.B E.w0 w1 (below_up' hb hB hw) (Nat.le_trans hB hw.size) hE.sheet hnod (by omega) (by unfold maxLen; omega) hx
  rw [hk, hE.ok.sheet] at hc2
  simp only [List.length_map] at hc2
  have hc3 := fun w1 (hw : Below w.heap.size w w1) => specSheetSafe_calls E.Am E.At E.cm E.ct S.made (S.tks.map Tk.enc) E.B E.w0 w1 (below_up' hb hB hw) (Nat.le_trans hB hw.size) hE.sheet hnod
  rw [hsafe] at hc3
  simp only [List.length_map] at hc3
  have hinp : IntsAt w.heap.size w E.Ai S.inputs := hE.ins.up hb hB
  have hil : S.inputs.length ≤ 10 := by rw [hE.ok.ins]; exact hten
  have hsr0 : SRel S (fun _ => none) S.inputs [] := ⟨hE.ok.ins, hE.ok.vals, fun k _ => by simp, fun k _ => rfl⟩
  have hmade : BoolsAt w.heap.size w E.Am S.made := hE.sheet.made.up hb hB
  have hkey : IntsAt w.heap.size w Ak keys := hx.up hb hB
  have hmov : IntsAt w.heap.size w Av moves := hxm.up hb hB
  have hml : S.made.length ≤ E.cm := hE.sheet.lm
  have hmmx : E.cm ≤ maxLen := hE.sheet.mm
  unfold maxLen at hmmx
  have hrg := keysOk_iff.1 hk
  have hwant := fun m st k w F hl h => swant_calls E S m st k w F hl h
  have hmove := fun m st i w F (hi : WInv S all keys st) h => stry_calls E S hE m st i w F (Nat.le_trans hi.len hten) (Nat.le_trans hi.olen (Nat.le_trans hi.len hten)) (fun x hx => (hi.reach x hx).isMade) (KnOk.of hE.ok hall hi.snd) h
  have hminv := fun st (hi : WInv S all keys st) i => moveP_inv hE.ok hall hi i
  have hwinv := fun st (hi : WInv S all keys st) k (hk : k ∈ keys) (hmk : mkK S.made k = true) => hi.want (.here k hk hmk)
  have hmvs := fun st (hi : WInv S all keys st) => (wmoves_inv hE.ok hall moves st hi).1
  obtain ⟨W0, hW0⟩ : ∃ W0, wstart S keys = W0 := ⟨_, rfl⟩
  rw [hW0] at hr
  unfold wstart at hW0
  have hI0 := winv0 S all keys
  obtain ⟨Am, hAm⟩ : ∃ Am, E.Am = Am := ⟨_, rfl⟩
  replace hc1 := Lib.hid hc1
  replace hinp := Lib.hid hinp
  replace hsr0 := Lib.hid hsr0
  replace hc2 := Lib.hid hc2
  replace hc3 := Lib.hid hc3
  replace hr := Lib.hid hr
  replace hmade := Lib.hid hmade
  replace hkey := Lib.hid hkey
  replace hmov := Lib.hid hmov
  replace hrg := Lib.hid hrg
  replace hwant := Lib.hid hwant
  replace hmove := Lib.hid hmove
  replace hminv := Lib.hid hminv
  replace hwinv := Lib.hid hwinv
  replace hmvs := Lib.hid hmvs
  replace hW0 := Lib.hid hW0
  replace hI0 := Lib.hid hI0
  replace hAm := Lib.hid hAm
  have hb' := hb
  replace hb' := Lib.hid hb'
  clear hok2 hin hk hb hx hE hsafe hxm hall hnod
  go_enter Try.func105, Try.ntmps105
  go_wp2_with fail
  refine (hc1.out _ (below_al (Below.refl _ _) _)).mono ?_
  rintro e w1 ⟨rfl, h1⟩
  have x0 : w1.cell? ⟨w.heap.size, 0, none⟩ = some (.slice E.Am S.made.length E.cm) := (h1.cell (p := ⟨w.heap.size, 0, none⟩) (by simp)).trans (by simp)
  have x1 : w1.cell? ⟨w.heap.size, 1, none⟩ = some (.slice E.At S.tks.length E.ct) := (h1.cell (p := ⟨w.heap.size, 1, none⟩) (by simp)).trans (by simp)
  have b1 := below_from h1
  have s1 : w.heap.size < w1.heap.size := by have := h1.size; simp at this; omega
  have hbx1 := (h1.block w.heap.size (by simp)).trans (heap_new rfl)
  replace b1 := Lib.hid b1
  replace hbx1 := Lib.hid hbx1
  clear h1 hc1
  go_wp2_with fail
  refine (hc2.out _ b1.out).mono ?_
  rintro e w2 ⟨rfl, h2⟩
  have y0 := kept_cell h2 s1 x0
  have y1 := kept_cell h2 s1 x1
  have b2 := below_up b1.out h2
  have s2 : w.heap.size < w2.heap.size := by have := h2.size; omega
  have hbx2 := (h2.block w.heap.size s1).trans hbx1.out
  replace b2 := Lib.hid b2
  replace hbx2 := Lib.hid hbx2
  clear h2 x0 x1 s1 hc2 hbx1
  go_wp2_with fail
  refine (hc3.out _ b2.out).mono ?_
  rintro e w3 ⟨rfl, h3⟩
  have x0 := kept_cell h3 s2 y0
  have x1 := kept_cell h3 s2 y1
  have b3 := below_up b2.out h3
  have s3 : w.heap.size < w3.heap.size := by have := h3.size; omega
  have hbx3 := (h3.block w.heap.size s2).trans hbx2.out
  have hB3 : E.B ≤ w3.heap.size := Nat.le_trans hB b3.size
  have hbE : Hid (Below E.B E.w0 w3) := Lib.hid (below_up' hb'.out hB b3)
  replace b3 := Lib.hid b3
  replace hbx3 := Lib.hid hbx3
  clear h3 y0 y1 s2 hc3 hbx2
  go_wp2_with fail
  go_region_law ((with_reducible refine step_appI (base := w.heap.size + 1) (v := .slice (some ⟨w3.heap.size, 0, none⟩) 0 0) (n := 0) (xs := []) (B := w.heap.size) (w0 := w) (by rfl) (.tmp 35) (.tmp 36) (by rfl) intTy (by with_unfolding_all rfl) ?_ (by with_unfolding_all rfl) hinp.out ?_ ?_ ?_ ?_ ?_ ?_); (exact (World.ownsRow_made (base := w.heap.size + 1) w3 #[] 0 (by omega) (by simp [maxLen]) rfl).drew); (exact (below_al' b3.out _ b3.out.size).drew); (simp; omega); (simp [maxLen]; omega); (omega); (simp; omega); intro v4 w4 hown hgrow hat; have hlt4 := hgrow.size; simp at hlt4; have hown' : w4.ownsRow (w.heap.size + 1) 3 1 v4 S.inputs.length (ints S.inputs) := (by { have := hown; simpa using this }); have hne4 : ∀ i, i < w3.heap.size → some i ≠ (Value.slice (some ⟨w3.heap.size, 0, none⟩) 0 0).ownBlock := (by { intro i hi e; have := Option.some.inj (show some i = some w3.heap.size from e); omega }); have hbx4 : w4.heap[w.heap.size]? = some (.cells #[.slice E.Am S.made.length E.cm, .slice E.At S.tks.length E.ct] 31 (0, 0)) := (hgrow.block w.heap.size (by simp; omega) (hne4 _ s3)).trans ((heap_old s3).trans hbx3.out); have z0 : w4.cell? ⟨w.heap.size, 0, none⟩ = some (.slice E.Am S.made.length E.cm) := cellm hbx4 0; have z1 : w4.cell? ⟨w.heap.size, 1, none⟩ = some (.slice E.At S.tks.length E.ct) := cellm hbx4 1; have b4 : Below w.heap.size w w4 := (by exact ((below_al' b3.out _ b3.out.size).drew.grown hgrow (by simp; omega) (fun k hk => by cases hk; exact Nat.le_of_lt s3))); obtain ⟨A4, c4, rfl, -, -, -⟩ := ownsRow_ints hown'; replace b4 := Lib.hid b4; replace hbx4 := Lib.hid hbx4; replace hown' := Lib.hid hown'; clear hown hgrow hat hne4)
  all_goals
    have hB4 : E.B ≤ w4.heap.size := by omega
    have hst := sw0 E S _ w4 (own_low hown'.out (by omega)) (below_up' hb'.out hB b4.out) hB4
    have hlo : ∀ i, Foot w4.heap.size (swPs E (.slice A4 S.inputs.length c4) (.slice none 0 0) (.slice none 0 0) (.slice none 0 0) S.inputs [] ⟨fun _ => none, [], []⟩) i → w.heap.size + 1 ≤ i := by
      rintro i (rfl | ⟨p, hp, hf⟩)
      · omega
      · simp only [swPs, List.mem_cons, List.not_mem_nil, or_false] at hp
        rcases hp with rfl | rfl | rfl | rfl
        · exact (hown'.out.lt i hf).1
        · cases hf
        · cases hf
        · cases hf
    have b5 := below_al' b4.out (.cells (swCs E S (.slice A4 S.inputs.length c4) (.slice none 0 0) (.slice none 0 0) (.slice none 0 0)) 133 (0, 0)) b4.out.size
    have hbx5 := (heap_old (o := .cells (swCs E S (.slice A4 S.inputs.length c4) (.slice none 0 0) (.slice none 0 0) (.slice none 0 0)) 133 (0, 0)) (show w.heap.size < w4.heap.size by omega)).trans hbx4.out
    replace hst := Lib.hid hst
    replace hlo := Lib.hid hlo
    replace b5 := Lib.hid b5
    replace hbx5 := Lib.hid hbx5
    go_wp2_with fail
    go_loopw [11] (fun i wr => ∃ (j : Nat) (st : WSt) (F : Nat → Prop), j ≤ keys.length ∧ i = .int .i64 j ∧ Hid (SwI E S w4.heap.size st wr F) ∧ Hid (∀ i, F i → w.heap.size + 1 ≤ i) ∧ Hid (Below w.heap.size w wr) ∧ w.heap.size < wr.heap.size ∧
      Hid (wr.heap[w.heap.size]? = some (.cells #[.slice E.Am S.made.length E.cm, .slice E.At S.tks.length E.ct] 31 (0, 0))) ∧ Hid (WInv S all keys st) ∧ Hid (W0 = (keys.drop j).foldl (fun st k => if mkK S.made k then wantP st k else st) st)) (fun i _ => keys.length - (intOf i).toNat)
    case atStart => exact ⟨0, ⟨fun _ => none, [], []⟩, _, Nat.zero_le _, rfl, Lib.hid ⟨_, _, _, _, S.inputs, [], hst.out, rfl, rfl, hsr0.out⟩, hlo, b5, by simp; omega, hbx5, hI0, Lib.hid hW0.out.symm⟩
    case round =>
      obtain ⟨j, st, F, hj, rfl, hM, hF, hw, hsz, hbx, hIv, hfo⟩ := hrel
      have z0 : wr.cell? ⟨w.heap.size, 0, none⟩ = some (.slice E.Am S.made.length E.cm) := cellm hbx.out 0
      by_cases hlt : j < keys.length
      · have hfo2 := hfo.out
        rw [List.drop_eq_getElem_cons hlt, List.foldl_cons] at hfo2
        have hkin := List.getElem_mem hlt
        have hkr := hrg.out _ hkin
        obtain ⟨bk, ok, rfl, hbk, yk⟩ := hkey.out.at hw.out hw.out.size j hlt
        generalize keys[j] = k at *
        obtain ⟨kq, rfl⟩ := Int.eq_ofNat_of_zero_le hkr.1
        have hkq : kq < S.made.length := by omega
        obtain ⟨bm, om, em, hbm, cm⟩ := hmade.out.at hw.out hw.out.size kq hkq
        have hmkk : mkK S.made kq = S.made[kq] := by unfold mkK; rw [if_neg (by omega)]; exact getD_at _ _
        rw [em] at z0
        replace hmkk := Lib.hid hmkk
        replace em := Lib.hid em
        cases hmd : S.made[kq] with
        | false =>
          have hmk : mkK S.made kq = false := by rw [hmkk.out, hmd]
          rw [hmd] at cm
          rw [hmk] at hfo2
          simp only [Bool.false_eq_true, if_false] at hfo2
          replace hfo2 := Lib.hid hfo2
          replace hmd := Lib.hid hmd
          replace hmk := Lib.hid hmk
          replace hkin := Lib.hid hkin
          go_wp2_with fail
          go_quiet (fail)
          go_wp2_with fail
          go_roundw
          case rel => exact ⟨j + 1, st, F, by omega, by go_num, Lib.hid (hM.out.up (below_drewN (Below.refl _ _) _)), hF, Lib.hid (below_drewN hw.out _), hsz, hbx, hIv, hfo2⟩
          case measure => simp [intOf]; omega
        | true =>
          have hmk : mkK S.made kq = true := by rw [hmkk.out, hmd]
          rw [hmd] at cm
          rw [hmk] at hfo2
          simp only [if_true] at hfo2
          have hl10 : st.list.length ≤ 10 := Nat.le_trans hIv.out.len hten
          have hIv2 := hwinv.out st hIv.out kq hkin hmk
          replace hfo2 := Lib.hid hfo2
          replace hmd := Lib.hid hmd
          replace hmk := Lib.hid hmk
          replace hkin := Lib.hid hkin
          replace hIv2 := Lib.hid hIv2
          go_wp2_with fail
          go_quiet (fail)
          go_wp2_with fail
          refine (hwant.out _ st kq _ F hl10 (hM.out.up (below_drewN (Below.refl _ _) nq))).mono ?_
          rintro e w6 ⟨⟨v6, rfl⟩, F6, hM6, t6⟩
          obtain ⟨k1, k2, k3, k4⟩ := turn_keep t6 rfl hsz (below_drewN hw.out nq) hF.out
          have hbx6 := k3.trans hbx.out
          replace hM6 := Lib.hid hM6
          replace k1 := Lib.hid k1
          replace k2 := Lib.hid k2
          replace hbx6 := Lib.hid hbx6
          clear t6 k3 z0 yk cm
          go_wp2_with fail
          go_roundw
          case rel => exact ⟨j + 1, _, F6, by omega, by go_num, hM6, k2, k1, k4, hbx6, hIv2, hfo2⟩
          case measure => simp [intOf]; omega
      · have hjl : keys.drop j = [] := List.drop_eq_nil_of_le (by omega)
        have hfo2 := hfo.out
        rw [hjl, List.foldl_nil] at hfo2
        subst hfo2
        replace hjl := Lib.hid hjl
        have hmf : wmoves S W0 moves = (moves.drop 0).foldl (moveP S) W0 := rfl
        replace hmf := Lib.hid hmf
        have hIm := hmvs.out W0 hIv.out
        replace hIm := Lib.hid hIm
        obtain ⟨w9, hw9⟩ : ∃ w9, w9 = wr := ⟨_, rfl⟩
        subst hw9
        clear z0 hfo hW0
        go_wp2_with fail
        go_loopw [12] (fun i wr => ∃ (j : Nat) (st : WSt) (F : Nat → Prop), j ≤ moves.length ∧ i = .int .i64 j ∧ Hid (SwI E S w4.heap.size st wr F) ∧ Hid (∀ i, F i → w.heap.size + 1 ≤ i) ∧ Hid (Below w.heap.size w wr) ∧ w.heap.size < wr.heap.size ∧
          Hid (WInv S all keys st) ∧ Hid (wmoves S W0 moves = (moves.drop j).foldl (moveP S) st)) (fun i _ => moves.length - (intOf i).toNat)
        case atStart => exact ⟨0, W0, F, Nat.zero_le _, rfl, hM, hF, hw, hsz, hIv, hmf⟩
        case round =>
          clear hM hF hw hsz hIv hbx
          obtain ⟨j2, st, F, hj2, rfl, hM, hF, hw, hsz, hIv, hfo⟩ := hrel
          by_cases hlt : j2 < moves.length
          · have hfo2 := hfo.out
            rw [List.drop_eq_getElem_cons hlt, List.foldl_cons] at hfo2
            obtain ⟨bk, ok, rfl, hbk, yk⟩ := hmov.out.at hw.out hw.out.size j2 hlt
            generalize moves[j2] = k at *
            have hwc := hmove.out _ st k wr F hIv.out hM.out
            have hIv2 := hminv.out st hIv.out k
            replace hfo2 := Lib.hid hfo2
            replace hwc := Lib.hid hwc
            replace hIv2 := Lib.hid hIv2
            go_wp2_with fail
            refine hwc.out.mono ?_
            rintro e w6 ⟨⟨v6, rfl⟩, F6, hM6, t6⟩
            obtain ⟨k1, k2, k3, k4⟩ := turn_keep t6 rfl hsz hw.out hF.out
            replace hM6 := Lib.hid hM6
            replace k1 := Lib.hid k1
            replace k2 := Lib.hid k2
            clear t6 k3 hwc yk
            go_wp2_with fail
            go_roundw
            case rel => exact ⟨j2 + 1, _, F6, by omega, by go_num, hM6, k2, k1, k4, hIv2, hfo2⟩
            case measure => simp [intOf]; omega
          · have hjl2 : moves.drop j2 = [] := List.drop_eq_nil_of_le (by omega)
            have hfo2 := hfo.out
            rw [hjl2, List.foldl_nil] at hfo2
            have hr2 := hr.out
            rw [hfo2] at hr2
            replace hr2 := Lib.hid hr2
            clear hfo2 hjl2 hfo
            go_wp2_with fail
            go_loopg [13] n0 (fun gk _ wr => ∃ (st : WSt) (F : Nat → Prop), gk ≤ n0 ∧ Hid (WRun S gk (st, none) fin) ∧ Hid (SwI E S w4.heap.size st wr F) ∧ Hid (∀ i, F i → w.heap.size + 1 ≤ i) ∧ Hid (Below w.heap.size w wr) ∧ w.heap.size < wr.heap.size ∧ Hid (WInv S all keys st))
            case atStart => exact ⟨st, F, Nat.le_refl _, hr2, hM, hF, hw, hsz, hIv⟩
            case round =>
              clear hM hF hw hsz hIv hr2
              obtain ⟨st, F, hgn, hr2, hM, hF, hw, hsz, hIv⟩ := hrel
              obtain ⟨vv, vl, vt, vo, vals, ts, hA, rfl, htl, hcc⟩ := hM.out
              obtain ⟨a0, a1, a2, a3, a4, a5, f3, f4, f5, hz⟩ := hA.cells
              obtain ⟨Al, cl, rfl, -, -, -⟩ := ownsRow_ints hA.list
              obtain ⟨Ao, co, rfl, -, -, -⟩ := ownsRow_ints hA.order
              replace htl := Lib.hid htl
              replace hcc := Lib.hid hcc
              replace hA := Lib.hid hA
              obtain ⟨w10, hw10⟩ : ∃ w10, w10 = wr := ⟨_, rfl⟩
              subst hw10
              cases gk with
              | zero =>
                obtain ⟨e1, e2⟩ := hr2.out
                have e3 : st = fin := (Prod.mk.inj e1).1
                have hle : ¬ st.order.length < st.list.length := by rw [e3]; omega
                replace e1 := Lib.hid e1
                replace e2 := Lib.hid e2
                replace e3 := Lib.hid e3
                go_wp2_with fail
                go_quiet (fail)
                go_wp2_with fail
                go_ret2
                rw [← e3.out]
                exact ⟨_, _, rfl, ⟨vv, _, vt, _, vals, ts, hA.out.up (below_drewN (Below.refl _ _) _), rfl, htl.out, hcc.out⟩, fun i hi => Nat.le_of_succ_le (hF.out i hi), below_drewN hw.out _⟩
              | succ n =>
                have hlt2 := hr2.out.1 rfl
                have hr3 := hr2.out.2
                have hr3' : WRun S n (st, some 0) fin := hr3
                dsimp only at hlt2
                replace hr3' := Lib.hid hr3'
                clear hr3
                go_wp2_with fail
                go_quiet (fail)
                go_wp2_with fail
                go_loopg [13] n (fun gk2 i wr => ∃ (i2 : Nat) (st : WSt) (F : Nat → Prop), gk2 ≤ n ∧ i = .int .i64 i2 ∧ Hid (WRun S gk2 (st, some i2) fin) ∧ Hid (SwI E S w4.heap.size st wr F) ∧ Hid (∀ i, F i → w.heap.size + 1 ≤ i) ∧ Hid (Below w.heap.size w wr) ∧ w.heap.size < wr.heap.size ∧ Hid (WInv S all keys st))
                case atStart => exact ⟨0, st, _, Nat.le_refl _, rfl, hr3', Lib.hid ⟨vv, _, vt, _, vals, ts, hA.out.up (below_drewN (Below.refl _ _) _), rfl, htl.out, hcc.out⟩, hF, Lib.hid (below_drewN hw.out _), hsz, hIv⟩
                case round =>
                  clear hM hF hw hsz hIv hr2 hr3' hA a0 a1 a2 a3 a4 a5 f3 f4 f5 hz htl hcc hlt2
                  obtain ⟨i2, st, F, hgn2, rfl, hr4, hM, hF, hw, hsz, hIv⟩ := hrel
                  obtain ⟨vv, vl, vt, vo, vals, ts, hA, rfl, htl, hcc⟩ := hM.out
                  obtain ⟨a0, a1, a2, a3, a4, a5, f3, f4, f5, hz⟩ := hA.cells
                  obtain ⟨Al, cl, rfl, -, -, -⟩ := ownsRow_ints hA.list
                  replace htl := Lib.hid htl
                  replace hcc := Lib.hid hcc
                  replace hA := Lib.hid hA
                  cases gk with
                  | zero => have := hr4.out.1; cases this
                  | succ n2 =>
                    have hr5 := hr4.out.2
                    have hi10 := hIv.out.len
                    by_cases hlt3 : i2 < st.list.length
                    · have hst : wstep S (st, some i2) = (moveP S st i2, some (i2 + 1)) := by simp [wstep, hlt3]
                      rw [hst] at hr5
                      have hwc := hmove.out _ st i2 wr _ hIv.out hM.out
                      have hIv2 := hminv.out st hIv.out i2
                      have hn2 : n2 ≤ n := by omega
                      replace hr5 := Lib.hid hr5
                      replace hst := Lib.hid hst
                      replace hwc := Lib.hid hwc
                      replace hIv2 := Lib.hid hIv2
                      go_wp2_with fail
                      refine hwc.out.mono ?_
                      rintro e w6 ⟨⟨v6, rfl⟩, F6, hM6, t6⟩
                      obtain ⟨k1, k2, k3, k4⟩ := turn_keep t6 rfl hsz hw.out hF.out
                      replace hM6 := Lib.hid hM6
                      replace k1 := Lib.hid k1
                      replace k2 := Lib.hid k2
                      clear t6 k3 hwc
                      go_wp2_with fail
                      go_roundg n2
                      case rel => exact ⟨i2 + 1, _, F6, hn2, by go_num, hr5, hM6, k2, k1, k4, hIv2⟩
                      case measure => omega
                    · have hst : wstep S (st, some i2) = (st, none) := by simp [wstep, hlt3]
                      rw [hst] at hr5
                      have hn2 : n2 ≤ n0 := by omega
                      replace hr5 := Lib.hid hr5
                      replace hst := Lib.hid hst
                      go_wp2_with fail
                      go_roundg n2
                      case rel => exact ⟨st, _, hn2, hr5, hM, hF, hw, hsz, hIv⟩
                      case measure => omega
end Go.Proofs.Ytpccgdkidnkppaa

set_option linter.unusedVariables false
set_option linter.unusedSimpArgs false
namespace Go.Proofs.Ytpccgdkidnkppaa
open Go Go.RowKit

set_option maxHeartbeats 2000000 in
theorem worked_bad (Am At Ai Ak Av : Option Addr) (cm ct ci ck cv : Nat) (moves : List Int) (made : List Bool) (tasks : List Task) (inputs keys : List Int) (B : Nat) (w0 : World) (w : World) (hs : SheetAt B w0 Am cm At ct made tasks) (hi : IntsAt B w0 Ai inputs) (hli : inputs.length ≤ maxLen) (hx : IntsAt B w0 Ak keys) (hm : keys.length ≤ maxLen) (hb : Below B w0 w) (hB : B ≤ w.heap.size) (hbad : safeP made tasks = true → takesOk made.length inputs = true → keysOk made.length keys = false) :
    Calls Try.prog 104 #[.agg #[.slice Am made.length cm, .slice At tasks.length ct], .slice Ai inputs.length ci, .slice Ak keys.length ck, .slice Av moves.length cv] w fun e w' => e = .returned (.tuple #[.pointer none, .bool false]) ∧ Below w.heap.size w w' := by
  have hc1 := fun w1 (hw : Below w.heap.size w w1) => sheetSafe_calls Am At cm ct made tasks B w0 w1 (below_up' hb hB hw) (Nat.le_trans hB hw.size) hs
  have hc2 := fun w1 (hw : Below w.heap.size w w1) => takes_calls Am At Ai made.length cm tasks.length ct ci inputs B w0 w1 (below_up' hb hB hw) (Nat.le_trans hB hw.size) hli hi
  have hc3 := fun w1 (hw : Below w.heap.size w w1) => all_calls Am At Ak made.length cm tasks.length ct ck keys B w0 w1 (below_up' hb hB hw) (Nat.le_trans hB hw.size) hm hx
  generalize safeP made tasks = d1 at *
  generalize takesOk made.length inputs = d2 at *
  generalize keysOk made.length keys = d3 at *
  clear hs hb
  cases d1 with
  | false =>
    clear hbad
    replace hc1 := Lib.hid hc1
    clear hc2
    clear hc3
    go_enter Try.func104, Try.ntmps104
    go_wp2_with fail
    refine (hc1.out _ (below_al (Below.refl _ _) _)).mono ?_
    rintro e w1 ⟨rfl, h1⟩
    have b1 := below_from h1
    have s1 : w.heap.size < w1.heap.size := by have := h1.size; simp at this; omega
    replace b1 := Lib.hid b1
    clear h1
    go_wp2_with fail
    go_ret2
    exact ⟨rfl, b1.out⟩
  | true =>
    replace hbad := hbad rfl
    cases d2 with
    | false =>
      clear hbad
      replace hc1 := Lib.hid hc1
      replace hc2 := Lib.hid hc2
      clear hc3
      go_enter Try.func104, Try.ntmps104
      go_wp2_with fail
      refine (hc1.out _ (below_al (Below.refl _ _) _)).mono ?_
      rintro e w1 ⟨rfl, h1⟩
      have b1 := below_from h1
      have s1 : w.heap.size < w1.heap.size := by have := h1.size; simp at this; omega
      have x0_1 : w1.cell? ⟨w.heap.size, 0, none⟩ = some (.slice Am made.length cm) := (h1.cell (p := ⟨w.heap.size, 0, none⟩) (by simp)).trans (by simp)
      have x1_1 : w1.cell? ⟨w.heap.size, 1, none⟩ = some (.slice At tasks.length ct) := (h1.cell (p := ⟨w.heap.size, 1, none⟩) (by simp)).trans (by simp)
      replace b1 := Lib.hid b1
      clear h1
      go_wp2_with fail
      refine (hc2.out _ b1.out).mono ?_
      rintro e w2 ⟨rfl, h2⟩
      have b2 := below_up b1.out h2
      clear x0_1 x1_1
      replace b2 := Lib.hid b2
      clear h2
      go_wp2_with fail
      go_ret2
      exact ⟨rfl, b2.out⟩
    | true =>
      replace hbad := hbad rfl
      subst hbad
      replace hc1 := Lib.hid hc1
      replace hc2 := Lib.hid hc2
      replace hc3 := Lib.hid hc3
      go_enter Try.func104, Try.ntmps104
      go_wp2_with fail
      refine (hc1.out _ (below_al (Below.refl _ _) _)).mono ?_
      rintro e w1 ⟨rfl, h1⟩
      have b1 := below_from h1
      have s1 : w.heap.size < w1.heap.size := by have := h1.size; simp at this; omega
      have x0_1 : w1.cell? ⟨w.heap.size, 0, none⟩ = some (.slice Am made.length cm) := (h1.cell (p := ⟨w.heap.size, 0, none⟩) (by simp)).trans (by simp)
      have x1_1 : w1.cell? ⟨w.heap.size, 1, none⟩ = some (.slice At tasks.length ct) := (h1.cell (p := ⟨w.heap.size, 1, none⟩) (by simp)).trans (by simp)
      replace b1 := Lib.hid b1
      clear h1
      go_wp2_with fail
      refine (hc2.out _ b1.out).mono ?_
      rintro e w2 ⟨rfl, h2⟩
      have b2 := below_up b1.out h2
      have x0_2 := kept_cell h2 s1 x0_1
      have x1_2 := kept_cell h2 s1 x1_1
      have s2 : w.heap.size < w2.heap.size := by have := h2.size; omega
      clear x0_1 x1_1
      replace b2 := Lib.hid b2
      clear h2
      go_wp2_with fail
      refine (hc3.out _ b2.out).mono ?_
      rintro e w3 ⟨rfl, h3⟩
      have b3 := below_up b2.out h3
      clear x0_2 x1_2
      replace b3 := Lib.hid b3
      clear h3
      go_wp2_with fail
      go_ret2
      exact ⟨rfl, b3.out⟩

set_option maxHeartbeats 2000000 in
theorem worked_many (Am At Ai Ak Av : Option Addr) (cm ct ci ck cv : Nat) (moves : List Int) (made : List Bool) (tasks : List Task) (inputs keys : List Int) (B : Nat) (w0 : World) (w : World) (hs : SheetAt B w0 Am cm At ct made tasks) (hi : IntsAt B w0 Ai inputs) (hli : inputs.length ≤ maxLen) (hx : IntsAt B w0 Ak keys) (hm : keys.length ≤ maxLen) (hb : Below B w0 w) (hB : B ≤ w.heap.size) (hmm : 60 < moves.length) (h1 : safeP made tasks = true) (h2 : takesOk made.length inputs = true) (h3 : keysOk made.length keys = true) :
    Calls Try.prog 104 #[.agg #[.slice Am made.length cm, .slice At tasks.length ct], .slice Ai inputs.length ci, .slice Ak keys.length ck, .slice Av moves.length cv] w fun e w' => e = .returned (.tuple #[.pointer none, .bool false]) ∧ Below w.heap.size w w' := by
  have hc1 := fun w1 (hw : Below w.heap.size w w1) => sheetSafe_calls Am At cm ct made tasks B w0 w1 (below_up' hb hB hw) (Nat.le_trans hB hw.size) hs
  have hc2 := fun w1 (hw : Below w.heap.size w w1) => takes_calls Am At Ai made.length cm tasks.length ct ci inputs B w0 w1 (below_up' hb hB hw) (Nat.le_trans hB hw.size) hli hi
  have hc3 := fun w1 (hw : Below w.heap.size w w1) => all_calls Am At Ak made.length cm tasks.length ct ck keys B w0 w1 (below_up' hb hB hw) (Nat.le_trans hB hw.size) hm hx
  rw [h1] at hc1
  rw [h2] at hc2
  rw [h3] at hc3
  clear hs hb
  replace hc1 := Lib.hid hc1
  replace hc2 := Lib.hid hc2
  replace hc3 := Lib.hid hc3
  go_enter Try.func104, Try.ntmps104
  go_wp2_with fail
  refine (hc1.out _ (below_al (Below.refl _ _) _)).mono ?_
  rintro e w1 ⟨rfl, h1⟩
  have b1 := below_from h1
  have s1 : w.heap.size < w1.heap.size := by have := h1.size; simp at this; omega
  have x0_1 : w1.cell? ⟨w.heap.size, 0, none⟩ = some (.slice Am made.length cm) := (h1.cell (p := ⟨w.heap.size, 0, none⟩) (by simp)).trans (by simp)
  have x1_1 : w1.cell? ⟨w.heap.size, 1, none⟩ = some (.slice At tasks.length ct) := (h1.cell (p := ⟨w.heap.size, 1, none⟩) (by simp)).trans (by simp)
  replace b1 := Lib.hid b1
  clear h1
  go_wp2_with fail
  refine (hc2.out _ b1.out).mono ?_
  rintro e w2 ⟨rfl, h2⟩
  have b2 := below_up b1.out h2
  have x0_2 := kept_cell h2 s1 x0_1
  have x1_2 := kept_cell h2 s1 x1_1
  have s2 : w.heap.size < w2.heap.size := by have := h2.size; omega
  clear x0_1 x1_1
  replace b2 := Lib.hid b2
  clear h2
  go_wp2_with fail
  refine (hc3.out _ b2.out).mono ?_
  rintro e w3 ⟨rfl, h3⟩
  have b3 := below_up b2.out h3
  clear x0_2 x1_2
  replace b3 := Lib.hid b3
  clear h3
  go_wp2_with fail
  go_ret2
  exact ⟨rfl, b3.out⟩

set_option maxHeartbeats 2000000 in
theorem l10All_bad (Am At Ai Ak Av : Option Addr) (cm ct ci ck cv : Nat) (moves : List Int) (made : List Bool) (tasks : List Task) (inputs keys : List Int) (B : Nat) (w0 : World) (w : World) (hs : SheetAt B w0 Am cm At ct made tasks) (hi : IntsAt B w0 Ai inputs) (hli : inputs.length ≤ maxLen) (hx : IntsAt B w0 Ak keys) (hm : keys.length ≤ maxLen) (hb : Below B w0 w) (hB : B ≤ w.heap.size) (hnod : ∀ T ∈ tasks, nodes T ≤ 1000000000) (hml : (made.length : Int) ≤ 9223372036854775807) (hmm : moves.length ≤ 60) (hbad : inputsOk made tasks inputs = true → (keysOk made.length keys && sheetOk made tasks) = true → safeP made tasks = false) :
    Calls Try.prog 105 #[.agg #[.slice Am made.length cm, .slice At tasks.length ct], .slice Ai inputs.length ci, .slice Ak keys.length ck, .slice Av moves.length cv] w fun e w' => e = .returned (.tuple #[.pointer none, .bool false]) ∧ Below w.heap.size w w' := by
  have hc1 := fun w1 (hw : Below w.heap.size w w1) => l3Inputs_calls Am At Ai cm ct ci made tasks inputs B w0 w1 (below_up' hb hB hw) (Nat.le_trans hB hw.size) hs hnod hli hi
  have hc2 := fun w1 (hw : Below w.heap.size w w1) => l4Keys_calls Am At Ak cm ct ck made tasks keys B w0 w1 (below_up' hb hB hw) (Nat.le_trans hB hw.size) hs hnod hml hm hx
  have hc3 := fun w1 (hw : Below w.heap.size w w1) => specSheetSafe_calls Am At cm ct made tasks B w0 w1 (below_up' hb hB hw) (Nat.le_trans hB hw.size) hs hnod
  generalize inputsOk made tasks inputs = d1 at *
  generalize (keysOk made.length keys && sheetOk made tasks) = d2 at *
  generalize safeP made tasks = d3 at *
  clear hs hb
  cases d1 with
  | false =>
    clear hbad
    replace hc1 := Lib.hid hc1
    clear hc2
    clear hc3
    go_enter Try.func105, Try.ntmps105
    go_wp2_with fail
    refine (hc1.out _ (below_al (Below.refl _ _) _)).mono ?_
    rintro e w1 ⟨rfl, h1⟩
    have b1 := below_from h1
    have s1 : w.heap.size < w1.heap.size := by have := h1.size; simp at this; omega
    replace b1 := Lib.hid b1
    clear h1
    go_wp2_with fail
    go_ret2
    exact ⟨rfl, b1.out⟩
  | true =>
    replace hbad := hbad rfl
    cases d2 with
    | false =>
      clear hbad
      replace hc1 := Lib.hid hc1
      replace hc2 := Lib.hid hc2
      clear hc3
      go_enter Try.func105, Try.ntmps105
      go_wp2_with fail
      refine (hc1.out _ (below_al (Below.refl _ _) _)).mono ?_
      rintro e w1 ⟨rfl, h1⟩
      have b1 := below_from h1
      have s1 : w.heap.size < w1.heap.size := by have := h1.size; simp at this; omega
      have x0_1 : w1.cell? ⟨w.heap.size, 0, none⟩ = some (.slice Am made.length cm) := (h1.cell (p := ⟨w.heap.size, 0, none⟩) (by simp)).trans (by simp)
      have x1_1 : w1.cell? ⟨w.heap.size, 1, none⟩ = some (.slice At tasks.length ct) := (h1.cell (p := ⟨w.heap.size, 1, none⟩) (by simp)).trans (by simp)
      replace b1 := Lib.hid b1
      clear h1
      go_wp2_with fail
      refine (hc2.out _ b1.out).mono ?_
      rintro e w2 ⟨rfl, h2⟩
      have b2 := below_up b1.out h2
      clear x0_1 x1_1
      replace b2 := Lib.hid b2
      clear h2
      go_wp2_with fail
      go_ret2
      exact ⟨rfl, b2.out⟩
    | true =>
      replace hbad := hbad rfl
      subst hbad
      replace hc1 := Lib.hid hc1
      replace hc2 := Lib.hid hc2
      replace hc3 := Lib.hid hc3
      go_enter Try.func105, Try.ntmps105
      go_wp2_with fail
      refine (hc1.out _ (below_al (Below.refl _ _) _)).mono ?_
      rintro e w1 ⟨rfl, h1⟩
      have b1 := below_from h1
      have s1 : w.heap.size < w1.heap.size := by have := h1.size; simp at this; omega
      have x0_1 : w1.cell? ⟨w.heap.size, 0, none⟩ = some (.slice Am made.length cm) := (h1.cell (p := ⟨w.heap.size, 0, none⟩) (by simp)).trans (by simp)
      have x1_1 : w1.cell? ⟨w.heap.size, 1, none⟩ = some (.slice At tasks.length ct) := (h1.cell (p := ⟨w.heap.size, 1, none⟩) (by simp)).trans (by simp)
      replace b1 := Lib.hid b1
      clear h1
      go_wp2_with fail
      refine (hc2.out _ b1.out).mono ?_
      rintro e w2 ⟨rfl, h2⟩
      have b2 := below_up b1.out h2
      have x0_2 := kept_cell h2 s1 x0_1
      have x1_2 := kept_cell h2 s1 x1_1
      have s2 : w.heap.size < w2.heap.size := by have := h2.size; omega
      clear x0_1 x1_1
      replace b2 := Lib.hid b2
      clear h2
      go_wp2_with fail
      refine (hc3.out _ b2.out).mono ?_
      rintro e w3 ⟨rfl, h3⟩
      have b3 := below_up b2.out h3
      clear x0_2 x1_2
      replace b3 := Lib.hid b3
      clear h3
      go_wp2_with fail
      go_ret2
      exact ⟨rfl, b3.out⟩

theorem l10All_many (Am At Ai Ak Av : Option Addr) (cm ct ci ck cv nt nk ni nm : Nat) (moves : List Int) (w : World) (hmm : 60 < moves.length) :
    Calls Try.prog 105 #[.agg #[.slice Am nm cm, .slice At nt ct], .slice Ai ni ci, .slice Ak nk ck, .slice Av moves.length cv] w fun e w' => e = .returned (.tuple #[.pointer none, .bool false]) ∧ Below w.heap.size w w' := by
  go_enter Try.func105, Try.ntmps105
  go_wp2_with fail
  go_ret2
  exact ⟨rfl, below_al (Below.refl _ _) _⟩
end Go.Proofs.Ytpccgdkidnkppaa

set_option linter.unusedVariables false
set_option linter.unusedSimpArgs false
namespace Go.Proofs.Ytpccgdkidnkppaa
open Go Go.RowKit

/-- at the end each key has its value -/
structure FinOk (S : Sh) (all keys : List Int) (fin : WSt) : Prop where
  hall : buildAllP S = (all, true)
  inv : WInv S all keys fin
  has : ∀ k ∈ keys, mkK S.made k = true → fin.kn k = some (atK all k)
theorem fin_ok {S : Sh} {all keys : List Int} {fin : WSt} (hall : buildAllP S = (all, true)) (h : WInv S all keys fin) (hm : ∀ x, x ∈ fin.list ↔ Reach (mkK S.made) (usesS S all) keys x) (ho : ∀ x ∈ fin.list, x ∈ fin.order) : FinOk S all keys fin := by
  refine ⟨hall, h, fun k hk hmk => ?_⟩
  have h1 := (h.has k).1 (ho k ((hm k).2 (.here k hk hmk)))
  cases e : fin.kn k with
  | none => exact (h1 e).elim
  | some v => rw [(h.snd k v e).2]
theorem WkI.up {E : MkEnv} {S : Sh} {m M : Nat} {st : WSt} {w w' : World} {F : Nat → Prop} (h : WkI E S m M st w F) (hb : Below w.heap.size w w') : WkI E S m M st w' F := by
  obtain ⟨c, vl, vt, vo, ts, hA, h1, h2, h3⟩ := h
  exact ⟨c, vl, vt, vo, ts, hA.up hb, h1, h2, h3⟩

set_option maxRecDepth 5000 in
set_option maxHeartbeats 8000000 in
theorem workValues_good (E : MkEnv) (S : Sh) (hE : E.Good S) (all : List Int) (Ak Av : Option Addr) (ck cv : Nat) (keys moves : List Int) (w : World) (hb : Below E.B E.w0 w) (hB : E.B ≤ w.heap.size) (hk : keysOk S.made.length keys = true) (hx : IntsAt E.B E.w0 Ak keys) (hm : keys.length ≤ 1000)
    (fin : WSt) (hfin : FinOk S all keys fin)
    (hwk : ∀ w1, Below w.heap.size w w1 → Calls Try.prog 104 #[.agg #[.slice E.Am S.made.length E.cm, .slice E.At S.tks.length E.ct], .slice E.Ai S.inputs.length E.ci, .slice Ak keys.length ck, .slice Av moves.length cv] w1 (WorkedP E S fin w1)) :
    Calls Try.prog 46 #[.agg #[.slice E.Am S.made.length E.cm, .slice E.At S.tks.length E.ct], .slice E.Ai S.inputs.length E.ci, .slice Ak keys.length ck, .slice Av moves.length cv] w fun e w' => GivesList (keys.map (atK all), true) e w w' := by
  have hten := hE.ok.ten
  obtain ⟨L, hL⟩ : ∃ L, keys.map (atK all) = L := ⟨_, rfl⟩
  have hLl : L.length = keys.length := by rw [← hL]; simp
  have hLg : ∀ j (h : j < keys.length), L.take (j + 1) = L.take j ++ [atK all keys[j]] := fun j h => by
    rw [List.take_succ_eq_append_getElem (by omega)]
    subst hL
    simp
  rw [hL]
  replace hL := Lib.hid hL
  replace hLl := Lib.hid hLl
  replace hLg := Lib.hid hLg
  have hmade : BoolsAt w.heap.size w E.Am S.made := hE.sheet.made.up hb hB
  have hinp : IntsAt w.heap.size w E.Ai S.inputs := hE.ins.up hb hB
  have hkey : IntsAt w.heap.size w Ak keys := hx.up hb hB
  have hml : S.made.length ≤ E.cm := hE.sheet.lm
  have hmmx : E.cm ≤ maxLen := hE.sheet.mm
  have hil : S.inputs.length = S.made.length := hE.ok.ins
  have hic : S.inputs.length ≤ E.ci := hE.li
  have him : E.ci ≤ maxLen := hE.mi
  unfold maxLen at hmmx him
  have hrg := keysOk_iff.1 hk
  have hun := fun k (h : mkK S.made k = false) => all_unmade hE.ok hfin.hall h
  replace hwk := Lib.hid hwk
  replace hmade := Lib.hid hmade
  replace hinp := Lib.hid hinp
  replace hkey := Lib.hid hkey
  replace hrg := Lib.hid hrg
  replace hil := Lib.hid hil
  replace hun := Lib.hid hun
  replace hfin := Lib.hid hfin
  clear hk hb hx hE
  go_enter Try.func46, Try.ntmps46
  go_wp2_with fail
  refine (hwk.out _ (below_al (Below.refl _ _) _)).mono ?_
  rintro e w1 ⟨m, M, F, rfl, hM, hF, h1⟩
  have x0 : w1.cell? ⟨w.heap.size, 0, none⟩ = some (.slice E.Am S.made.length E.cm) := (h1.cell (p := ⟨w.heap.size, 0, none⟩) (by simp)).trans (by simp)
  have b1 := below_from h1
  have s1 : w.heap.size < w1.heap.size := by have := h1.size; simp at this; omega
  obtain ⟨c, vl, vt, vo, ts, hA, rfl, -, -⟩ := hM
  have hVM := hA.built
  have hm1 := hA.lt
  have x5 : w1.cell? ⟨m, 5, none⟩ = some (.map (some M)) := hA.cells.2.2.2.2.2.1
  replace b1 := Lib.hid b1
  replace hVM := Lib.hid hVM
  clear h1 hA hF
  go_wp2_with fail
  go_loopw [12, 27] (fun o i wr => ∃ (j : Nat), j ≤ keys.length ∧ i = .int .i64 j ∧ Hid (wr.ownsRow w1.heap.size 3 1 o j (ints (L.take j))) ∧ Hid (Below w1.heap.size w1 wr)) (fun _ i _ => keys.length - (intOf i).toNat)
  case atStart => exact ⟨0, Nat.zero_le _, rfl, Lib.hid (by simpa [ints] using World.ownsRow_nil _ _ _ _), Lib.hid (Below.refl _ _)⟩
  case round =>
    obtain ⟨j, hj, rfl, ho, hw⟩ := hrel
    have hwz := hw.out.size
    have hww := b1.out.trans (hw.out.mono b1.out.size)
    have z0 := (hw.out.cell (p := ⟨w.heap.size, 0, none⟩) s1).trans x0
    have z5 := (hw.out.cell (p := ⟨m, 5, none⟩) hm1).trans x5
    replace hww := Lib.hid hww
    by_cases hlt : j < keys.length
    · have hkin := List.getElem_mem hlt
      have hkr := hrg.out _ hkin
      have htk := hLg.out j hlt
      obtain ⟨bk, ok, rfl, hbk, yk⟩ := hkey.out.at hww.out hww.out.size j hlt
      have hlj : (L.take j).length = j := by have := hLl.out; rw [List.length_take]; omega
      generalize keys[j] = k at *
      obtain ⟨kq, rfl⟩ := Int.eq_ofNat_of_zero_le hkr.1
      have hkq : kq < S.made.length := by omega
      have hkw : (Lit.int .i64 (kq : Int)).wf = true := wf_small (by omega) (by omega)
      obtain ⟨bm, om, em, hbm, cm⟩ := hmade.out.at hww.out hww.out.size kq hkq
      obtain ⟨bi, oi, ei, hbi, ci⟩ := hinp.out.at hww.out hww.out.size kq (by have := hil.out; omega)
      have hmkk : mkK S.made kq = S.made[kq] := by unfold mkK; rw [if_neg (by omega)]; exact getD_at _ _
      obtain ⟨Ao, co, rfl, -, -⟩ := ownsRow_cells ho.out
      rw [em] at z0
      replace hmkk := Lib.hid hmkk
      replace em := Lib.hid em
      replace htk := Lib.hid htk
      replace hlj := Lib.hid hlj
      have hM2 := hVM.out.block (hw.out.block _ hVM.out.lt)
      replace hM2 := Lib.hid hM2
      cases hmd : S.made[kq] with
      | false =>
        have hmk : mkK S.made kq = false := by rw [hmkk.out, hmd]
        have hval : atK all kq = S.inputs[kq]'(by have := hil.out; omega) := by rw [hun.out _ hmk, atK_in (by have := hil.out; omega)]
        rw [hmd] at cm
        rw [← hval] at ci
        obtain ⟨Ai, hAi⟩ : ∃ Ai, E.Ai = Ai := ⟨_, rfl⟩
        rw [hAi] at ei ⊢
        subst ei
        have hi1 : kq < S.inputs.length := by have := hil.out; omega
        generalize atK all kq = x at *
        replace hval := Lib.hid hval
        replace hmd := Lib.hid hmd
        replace hmk := Lib.hid hmk
        replace hkin := Lib.hid hkin
        replace hAi := Lib.hid hAi
        go_wp2_with (at_builtin; go_loud (with_reducible refine wpList_app1 (by rfl) (.tmp 45) (.tmp 50) 26 (by rfl) intTy w1.heap.size (.slice Ao j co) j (ints (L.take j)) (by with_unfolding_all rfl) (ho.out.alloc _) wr.heap.size 1 [.int .i64 x] (by with_unfolding_all rfl) (by with_unfolding_all rfl) ⟨_, _, heap_alloc_new wr _, rfl⟩ (one_int _ _) ?_ ?_ ?_ ?_))
        · unfold maxLen; omega
        · omega
        · first | omega | (simp; omega)
        intro g5 cap5 w5 hown5 hgrow5 hat5
        have hw5 : Below w1.heap.size w1 w5 := (below_al' hw.out _ hw.out.size).grown hgrow5 (by simp; omega) (fun k hk => (ho.out.lt k hk).1)
        have ho5 : w5.ownsRow w1.heap.size 3 1 (.slice (some ⟨g5, 0, none⟩) (j + 1) cap5) (j + 1) (ints (L.take (j + 1))) := by rw [htk.out, ints_append]; exact hown5
        replace hw5 := Lib.hid hw5
        replace ho5 := Lib.hid ho5
        clear hown5 hgrow5 hat5
        go_wp2_with fail
        go_roundw
        case rel => exact ⟨j + 1, by omega, by go_num, ho5, hw5⟩
        case measure => simp [intOf]; omega
      | true =>
        have hmk : mkK S.made kq = true := by rw [hmkk.out, hmd]
        have hkn := hfin.out.has kq hkin hmk
        have hg2 : (knV fin.kn (kq : Int)).getD (.int .i64 0) = .int .i64 (atK all kq) := by simp [knV, hkn]
        rw [hmd] at cm
        generalize atK all kq = x at *
        replace hmd := Lib.hid hmd
        replace hmk := Lib.hid hmk
        replace hkin := Lib.hid hkin
        replace hkn := Lib.hid hkn
        clear ci ei
        go_wp2_with (first
          | (with_reducible refine wpList_vget (by rfl) (.tmp 40) (.tmp 41) 99 (by rfl) intMapTy M c (knV fin.kn) (by with_unfolding_all rfl) hM2.out kq (by with_unfolding_all rfl) hkw ?_)
          | (at_builtin; go_loud (with_reducible refine wpList_app1 (by rfl) (.tmp 36) (.tmp 43) 26 (by rfl) intTy w1.heap.size (.slice Ao j co) j (ints (L.take j)) (by with_unfolding_all rfl) (ho.out.alloc _) wr.heap.size 1 [.int .i64 x] (by with_unfolding_all rfl) (by with_unfolding_all rfl) ⟨_, _, heap_alloc_new wr _, rfl⟩ (one_int _ _) ?_ ?_ ?_ ?_)))
        · unfold maxLen; omega
        · omega
        · first | omega | (simp; omega)
        intro g5 cap5 w5 hown5 hgrow5 hat5
        have hw5 : Below w1.heap.size w1 w5 := (below_al' hw.out _ hw.out.size).grown hgrow5 (by simp; omega) (fun k hk => (ho.out.lt k hk).1)
        have ho5 : w5.ownsRow w1.heap.size 3 1 (.slice (some ⟨g5, 0, none⟩) (j + 1) cap5) (j + 1) (ints (L.take (j + 1))) := by rw [htk.out, ints_append]; exact hown5
        replace hw5 := Lib.hid hw5
        replace ho5 := Lib.hid ho5
        clear hown5 hgrow5 hat5
        go_wp2_with fail
        go_roundw
        case rel => exact ⟨j + 1, by omega, by go_num, ho5, hw5⟩
        case measure => simp [intOf]; omega
    · have hje : j = keys.length := by omega
      subst hje
      have ho2 := ho.out
      rw [← hLl.out, List.take_length] at ho2
      have hfo : wr.ownsRow w1.heap.size 3 1 u12 L.length (ints L) := ho2
      have hl := (show GivesOwn w1.heap.size (L, true) (.returned (.tuple #[u12, .bool true])) w wr from ⟨_, rfl, hfo, hww.out⟩).list
      replace hl := Lib.hid hl
      clear ho2 hfo
      go_wp2_with fail
      go_ret2
      exact hl.out
end Go.Proofs.Ytpccgdkidnkppaa

set_option linter.unusedVariables false
set_option linter.unusedSimpArgs false
namespace Go.Proofs.Ytpccgdkidnkppaa
open Go Go.RowKit

set_option maxHeartbeats 4000000 in
theorem workWanted_good (E : MkEnv) (S : Sh) (Ak Av : Option Addr) (ck cv : Nat) (keys moves : List Int) (w : World) (fin : WSt)
    (hwk : ∀ w1, Below w.heap.size w w1 → Calls Try.prog 104 #[.agg #[.slice E.Am S.made.length E.cm, .slice E.At S.tks.length E.ct], .slice E.Ai S.inputs.length E.ci, .slice Ak keys.length ck, .slice Av moves.length cv] w1 (WorkedP E S fin w1)) :
    Calls Try.prog 50 #[.agg #[.slice E.Am S.made.length E.cm, .slice E.At S.tks.length E.ct], .slice E.Ai S.inputs.length E.ci, .slice Ak keys.length ck, .slice Av moves.length cv] w fun e w' => GivesList (fin.list, true) e w w' := by
  replace hwk := Lib.hid hwk
  go_enter Try.func50, Try.ntmps50
  go_wp2_with fail
  refine (hwk.out _ (below_al (Below.refl _ _) _)).mono ?_
  rintro e w1 ⟨m, M, F, rfl, hM, hF, h1⟩
  have b1 := below_from h1
  obtain ⟨c, vl, vt, vo, ts, hA, rfl, -, -⟩ := hM
  have hm1 := hA.lt
  have x3 : w1.cell? ⟨m, 3, none⟩ = some vl := hA.cells.2.2.2.1
  have hl := (show GivesOwn E.B (fin.list, true) (.returned (.tuple #[vl, .bool true])) w w1 from ⟨_, rfl, hA.list, b1⟩).list
  replace hl := Lib.hid hl
  clear h1 hA hF b1
  go_wp2_with fail
  go_ret2
  exact hl.out

set_option maxHeartbeats 4000000 in
theorem specWorkWanted_good (E : MkEnv) (S : Sh) (hE : E.Good S) (Ak Av : Option Addr) (ck cv : Nat) (keys moves : List Int) (w : World) (fin : WSt) (hfl : fin.list.length ≤ 10)
    (hwk : ∀ w1, Below w.heap.size w w1 → Calls Try.prog 105 #[.agg #[.slice E.Am S.made.length E.cm, .slice E.At S.tks.length E.ct], .slice E.Ai S.inputs.length E.ci, .slice Ak keys.length ck, .slice Av moves.length cv] w1 (SWorkedP E S fin w1)) :
    Calls Try.prog 51 #[.agg #[.slice E.Am S.made.length E.cm, .slice E.At S.tks.length E.ct], .slice E.Ai S.inputs.length E.ci, .slice Ak keys.length ck, .slice Av moves.length cv] w fun e w' => GivesList (fin.list, true) e w w' := by
  replace hwk := Lib.hid hwk
  clear hE
  go_enter Try.func51, Try.ntmps51
  go_wp2_with fail
  refine (hwk.out _ (below_al (Below.refl _ _) _)).mono ?_
  rintro e w1 ⟨m, F, rfl, hM, hF, h1⟩
  have b1 := below_from h1
  obtain ⟨vv, vl, vt, vo, vals, ts, hA, rfl, -, -⟩ := hM
  have hm1 := hA.lt
  obtain ⟨Al, cl, evl, hl1, hl2, hl3⟩ := ownsRow_ints hA.list
  have x3 : w1.cell? ⟨m, 3, none⟩ = some vl := hA.cells.2.2.2.1
  subst evl
  replace b1 := Lib.hid b1
  replace hl3 := Lib.hid hl3
  clear h1 hA hF
  go_wp2_with (at_builtin; go_loud (with_reducible refine wpList_appI (by rfl) (.tmp 23) (.tmp 27) (by rfl) intTy (base := w1.heap.size) (v := .slice (some ⟨w1.heap.size, 0, none⟩) 0 0) (n := 0) (xs := []) (ys := fin.list) (by with_unfolding_all rfl) (World.ownsRow_made (base := w1.heap.size) w1 #[] 0 (Nat.le_refl _) (by simp [maxLen]) rfl) (by with_unfolding_all rfl) hl3.out (below_al (Below.refl _ _) _) (by simp) ?_ ?_ (by simp) ?_))
  · unfold maxLen; omega
  · omega
  intro v4 w4 hown hgrow hat
  have hown' : w4.ownsRow w1.heap.size 3 1 v4 fin.list.length (ints fin.list) := by have := hown; simpa using this
  have b4 : Below w.heap.size w w4 := b1.out.trans (((below_al (Below.refl _ _) _).grown hgrow (by simp) (fun k hk => by cases hk; exact Nat.le_refl _)).mono b1.out.size)
  have hfin := (show GivesOwn w1.heap.size (fin.list, true) (.returned (.tuple #[v4, .bool true])) w w4 from ⟨_, rfl, hown', b4⟩).list
  replace hfin := Lib.hid hfin
  clear hown hgrow hat hown' b4
  go_wp2_with fail
  go_ret2
  exact hfin.out

set_option maxRecDepth 5000 in
set_option maxHeartbeats 8000000 in
theorem specWorkValues_good (E : MkEnv) (S : Sh) (hE : E.Good S) (all : List Int) (Ak Av : Option Addr) (ck cv : Nat) (keys moves : List Int) (w : World) (hb : Below E.B E.w0 w) (hB : E.B ≤ w.heap.size) (hk : keysOk S.made.length keys = true) (hx : IntsAt E.B E.w0 Ak keys) (hm : keys.length ≤ 1000)
    (fin : WSt) (hfin : FinOk S all keys fin)
    (hwk : ∀ w1, Below w.heap.size w w1 → Calls Try.prog 105 #[.agg #[.slice E.Am S.made.length E.cm, .slice E.At S.tks.length E.ct], .slice E.Ai S.inputs.length E.ci, .slice Ak keys.length ck, .slice Av moves.length cv] w1 (SWorkedP E S fin w1)) :
    Calls Try.prog 47 #[.agg #[.slice E.Am S.made.length E.cm, .slice E.At S.tks.length E.ct], .slice E.Ai S.inputs.length E.ci, .slice Ak keys.length ck, .slice Av moves.length cv] w fun e w' => GivesList (keys.map (atK all), true) e w w' := by
  have hten := hE.ok.ten
  obtain ⟨L, hL⟩ : ∃ L, keys.map (atK all) = L := ⟨_, rfl⟩
  have hLl : L.length = keys.length := by rw [← hL]; simp
  have hLg : ∀ j (h : j < keys.length), L.take (j + 1) = L.take j ++ [atK all keys[j]] := fun j h => by
    rw [List.take_succ_eq_append_getElem (by omega)]
    subst hL
    simp
  rw [hL]
  replace hL := Lib.hid hL
  replace hLl := Lib.hid hLl
  replace hLg := Lib.hid hLg
  have hkey : IntsAt w.heap.size w Ak keys := hx.up hb hB
  have hrg := keysOk_iff.1 hk
  have hval : ∀ (vals : List Int), SRel S fin.kn vals fin.order → ∀ k ∈ keys, atK vals k = atK all k := fun vals h k hk => by
    cases hm : mkK S.made k with
    | false => rw [h.un k hm, all_unmade hE.ok hfin.hall hm]
    | true =>
      have h1 := h.made k hm
      rw [hfin.has k hk hm] at h1
      split at h1
      · exact (Option.some.inj h1).symm
      · cases h1
  replace hwk := Lib.hid hwk
  replace hkey := Lib.hid hkey
  replace hrg := Lib.hid hrg
  replace hval := Lib.hid hval
  replace hfin := Lib.hid hfin
  clear hk hb hx hE
  go_enter Try.func47, Try.ntmps47
  go_wp2_with fail
  refine (hwk.out _ (below_al (below_al (Below.refl _ _) _) _)).mono ?_
  rintro e w1 ⟨m, F, rfl, hM, hF, h1⟩
  have b1 : Below w.heap.size w w1 := (below_al (below_al (Below.refl _ _) _) _).trans (h1.mono (by simp; omega))
  have s1 : w.heap.size + 1 < w1.heap.size := by have := h1.size; simp at this; omega
  have ho1 : w1.ownsRow (w.heap.size + 1) 3 1 (.slice (some ⟨w.heap.size + 1, 0, none⟩) 0 0) 0 [] := ownsRow_block (by simpa using World.ownsRow_made (base := w.heap.size + 1) (w.alloc (.cells #[.slice E.Am S.made.length E.cm, .slice E.At S.tks.length E.ct] 31 (0, 0))) #[] 0 (by simp) (by simp [maxLen]) rfl) (fun i hi => h1.block i (by simp [Value.ownBlock] at hi; simp; omega))
  obtain ⟨vv, vl, vt, vo, vals, ts, hA, rfl, -, hsr⟩ := hM
  have hvk := hval.out vals hsr
  have hvl := hsr.len
  have hm1 := hA.lt
  have hmlo : w.heap.size + 2 ≤ m := by have := hF m (.inl rfl); simp at this; omega
  obtain ⟨Av2, cv2, evv, hv1, hv2, hv3⟩ := ownsRow_ints hA.vrow
  have x2 : w1.cell? ⟨m, 2, none⟩ = some vv := hA.cells.2.2.1
  subst evv
  unfold maxLen at hv2
  have hvlo : ∀ b o, Av2 = some ⟨b, o, none⟩ → vals ≠ [] → w.heap.size + 2 ≤ b := fun b o e hne => by
    have hn : 0 < vals.length := List.length_pos_iff.2 hne
    have hr := hA.vrow
    subst e
    have := hF b (.inr ⟨_, List.mem_cons_self .., rfl⟩)
    simp at this; omega
  have hmx : m ≠ w.heap.size + 1 := by omega
  replace b1 := Lib.hid b1
  replace ho1 := Lib.hid ho1
  replace hv3 := Lib.hid hv3
  replace hvk := Lib.hid hvk
  replace hvl := Lib.hid hvl
  replace hvlo := Lib.hid hvlo
  clear h1 hA hF hsr hval
  go_wp2_with fail
  go_loopw [10, 13] (fun o i wr => ∃ (j : Nat), j ≤ keys.length ∧ i = .int .i64 j ∧ Hid (wr.ownsRow (w.heap.size + 1) 3 1 o j (ints (L.take j))) ∧ Hid (Below w.heap.size w wr) ∧ Hid (∀ b, o.ownBlock = some b → b = w.heap.size + 1 ∨ w1.heap.size ≤ b) ∧ Hid (∀ b, b < w1.heap.size → b ≠ w.heap.size + 1 → wr.heap[b]? = w1.heap[b]?) ∧ w1.heap.size ≤ wr.heap.size) (fun _ i _ => keys.length - (intOf i).toNat)
  case atStart => exact ⟨0, Nat.zero_le _, rfl, ho1, b1, Lib.hid (fun b hb => .inl (by simp [Value.ownBlock] at hb; omega)), Lib.hid (fun b _ _ => rfl), Nat.le_refl _⟩
  case round =>
    obtain ⟨j, hj, rfl, ho, hw, hob, hkp, hwz⟩ := hrel
    have z2 := (World.cell?_of_block (w := w1) (a := ⟨m, 2, none⟩) (hkp.out m hm1 hmx)).trans x2
    by_cases hlt : j < keys.length
    · have hkin := List.getElem_mem hlt
      have hkr := hrg.out _ hkin
      have htk := hLg.out j hlt
      have hva := hvk.out _ hkin
      obtain ⟨bk, ok, rfl, hbk, yk⟩ := hkey.out.at hw.out hw.out.size j hlt
      have hlj : (L.take j).length = j := by have := hLl.out; rw [List.length_take]; omega
      generalize keys[j] = k at *
      obtain ⟨kq, rfl⟩ := Int.eq_ofNat_of_zero_le hkr.1
      have hkq : kq < vals.length := by have := hvl.out; omega
      obtain ⟨bv, ov, rfl, hbv, cvv⟩ := hv3.out kq hkq
      have hbl := hvlo.out bv ov rfl (fun e => by rw [e] at hkq; simp at hkq)
      have cvr := (World.cell?_of_block (w := w1) (a := ⟨bv, ov + kq, none⟩) (hkp.out bv hbv (by omega))).trans cvv
      rw [atK_in hkq] at hva
      rw [hva] at cvr
      obtain ⟨Ao, co, rfl, -, -⟩ := ownsRow_cells ho.out
      generalize atK all kq = x at *
      have hbv2 : bv < wr.heap.size := by omega
      have hm2 : m < wr.heap.size := by omega
      replace htk := Lib.hid htk
      replace hlj := Lib.hid hlj
      replace hva := Lib.hid hva
      replace hkin := Lib.hid hkin
      clear cvv
      go_wp2_with fail
      go_region_law ((with_reducible refine step_app1 (by rfl) (.tmp 32) (.tmp 43) 26 (by rfl) intTy (w.heap.size + 1) (.slice Ao j co) j (ints (L.take j)) (by with_unfolding_all rfl) ?_ wr.heap.size 1 [.int .i64 x] (by with_unfolding_all rfl) (by with_unfolding_all rfl) ?_ ?_ ?_ ?_ ?_ ?_); (exact (ho.out.alloc _).drew); (exact ⟨_, _, heap_alloc_new wr _, rfl⟩); (exact one_int _ _); (unfold maxLen; omega); (omega); (have := hw.out.size; simp; omega); intro g5 cap5 w5 hown5 hgrow5 hat5)
      all_goals
        have hz5 := hgrow5.size
        simp only [World.size_drew, World.size_alloc] at hz5
        have hoz := ho.out.lt
        have hw5 : Below w.heap.size w w5 := ((below_al' hw.out _ hw.out.size).drew).grown hgrow5 (by have := hw.out.size; simp; omega) (fun k hk => by have := (hoz k hk).1; omega)
        have ho5 : w5.ownsRow (w.heap.size + 1) 3 1 (.slice (some ⟨g5, 0, none⟩) (j + 1) cap5) (j + 1) (ints (L.take (j + 1))) := by rw [htk.out, ints_append]; exact hown5
        have hob5 : ∀ b, (Value.slice (some ⟨g5, 0, none⟩) (j + 1) cap5).ownBlock = some b → b = w.heap.size + 1 ∨ w1.heap.size ≤ b := fun b hb => by
          simp only [Value.ownBlock, Option.some.injEq] at hb
          subst hb
          rcases hat5 with e | e
          · exact hob.out _ e
          · right; simp at e; omega
        have hkp5 : ∀ b, b < w1.heap.size → b ≠ w.heap.size + 1 → w5.heap[b]? = w1.heap[b]? := fun b hb hbn => (hgrow5.block b (by simp; omega) (fun e => by rcases hob.out b e.symm with h | h <;> omega)).trans ((heap_old (by omega)).trans (hkp.out b hb hbn))
        have hwz5 : w1.heap.size ≤ w5.heap.size := by omega
        replace hw5 := Lib.hid hw5
        replace ho5 := Lib.hid ho5
        replace hob5 := Lib.hid hob5
        replace hkp5 := Lib.hid hkp5
        clear hown5 hgrow5 hat5 hoz
        go_wp2_with fail
        go_roundw
        case rel => exact ⟨j + 1, by omega, by go_num, ho5, hw5, hob5, hkp5, hwz5⟩
        case measure => simp [intOf]; omega
    · have hje : j = keys.length := by omega
      subst hje
      have ho2 := ho.out
      rw [← hLl.out, List.take_length] at ho2
      have hfo : wr.ownsRow (w.heap.size + 1) 3 1 u10 L.length (ints L) := ho2
      have hl := (show GivesOwn (w.heap.size + 1) (L, true) (.returned (.tuple #[u10, .bool true])) w wr from ⟨_, rfl, hfo, hw.out⟩).list
      replace hl := Lib.hid hl
      clear ho2 hfo
      go_wp2_with fail
      go_ret2
      exact hl.out
end Go.Proofs.Ytpccgdkidnkppaa
