import Derived.Deep.LoopGhost
import Derived.Test.YtpccgdkidnkppaaPk18FnWorkValues
import Derived.Test.YtpccgdkidnkppaaPk20FnWorkValues
set_option linter.unusedVariables false
set_option linter.unusedSimpArgs false
namespace Go.Proofs.Ytpccgdkidnkppaa
open Go Go.RowKit

theorem KnOk.of {S : Sh} (hS : S.Ok) {all : List Int} (hall : buildAllP S = (all, true)) {kn : Int → Option Int} (h : Snd S all kn) : KnOk S kn := by
  obtain ⟨a1, a2, -, -⟩ := all_law hS hall
  refine ⟨fun k v hk => ?_, fun k v hk => mkK_range (by rw [(h k v hk).1]; simp)⟩
  have hv := (h k v hk).2
  have hr := mkK_range (show mkK S.made k ≠ false by rw [(h k v hk).1]; simp)
  obtain ⟨q, rfl⟩ := Int.eq_ofNat_of_zero_le hr.1
  rw [← hv, atK_in (show q < all.length by omega)]
  exact a2 _ (List.getElem_mem _)
theorem wk0 (E : MkEnv) (S : Sh) (w : World) (hb : Below E.B E.w0 w) (hB : E.B ≤ w.heap.size) :
    WkAt E S (w.heap.size + 1) w.heap.size 0 (.slice none 0 0) (.slice none 0 0) (.slice none 0 0) [] ⟨fun _ => none, [], []⟩ ((w.alloc (.map #[] 0)).alloc (.cells (wkCs E S w.heap.size (.slice none 0 0) (.slice none 0 0) (.slice none 0 0)) 128 (0, 0))) := by
  have hnil : ∀ i, (rowP E.B 3 1 (.slice none 0 0) 0 (ints [])).F i → False := fun i hi => by cases hi
  refine ⟨heap_new (by simp), fun p hp => ?_, fun i j hi hj hij b h1 h2 => ?_, fun p hp hf => ?_, by omega, below_al' (below_al' hb _ hB) _ (by simp; omega), by simp; omega⟩
  · simp only [wkPs, List.mem_cons, List.not_mem_nil, or_false] at hp
    rcases hp with rfl | rfl | rfl | rfl
    · exact rowP_ok (World.ownsRow_nil _ _ _ _)
    · exact rowP_ok (World.ownsRow_nil _ _ _ _)
    · refine mapP_ok (((VMap.new Try.prog 3 w).block (heap_old (by simp))).congr (fun k => rfl)) hB
    · exact rowP_ok (World.ownsRow_nil _ _ _ _)
  · match i, j, hi, hj with
    | 2, 2, _, _ => exact hij rfl
    | 2, 0, _, _ => exact hnil b h2
    | 2, 1, _, _ => exact hnil b h2
    | 2, 3, _, _ => exact hnil b h2
    | 0, _, _, _ => exact hnil b h1
    | 1, _, _, _ => exact hnil b h1
    | 3, _, _, _ => exact hnil b h1
  · simp only [wkPs, List.mem_cons, List.not_mem_nil, or_false] at hp
    rcases hp with rfl | rfl | rfl | rfl
    · exact hnil _ hf
    · exact hnil _ hf
    · have hf' : w.heap.size + 1 = w.heap.size := hf
      omega
    · exact hnil _ hf
theorem wk0_lo (E : MkEnv) (M m lo : Nat) (h1 : lo ≤ M) (h2 : lo ≤ m) : ∀ i, Foot m (wkPs E M 0 (.slice none 0 0) (.slice none 0 0) (.slice none 0 0) [] ⟨fun _ => none, [], []⟩) i → lo ≤ i := by
  rintro i (rfl | ⟨p, hp, hf⟩)
  · exact h2
  · simp only [wkPs, List.mem_cons, List.not_mem_nil, or_false] at hp
    rcases hp with rfl | rfl | rfl | rfl
    · cases hf
    · cases hf
    · have hf' : i = M := hf
      omega
    · cases hf
/-- a call that turns what lies behind a box -/
theorem turn_keep {n : Nat} {w wa wb : World} {F F' : Nat → Prop} (t : Turn F F' wa wb) (hn : n = w.heap.size) (hlt : n < wa.heap.size) (hbl : Below n w wa) (hF : ∀ i, F i → n + 1 ≤ i) : Below n w wb ∧ (∀ i, F' i → n + 1 ≤ i) ∧ wb.heap[n]? = wa.heap[n]? ∧ n < wb.heap.size :=
  ⟨hbl.trans (t.below (B := n) (Nat.le_of_lt hlt) (fun i hi => Nat.le_of_succ_le (hF i hi))), fun i hi => (t.fresh i hi).elim (hF i) (fun hge => Nat.le_trans hlt hge), t.block n hlt (fun hf => by have := hF n hf; omega), Nat.lt_of_lt_of_le hlt t.size⟩
/-- behind all moves and rounds: the shop -/
def WorkedP (E : MkEnv) (S : Sh) (fin : WSt) (w : World) (e : Ending) (w' : World) : Prop :=
  ∃ m M F, e = .returned (.tuple #[.pointer (some ⟨m, 0, none⟩), .bool true]) ∧ WkI E S m M fin w' F ∧ (∀ i, F i → w.heap.size ≤ i) ∧ Below w.heap.size w w'

set_option maxRecDepth 5000 in
set_option maxHeartbeats 16000000 in
theorem worked_good (E : MkEnv) (S : Sh) (hE : E.Good S) {all : List Int} (hall : buildAllP S = (all, true)) (hsafe : safeP S.made (S.tks.map Tk.enc) = true) (Ak Av : Option Addr) (ck cv : Nat) (keys moves : List Int) (w : World) (hb : Below E.B E.w0 w) (hB : E.B ≤ w.heap.size) (hk : keysOk S.made.length keys = true) (hx : IntsAt E.B E.w0 Ak keys) (hm : keys.length ≤ 1000) (hxm : IntsAt E.B E.w0 Av moves) (hmm : moves.length ≤ 60)
    (n0 : Nat) (fin : WSt) (hr : WRun S n0 (wmoves S (wstart S keys) moves, none) fin) :
    Calls Try.prog 104 #[.agg #[.slice E.Am S.made.length E.cm, .slice E.At S.tks.length E.ct], .slice E.Ai S.inputs.length E.ci, .slice Ak keys.length ck, .slice Av moves.length cv] w (WorkedP E S fin w) := by
  have hok2 : takesOk S.made.length S.inputs = true := by simp [takesOk, hE.ok.ins, vals_iff.2 hE.ok.vals]
  have hten := hE.ok.ten
  have hc1 := fun w1 (hw : Below w.heap.size w w1) => sheetSafe_calls E.Am E.At E.cm E.ct S.made (S.tks.map Tk.enc) E.B E.w0 w1 (below_up' hb hB hw) (Nat.le_trans hB hw.size) hE.sheet
  rw [hsafe] at hc1
  simp only [List.length_map] at hc1
  have hc2 := fun w1 (hw : Below w.heap.size w w1) => takes_calls E.Am E.At E.Ai S.made.length E.cm S.tks.length E.ct E.ci S.inputs E.B E.w0 w1 (below_up' hb hB hw) (Nat.le_trans hB hw.size) (Nat.le_trans hE.li hE.mi) hE.ins
  rw [hok2] at hc2
  have hc3 := fun w1 (hw : Below w.heap.size w w1) => all_calls E.Am E.At Ak S.made.length E.cm S.tks.length E.ct ck keys E.B E.w0 w1 (below_up' hb hB hw) (Nat.le_trans hB hw.size) (by unfold maxLen; omega) hx
  rw [hk] at hc3
  have hmade : BoolsAt w.heap.size w E.Am S.made := hE.sheet.made.up hb hB
  have hkey : IntsAt w.heap.size w Ak keys := hx.up hb hB
  have hmov : IntsAt w.heap.size w Av moves := hxm.up hb hB
  have hml : S.made.length ≤ E.cm := hE.sheet.lm
  have hmmx : E.cm ≤ maxLen := hE.sheet.mm
  unfold maxLen at hmmx
  have hrg := keysOk_iff.1 hk
  have hwant := fun m M st k w F hl h => want_calls E S m M st k w F hl h
  have hmove := fun m M st i w F (hi : WInv S all keys st) h => move_calls E S hE m M st i w F (Nat.le_trans hi.len hten) (Nat.le_trans hi.olen (Nat.le_trans hi.len hten)) hi.range (KnOk.of hE.ok hall hi.snd) h
  have hminv := fun st (hi : WInv S all keys st) i => moveP_inv hE.ok hall hi i
  have hwinv := fun st (hi : WInv S all keys st) k (hk : k ∈ keys) (hmk : mkK S.made k = true) => hi.want (.here k hk hmk)
  have hmvs := fun st (hi : WInv S all keys st) => (wmoves_inv hE.ok hall moves st hi).1
  obtain ⟨W0, hW0⟩ : ∃ W0, wstart S keys = W0 := ⟨_, rfl⟩
  rw [hW0] at hr
  unfold wstart at hW0
  have hI0 := winv0 S all keys
  obtain ⟨Am, hAm⟩ : ∃ Am, E.Am = Am := ⟨_, rfl⟩
  replace hc1 := Lib.hid hc1
  replace hc2 := Lib.hid hc2
  replace hc3 := Lib.hid hc3
  replace hr := Lib.hid hr
  replace hmade := Lib.hid hmade
  replace hkey := Lib.hid hkey
  replace hmov := Lib.hid hmov
  replace hrg := Lib.hid hrg
  replace hwant := Lib.hid hwant
  replace hmove := Lib.hid hmove
  replace hminv := Lib.hid hminv
  replace hwinv := Lib.hid hwinv
  replace hmvs := Lib.hid hmvs
  replace hW0 := Lib.hid hW0
  replace hI0 := Lib.hid hI0
  replace hAm := Lib.hid hAm
  have hb' := hb
  replace hb' := Lib.hid hb'
  clear hok2 hk hb hx hE hsafe hxm hall
  go_enter Try.func104, Try.ntmps104
  go_wp2_with fail
  refine (hc1.out _ (below_al (Below.refl _ _) _)).mono ?_
  rintro e w1 ⟨rfl, h1⟩
  have x0 : w1.cell? ⟨w.heap.size, 0, none⟩ = some (.slice E.Am S.made.length E.cm) := (h1.cell (p := ⟨w.heap.size, 0, none⟩) (by simp)).trans (by simp)
  have x1 : w1.cell? ⟨w.heap.size, 1, none⟩ = some (.slice E.At S.tks.length E.ct) := (h1.cell (p := ⟨w.heap.size, 1, none⟩) (by simp)).trans (by simp)
  have b1 := below_from h1
  have s1 : w.heap.size < w1.heap.size := by have := h1.size; simp at this; omega
  have hbx1 := (h1.block w.heap.size (by simp)).trans (heap_new rfl)
  replace b1 := Lib.hid b1
  replace hbx1 := Lib.hid hbx1
  clear h1 hc1
  go_wp2_with fail
  refine (hc2.out _ b1.out).mono ?_
  rintro e w2 ⟨rfl, h2⟩
  have y0 := kept_cell h2 s1 x0
  have y1 := kept_cell h2 s1 x1
  have b2 := below_up b1.out h2
  have s2 : w.heap.size < w2.heap.size := by have := h2.size; omega
  have hbx2 := (h2.block w.heap.size s1).trans hbx1.out
  replace b2 := Lib.hid b2
  replace hbx2 := Lib.hid hbx2
  clear h2 x0 x1 s1 hc2 hbx1
  go_wp2_with fail
  refine (hc3.out _ b2.out).mono ?_
  rintro e w3 ⟨rfl, h3⟩
  have x0 := kept_cell h3 s2 y0
  have x1 := kept_cell h3 s2 y1
  have b3 := below_up b2.out h3
  have s3 : w.heap.size < w3.heap.size := by have := h3.size; omega
  have hmm2 := @run_makeMap Try.prog
  have hbx3 := (h3.block w.heap.size s2).trans hbx2.out
  replace b3 := Lib.hid b3
  replace hbx3 := Lib.hid hbx3
  clear h3 y0 y1 s2 hc3 hbx2
  have hst := wk0 E S w3 (below_up' hb'.out hB b3.out) (Nat.le_trans hB b3.out.size)
  have hlo := wk0_lo E w3.heap.size (w3.heap.size + 1) (w.heap.size + 1) (by omega) (by omega)
  have b5 := below_al' (below_al' b3.out (.map #[] 0) b3.out.size) (.cells (wkCs E S w3.heap.size (.slice none 0 0) (.slice none 0 0) (.slice none 0 0)) 128 (0, 0)) (by have := b3.out.size; simp; omega)
  have hbx5 := (heap_old (o := .cells (wkCs E S w3.heap.size (.slice none 0 0) (.slice none 0 0) (.slice none 0 0)) 128 (0, 0)) (by simp; omega)).trans ((heap_old (o := .map #[] 0) s3).trans hbx3.out)
  replace hst := Lib.hid hst
  replace hlo := Lib.hid hlo
  replace b5 := Lib.hid b5
  replace hbx5 := Lib.hid hbx5
  go_wp2_with fail
  obtain ⟨M, hM0⟩ : ∃ M, w3.heap.size = M := ⟨_, rfl⟩
  replace hM0 := Lib.hid hM0
  go_loopw [43] (fun i wr => ∃ (j : Nat) (st : WSt) (F : Nat → Prop), j ≤ keys.length ∧ i = .int .i64 j ∧ Hid (WkI E S (w3.heap.size + 1) w3.heap.size st wr F) ∧ Hid (∀ i, F i → w.heap.size + 1 ≤ i) ∧ Hid (Below w.heap.size w wr) ∧ w.heap.size < wr.heap.size ∧
    Hid (wr.heap[w.heap.size]? = some (.cells #[.slice E.Am S.made.length E.cm, .slice E.At S.tks.length E.ct] 31 (0, 0))) ∧ Hid (WInv S all keys st) ∧ Hid (W0 = (keys.drop j).foldl (fun st k => if mkK S.made k then wantP st k else st) st)) (fun i _ => keys.length - (intOf i).toNat)
  case atStart => exact ⟨0, ⟨fun _ => none, [], []⟩, _, Nat.zero_le _, rfl, Lib.hid ⟨0, _, _, _, [], hst.out, rfl, rfl, (cntN_zero _).symm⟩, hlo, b5, by simp; omega, hbx5, hI0, Lib.hid hW0.out.symm⟩
  case round =>
    obtain ⟨j, st, F, hj, rfl, hM, hF, hw, hsz, hbx, hIv, hfo⟩ := hrel
    have z0 : wr.cell? ⟨w.heap.size, 0, none⟩ = some (.slice E.Am S.made.length E.cm) := cellm hbx.out 0
    by_cases hlt : j < keys.length
    · have hfo2 := hfo.out
      rw [List.drop_eq_getElem_cons hlt, List.foldl_cons] at hfo2
      have hkin := List.getElem_mem hlt
      have hkr := hrg.out _ hkin
      obtain ⟨bk, ok, rfl, hbk, yk⟩ := hkey.out.at hw.out hw.out.size j hlt
      generalize keys[j] = k at *
      obtain ⟨kq, rfl⟩ := Int.eq_ofNat_of_zero_le hkr.1
      have hkq : kq < S.made.length := by omega
      obtain ⟨bm, om, em, hbm, cm⟩ := hmade.out.at hw.out hw.out.size kq hkq
      have hmkk : mkK S.made kq = S.made[kq] := by unfold mkK; rw [if_neg (by omega)]; exact getD_at _ _
      rw [em] at z0
      replace hmkk := Lib.hid hmkk
      replace em := Lib.hid em
      cases hmd : S.made[kq] with
      | false =>
        have hmk : mkK S.made kq = false := by rw [hmkk.out, hmd]
        rw [hmd] at cm
        rw [hmk] at hfo2
        simp only [Bool.false_eq_true, if_false] at hfo2
        replace hfo2 := Lib.hid hfo2
        replace hmd := Lib.hid hmd
        replace hmk := Lib.hid hmk
        replace hkin := Lib.hid hkin
        go_wp2_with fail
        go_roundw
        case rel => exact ⟨j + 1, st, F, by omega, by go_num, hM, hF, hw, hsz, hbx, hIv, hfo2⟩
        case measure => simp [intOf]; omega
      | true =>
        have hmk : mkK S.made kq = true := by rw [hmkk.out, hmd]
        rw [hmd] at cm
        rw [hmk] at hfo2
        simp only [if_true] at hfo2
        have hl10 : st.list.length ≤ 10 := Nat.le_trans hIv.out.len hten
        have hwc := hwant.out _ _ st kq wr F hl10 hM.out
        have hIv2 := hwinv.out st hIv.out kq hkin hmk
        replace hfo2 := Lib.hid hfo2
        replace hmd := Lib.hid hmd
        replace hmk := Lib.hid hmk
        replace hkin := Lib.hid hkin
        replace hwc := Lib.hid hwc
        replace hIv2 := Lib.hid hIv2
        clear hl10
        go_wp2_with fail
        refine hwc.out.mono ?_
        rintro e w6 ⟨⟨v6, rfl⟩, F6, hM6, t6⟩
        obtain ⟨k1, k2, k3, k4⟩ := turn_keep t6 rfl hsz hw.out hF.out
        have hbx6 := k3.trans hbx.out
        replace hM6 := Lib.hid hM6
        replace k1 := Lib.hid k1
        replace k2 := Lib.hid k2
        replace hbx6 := Lib.hid hbx6
        clear t6 k3 hwc z0 yk cm
        go_wp2_with fail
        go_roundw
        case rel => exact ⟨j + 1, _, F6, by omega, by go_num, hM6, k2, k1, k4, hbx6, hIv2, hfo2⟩
        case measure => simp [intOf]; omega
    · have hjl : keys.drop j = [] := List.drop_eq_nil_of_le (by omega)
      have hfo2 := hfo.out
      rw [hjl, List.foldl_nil] at hfo2
      subst hfo2
      replace hjl := Lib.hid hjl
      have hmf : wmoves S W0 moves = (moves.drop 0).foldl (moveP S) W0 := rfl
      replace hmf := Lib.hid hmf
      have hIm := hmvs.out W0 hIv.out
      replace hIm := Lib.hid hIm
      obtain ⟨w9, hw9⟩ : ∃ w9, w9 = wr := ⟨_, rfl⟩
      subst hw9
      clear z0 hfo hW0
      go_wp2_with fail
      go_loopw [58] (fun i wr => ∃ (j : Nat) (st : WSt) (F : Nat → Prop), j ≤ moves.length ∧ i = .int .i64 j ∧ Hid (WkI E S (w3.heap.size + 1) w3.heap.size st wr F) ∧ Hid (∀ i, F i → w.heap.size + 1 ≤ i) ∧ Hid (Below w.heap.size w wr) ∧ w.heap.size < wr.heap.size ∧
        Hid (WInv S all keys st) ∧ Hid (wmoves S W0 moves = (moves.drop j).foldl (moveP S) st)) (fun i _ => moves.length - (intOf i).toNat)
      case atStart => exact ⟨0, W0, F, Nat.zero_le _, rfl, hM, hF, hw, hsz, hIv, hmf⟩
      case round =>
        clear hM hF hw hsz hIv hbx
        obtain ⟨j2, st, F, hj2, rfl, hM, hF, hw, hsz, hIv, hfo⟩ := hrel
        by_cases hlt : j2 < moves.length
        · have hfo2 := hfo.out
          rw [List.drop_eq_getElem_cons hlt, List.foldl_cons] at hfo2
          obtain ⟨bk, ok, rfl, hbk, yk⟩ := hmov.out.at hw.out hw.out.size j2 hlt
          generalize moves[j2] = k at *
          have hwc := hmove.out _ _ st k wr F hIv.out hM.out
          have hIv2 := hminv.out st hIv.out k
          replace hfo2 := Lib.hid hfo2
          replace hwc := Lib.hid hwc
          replace hIv2 := Lib.hid hIv2
          go_wp2_with fail
          refine hwc.out.mono ?_
          rintro e w6 ⟨⟨v6, rfl⟩, F6, hM6, t6⟩
          obtain ⟨k1, k2, k3, k4⟩ := turn_keep t6 rfl hsz hw.out hF.out
          replace hM6 := Lib.hid hM6
          replace k1 := Lib.hid k1
          replace k2 := Lib.hid k2
          clear t6 k3 hwc yk
          go_wp2_with fail
          go_roundw
          case rel => exact ⟨j2 + 1, _, F6, by omega, by go_num, hM6, k2, k1, k4, hIv2, hfo2⟩
          case measure => simp [intOf]; omega
        · have hjl2 : moves.drop j2 = [] := List.drop_eq_nil_of_le (by omega)
          have hfo2 := hfo.out
          rw [hjl2, List.foldl_nil] at hfo2
          have hr2 := hr.out
          rw [hfo2] at hr2
          replace hr2 := Lib.hid hr2
          clear hfo2 hjl2 hfo
          go_wp2_with fail
          go_loopg [15] n0 (fun gk _ wr => ∃ (st : WSt) (F : Nat → Prop), gk ≤ n0 ∧ Hid (WRun S gk (st, none) fin) ∧ Hid (WkI E S (w3.heap.size + 1) w3.heap.size st wr F) ∧ Hid (∀ i, F i → w.heap.size + 1 ≤ i) ∧ Hid (Below w.heap.size w wr) ∧ w.heap.size < wr.heap.size ∧ Hid (WInv S all keys st))
          case atStart => exact ⟨st, F, Nat.le_refl _, hr2, hM, hF, hw, hsz, hIv⟩
          case round =>
            clear hM hF hw hsz hIv hr2
            obtain ⟨st, F, hgn, hr2, hM, hF, hw, hsz, hIv⟩ := hrel
            obtain ⟨c, vl, vt, vo, ts, hA, rfl, htl, hcc⟩ := hM.out
            obtain ⟨a0, a1, a2, a3, a4, a5, a6, f3, f4, f6, hz⟩ := hA.cells
            obtain ⟨Al, cl, rfl, -, -, -⟩ := ownsRow_ints hA.list
            obtain ⟨Ao, co, rfl, -, -, -⟩ := ownsRow_ints hA.order
            replace htl := Lib.hid htl
            replace hcc := Lib.hid hcc
            replace hA := Lib.hid hA
            obtain ⟨w10, hw10⟩ : ∃ w10, w10 = wr := ⟨_, rfl⟩
            subst hw10
            cases gk with
            | zero =>
              obtain ⟨e1, e2⟩ := hr2.out
              have e3 : st = fin := (Prod.mk.inj e1).1
              have hle : ¬ st.order.length < st.list.length := by rw [e3]; omega
              replace e1 := Lib.hid e1
              replace e2 := Lib.hid e2
              replace e3 := Lib.hid e3
              go_wp2_with fail
              go_quiet (fail)
              go_wp2_with fail
              go_ret2
              rw [← e3.out]
              exact ⟨_, _, _, rfl, ⟨c, _, vt, _, ts, hA.out.up (below_drewN (Below.refl _ _) _), rfl, htl.out, hcc.out⟩, fun i hi => Nat.le_of_succ_le (hF.out i hi), below_drewN hw.out _⟩
            | succ n =>
              have hlt2 := hr2.out.1 rfl
              have hr3 := hr2.out.2
              have hr3' : WRun S n (st, some 0) fin := hr3
              dsimp only at hlt2
              replace hr3' := Lib.hid hr3'
              clear hr3
              go_wp2_with fail
              go_quiet (fail)
              go_wp2_with fail
              go_loopg [15] n (fun gk2 i wr => ∃ (i2 : Nat) (st : WSt) (F : Nat → Prop), gk2 ≤ n ∧ i = .int .i64 i2 ∧ Hid (WRun S gk2 (st, some i2) fin) ∧ Hid (WkI E S (w3.heap.size + 1) w3.heap.size st wr F) ∧ Hid (∀ i, F i → w.heap.size + 1 ≤ i) ∧ Hid (Below w.heap.size w wr) ∧ w.heap.size < wr.heap.size ∧ Hid (WInv S all keys st))
              case atStart => exact ⟨0, st, _, Nat.le_refl _, rfl, hr3', Lib.hid ⟨c, _, vt, _, ts, hA.out.up (below_drewN (Below.refl _ _) _), rfl, htl.out, hcc.out⟩, hF, Lib.hid (below_drewN hw.out _), hsz, hIv⟩
              case round =>
                clear hM hF hw hsz hIv hr2 hr3' hA a0 a1 a2 a3 a4 a5 a6 f3 f4 f6 hz htl hcc hlt2
                obtain ⟨i2, st, F, hgn2, rfl, hr4, hM, hF, hw, hsz, hIv⟩ := hrel
                obtain ⟨c, vl, vt, vo, ts, hA, rfl, htl, hcc⟩ := hM.out
                obtain ⟨a0, a1, a2, a3, a4, a5, a6, f3, f4, f6, hz⟩ := hA.cells
                obtain ⟨Al, cl, rfl, -, -, -⟩ := ownsRow_ints hA.list
                replace htl := Lib.hid htl
                replace hcc := Lib.hid hcc
                replace hA := Lib.hid hA
                cases gk with
                | zero => have := hr4.out.1; cases this
                | succ n2 =>
                  have hr5 := hr4.out.2
                  have hi10 := hIv.out.len
                  by_cases hlt3 : i2 < st.list.length
                  · have hst : wstep S (st, some i2) = (moveP S st i2, some (i2 + 1)) := by simp [wstep, hlt3]
                    rw [hst] at hr5
                    have hwc := hmove.out _ _ st i2 wr _ hIv.out hM.out
                    have hIv2 := hminv.out st hIv.out i2
                    have hn2 : n2 ≤ n := by omega
                    replace hr5 := Lib.hid hr5
                    replace hst := Lib.hid hst
                    replace hwc := Lib.hid hwc
                    replace hIv2 := Lib.hid hIv2
                    go_wp2_with fail
                    refine hwc.out.mono ?_
                    rintro e w6 ⟨⟨v6, rfl⟩, F6, hM6, t6⟩
                    obtain ⟨k1, k2, k3, k4⟩ := turn_keep t6 rfl hsz hw.out hF.out
                    replace hM6 := Lib.hid hM6
                    replace k1 := Lib.hid k1
                    replace k2 := Lib.hid k2
                    clear t6 k3 hwc
                    go_wp2_with fail
                    go_roundg n2
                    case rel => exact ⟨i2 + 1, _, F6, hn2, by go_num, hr5, hM6, k2, k1, k4, hIv2⟩
                    case measure => omega
                  · have hst : wstep S (st, some i2) = (st, none) := by simp [wstep, hlt3]
                    rw [hst] at hr5
                    have hn2 : n2 ≤ n0 := by omega
                    replace hr5 := Lib.hid hr5
                    replace hst := Lib.hid hst
                    go_wp2_with fail
                    go_roundg n2
                    case rel => exact ⟨st, _, hn2, hr5, hM, hF, hw, hsz, hIv⟩
                    case measure => omega
end Go.Proofs.Ytpccgdkidnkppaa

set_option linter.unusedVariables false
set_option linter.unusedSimpArgs false
namespace Go.Proofs.Ytpccgdkidnkppaa
open Go Go.RowKit

/-! the reference's work in memory -/
abbrev swCs (E : MkEnv) (S : Sh) (vv vl vt vo : Value) : Array Value := #[.slice E.Am S.made.length E.cm, .slice E.At S.tks.length E.ct, vv, vl, vt, vo]
abbrev swPs (E : MkEnv) (vv vl vt vo : Value) (vals ts : List Int) (st : WSt) : List Part := [rowP E.B 3 1 vv vals.length (ints vals), rowP E.B 3 1 vl st.list.length (ints st.list), rowP E.B 3 1 vt ts.length (ints ts), rowP E.B 3 1 vo st.order.length (ints st.order)]
abbrev SwAt (E : MkEnv) (S : Sh) (m : Nat) (vv vl vt vo : Value) (vals ts : List Int) (st : WSt) (w : World) : Prop := ObjAt E.B E.w0 m 133 (swCs E S vv vl vt vo) (swPs E vv vl vt vo vals ts st) w
def SwI (E : MkEnv) (S : Sh) (m : Nat) (st : WSt) (w : World) (F : Nat → Prop) : Prop := ∃ vv vl vt vo vals ts, SwAt E S m vv vl vt vo vals ts st w ∧ F = Foot m (swPs E vv vl vt vo vals ts st) ∧ ts.length = st.list.length ∧ SRel S st.kn vals st.order
section
variable {E : MkEnv} {S : Sh} {m : Nat} {vv vl vt vo : Value} {vals ts : List Int} {st : WSt} {w : World}
theorem SwAt.cells (h : SwAt E S m vv vl vt vo vals ts st w) : w.cell? ⟨m, 0, none⟩ = some (.slice E.Am S.made.length E.cm) ∧ w.cell? ⟨m, 1, none⟩ = some (.slice E.At S.tks.length E.ct) ∧ w.cell? ⟨m, 2, none⟩ = some vv ∧
    w.cell? ⟨m, 3, none⟩ = some vl ∧ w.cell? ⟨m, 4, none⟩ = some vt ∧ w.cell? ⟨m, 5, none⟩ = some vo ∧ w.frozen? ⟨m, 3, none⟩ = false ∧ w.frozen? ⟨m, 4, none⟩ = false ∧ w.frozen? ⟨m, 5, none⟩ = false ∧ m < w.heap.size :=
  ⟨h.cell 0, h.cell 1, h.cell 2, h.cell 3, h.cell 4, h.cell 5, h.frozen 3, h.frozen 4, h.frozen 5, h.lt⟩
theorem SwAt.vrow (h : SwAt E S m vv vl vt vo vals ts st w) : w.ownsRow E.B 3 1 vv vals.length (ints vals) := ObjAt.row h 0 rfl
theorem SwAt.list (h : SwAt E S m vv vl vt vo vals ts st w) : w.ownsRow E.B 3 1 vl st.list.length (ints st.list) := ObjAt.row h 1 rfl
theorem SwAt.tries (h : SwAt E S m vv vl vt vo vals ts st w) : w.ownsRow E.B 3 1 vt ts.length (ints ts) := ObjAt.row h 2 rfl
theorem SwAt.order (h : SwAt E S m vv vl vt vo vals ts st w) : w.ownsRow E.B 3 1 vo st.order.length (ints st.order) := ObjAt.row h 3 rfl
end
theorem swPs_list (E : MkEnv) (vv vl vt vo v : Value) (vals ts : List Int) (st : WSt) (k : Int) : (swPs E vv vl vt vo vals ts st).set 1 (rowP E.B 3 1 v (st.list.length + 1) (ints (st.list ++ [k]))) = swPs E vv v vt vo vals ts ⟨st.kn, st.list ++ [k], st.order⟩ := by
  simp only [swPs, List.set, List.length_append, List.length_singleton]
theorem swPs_tries (E : MkEnv) (vv vl vt vo v : Value) (vals ts : List Int) (st : WSt) (k : Int) : (swPs E vv vl vt vo vals ts st).set 2 (rowP E.B 3 1 v (ts.length + 1) (ints (ts ++ [k]))) = swPs E vv vl v vo vals (ts ++ [k]) st := by
  simp only [swPs, List.set, List.length_append, List.length_singleton]
theorem swPs_try (E : MkEnv) (vv vl vt vo : Value) (vals ts : List Int) (st : WSt) (q : Nat) (x : Int) : (swPs E vv vl vt vo vals ts st).set 2 (rowP E.B 3 1 vt ts.length ((ints ts).set q (.int .i64 x))) = swPs E vv vl vt vo vals (ts.set q x) st := by
  simp only [swPs, List.set, List.length_set, ints_set]
theorem swPs_val (E : MkEnv) (vv vl vt vo : Value) (vals ts : List Int) (st : WSt) (q : Nat) (x : Int) (kn : Int → Option Int) : (swPs E vv vl vt vo vals ts st).set 0 (rowP E.B 3 1 vv vals.length ((ints vals).set q (.int .i64 x))) = swPs E vv vl vt vo (vals.set q x) ts ⟨kn, st.list, st.order⟩ := by
  simp only [swPs, List.set, List.length_set, ints_set]
theorem swPs_order (E : MkEnv) (vv vl vt vo v : Value) (vals ts : List Int) (st : WSt) (k : Int) : (swPs E vv vl vt vo vals ts st).set 3 (rowP E.B 3 1 v (st.order.length + 1) (ints (st.order ++ [k]))) = swPs E vv vl vt v vals ts ⟨st.kn, st.list, st.order ++ [k]⟩ := by
  simp only [swPs, List.set, List.length_append, List.length_singleton]
/-- what a step of the work brings -/
def SwP (E : MkEnv) (S : Sh) (m : Nat) (F : Nat → Prop) (st' : WSt) (w : World) (e : Ending) (w' : World) : Prop := (∃ v, e = .returned v) ∧ ∃ F', SwI E S m st' w' F' ∧ Turn F F' w w'

set_option maxHeartbeats 4000000 in
theorem swant_calls (E : MkEnv) (S : Sh) (m : Nat) (st : WSt) (k : Int) (w : World) (F : Nat → Prop) (hl : st.list.length ≤ 10) (h : SwI E S m st w F) :
    Calls Try.prog 143 #[.pointer (some ⟨m, 0, none⟩), .int .i64 k] w (SwP E S m F (wantP st k) w) := by
  obtain ⟨vv, vl, vt, vo, vals, ts, hM, rfl, htl, hcc⟩ := h
  obtain ⟨x0, x1, x2, x3, x4, x6, f3, f4, f6, hz⟩ := hM.cells
  obtain ⟨Al, cl, rfl, hl1, hl2, hl3⟩ := ownsRow_ints hM.list
  obtain ⟨At, ct, rfl, ht1, ht2, ht3⟩ := ownsRow_ints hM.tries
  have hc := l2Has_calls Al cl st.list k w.heap.size w w (Below.refl _ _) (Nat.le_refl _) (by unfold maxLen; omega) hl3
  have hsz := hM.size
  have htl10 : ts.length ≤ 10 := by omega
  replace htl := Lib.hid htl
  replace hcc := Lib.hid hcc
  replace hM := Lib.hid hM
  unfold wantP
  cases hct : st.list.contains k with
  | true =>
    rw [hct] at hc
    replace hc := Lib.hid hc
    replace hct := Lib.hid hct
    simp only [if_true]
    go_enter Try.func143, Try.ntmps143
    go_wp2_with fail
    refine hc.out.mono ?_
    rintro e w1 ⟨rfl, rfl⟩
    go_wp2_with fail
    go_end0
    exact ⟨⟨_, rfl⟩, _, ⟨vv, _, _, vo, vals, ts, hM.out, rfl, htl.out, hcc.out⟩, Turn.refl _ _⟩
  | false =>
    rw [hct] at hc
    replace hc := Lib.hid hc
    replace hct := Lib.hid hct
    simp only [Bool.false_eq_true, if_false]
    clear hl3 ht3
    go_enter Try.func143, Try.ntmps143
    go_wp2_with fail
    refine hc.out.mono ?_
    rintro e w1 ⟨rfl, rfl⟩
    go_wp2_with (at_builtin; go_loud (with_reducible refine wpList_app1 (by rfl) (.tmp 15) (.tmp 17) 26 (by rfl) intTy E.B (.slice Al st.list.length cl) st.list.length (ints st.list) (by with_unfolding_all rfl) (hM.out.list.alloc _) w.heap.size 1 [.int .i64 k] (by with_unfolding_all rfl) (by with_unfolding_all rfl) ⟨_, _, heap_alloc_new w _, rfl⟩ (one_int _ _) ?_ ?_ ?_ ?_))
    · unfold maxLen; omega
    · omega
    · simp; omega
    intro g cap w2 hown hgrow hat
    have hMa := hM.out.alloc (.cells #[.int .i64 k] 3 (0, 0))
    have hblk2 := (hgrow.block m (block_lt hMa.blk) (fun e => hMa.far _ (List.mem_of_getElem? (i := 1) rfl) e.symm)).trans hMa.blk
    have z3 : w2.cell? ⟨m, 3, none⟩ = some (.slice Al st.list.length cl) := (cellm hblk2 3).trans rfl
    have fz3 : w2.frozen? ⟨m, 3, none⟩ = false := frozenm hblk2 3
    have hset := hMa.set_row 1 3 rfl (xs' := ints (st.list ++ [k])) hgrow (by simpa [ints_append, ints] using hown) (fun i hi => by cases hi; exact hat.imp id (fun e => by simp at e ⊢; omega))
    have hM3 : SwAt E S m vv (.slice (some ⟨g, 0, none⟩) (st.list.length + 1) cap) (.slice At ts.length ct) vo vals ts ⟨st.kn, st.list ++ [k], st.order⟩ (w2.setCell ⟨m, 3, none⟩ (.slice (some ⟨g, 0, none⟩) (st.list.length + 1) cap)) := by
      have := hset.1
      rw [swPs_list] at this
      exact this
    have t3 := (below_turn (F := Foot m (swPs E vv (.slice Al st.list.length cl) (.slice At ts.length ct) vo vals ts st)) (below_al (Below.refl w.heap.size w) (.cells #[.int .i64 k] 3 (0, 0)))).trans hset.2
    rw [swPs_list] at t3
    have hzm2 := block_lt hblk2
    have hsz3 := hM3.size
    obtain ⟨y0, y1, y2, y3, y4, y6, g3, g4, g6, hz3⟩ := hM3.cells
    replace hM3 := Lib.hid hM3
    replace t3 := Lib.hid t3
    clear hown hgrow hat hMa hblk2 hset x0 x1 x2 x3 x4 x6 f3 f4 f6 hM y0 y1 y2 y3 y6 g3 g6 hc
    go_wp2_with (at_builtin; go_loud (with_reducible refine wpList_app1 (by rfl) (.tmp 25) (.tmp 26) 26 (by rfl) intTy E.B (.slice At ts.length ct) ts.length (ints ts) (by with_unfolding_all rfl) (hM3.out.tries.alloc _) w2.heap.size 1 [.int .i64 0] (by with_unfolding_all rfl) (by with_unfolding_all rfl) ⟨_, _, heap_new (by simp), rfl⟩ (one_int _ _) ?_ ?_ ?_ ?_))
    · unfold maxLen; omega
    · omega
    · first | omega | (simp; omega) | (simp at hsz3 ⊢; omega)
    intro g5 cap5 w5 hown5 hgrow5 hat5
    have hMb := hM3.out.alloc (.cells #[.int .i64 0] 3 (0, 0))
    have hblk5 := (hgrow5.block m (block_lt hMb.blk) (fun e => hMb.far _ (List.mem_of_getElem? (i := 2) rfl) e.symm)).trans hMb.blk
    have z4 : w5.cell? ⟨m, 4, none⟩ = some (.slice At ts.length ct) := (cellm hblk5 4).trans rfl
    have fz4 : w5.frozen? ⟨m, 4, none⟩ = false := frozenm hblk5 4
    have hset5 := hMb.set_row 2 4 rfl (xs' := ints (ts ++ [0])) hgrow5 (by simpa [ints_append, ints] using hown5) (fun i hi => by cases hi; exact hat5.imp id (fun e => by simp at e ⊢; omega))
    have hM6 : SwAt E S m vv (.slice (some ⟨g, 0, none⟩) (st.list.length + 1) cap) (.slice (some ⟨g5, 0, none⟩) (ts.length + 1) cap5) vo vals (ts ++ [0]) ⟨st.kn, st.list ++ [k], st.order⟩ (w5.setCell ⟨m, 4, none⟩ (.slice (some ⟨g5, 0, none⟩) (ts.length + 1) cap5)) := by
      have := hset5.1
      rw [swPs_tries] at this
      exact this
    have t6 := (t3.out.alloc (.cells #[.int .i64 0] 3 (0, 0))).trans hset5.2
    rw [swPs_tries] at t6
    replace hM6 := Lib.hid hM6
    replace t6 := Lib.hid t6
    clear hown5 hgrow5 hat5 hMb hblk5 hset5 hM3 t3
    go_wp2_with fail
    go_end0
    exact ⟨⟨_, rfl⟩, _, ⟨vv, _, _, vo, vals, ts ++ [0], hM6.out, rfl, by simp [htl.out], hcc.out⟩, t6.out⟩

set_option maxRecDepth 5000 in
set_option maxHeartbeats 8000000 in
theorem stry_calls (E : MkEnv) (S : Sh) (hE : E.Good S) (m : Nat) (st : WSt) (i : Int) (w : World) (F : Nat → Prop) (hl : st.list.length ≤ 10) (ho : st.order.length ≤ 10) (hr : ∀ x ∈ st.list, mkK S.made x = true) (hkn : KnOk S st.kn) (h : SwI E S m st w F) :
    Calls Try.prog 144 #[.pointer (some ⟨m, 0, none⟩), .int .i64 i] w (SwP E S m F (moveP S st i) w) := by
  have h0 := h
  obtain ⟨vv, vl, vt, vo, vals, ts, hM, rfl, htl, hsr⟩ := h
  obtain ⟨x0, x1, x2, x3, x4, x5, f3, f4, f5, hz⟩ := hM.cells
  obtain ⟨Al, cl, rfl, hl1, hl2, hl3⟩ := ownsRow_ints hM.list
  obtain ⟨Ao, co, rfl, ho1, ho2, ho3⟩ := ownsRow_ints hM.order
  have hsub : IntKind.i64.wrap ((st.list.length : Int) - 1) = (st.list.length : Int) - 1 := IntWalk.i64_in ((st.list.length : Int) - 1) (by omega)
  by_cases hi : i < 0 ∨ (st.list.length : Int) ≤ i
  · have hP : moveP S st i = st := by unfold moveP; rw [if_pos hi]
    rw [hP]
    have hin := fun w1 => l6In_calls i 0 ((st.list.length : Int) - 1) w1
    rw [decide_eq_false (by omega : ¬ (0 ≤ i ∧ i ≤ (st.list.length : Int) - 1))] at hin
    replace hP := Lib.hid hP
    replace h0 := Lib.hid h0
    replace hM := Lib.hid hM
    replace htl := Lib.hid htl
    replace hsr := Lib.hid hsr
    replace hkn := Lib.hid hkn
    replace hin := Lib.hid hin
    clear hr hl3 ho3 hi
    go_enter Try.func144, Try.ntmps144
    go_wp2_with fail
    go_quiet ((go_at_call 108; exact Calls.quiet_of_same ((hin.out _).mono fun _ _ h => ⟨h.1, h.2.symm⟩)))
    go_wp2_with fail
    go_end0
    obtain ⟨F', hW, t⟩ : ∃ F', SwI E S m st (w.drewN nq) F' ∧ Turn (Foot m (swPs E vv (.slice Al st.list.length cl) vt (.slice Ao st.order.length co) vals ts st)) F' w (w.drewN nq) := ⟨_, ⟨vv, _, vt, _, vals, ts, hM.out.up (below_drewN (Below.refl _ _) _), rfl, htl.out, hsr.out⟩, (Turn.refl _ _).drewN _⟩
    exact ⟨⟨_, rfl⟩, F', hW, t⟩
  · obtain ⟨q, rfl⟩ := Int.eq_ofNat_of_zero_le (show 0 ≤ i by omega)
    have hq : q < st.list.length := by omega
    clear hi hl3
    have hP := moveP_at (S := S) hq
    have hmk := hr _ (List.getElem_mem hq)
    have hkr := mkK_range (show mkK S.made st.list[q] ≠ false by rw [hmk]; simp)
    obtain ⟨gl, cl', hvl, xk, -, hlb, -, -⟩ := row_at hM.list hq
    cases hvl
    generalize st.list[q] = k at *
    obtain ⟨kq, rfl⟩ := Int.eq_ofNat_of_zero_le hkr.1
    have hten := hE.ok.ten
    have hkq : kq < S.made.length := by omega
    have hsz := hM.size
    have hqt : q < ts.length := by omega
    have hin := fun w1 => l6In_calls (q : Int) 0 ((st.list.length : Int) - 1) w1
    rw [decide_eq_true (by omega : (0 : Int) ≤ q ∧ (q : Int) ≤ (st.list.length : Int) - 1)] at hin
    have hha := fun w1 (hw : Below w.heap.size w w1) => l2Has_calls Ao co st.order kq w.heap.size w w1 hw hw.size (by unfold maxLen; omega) ho3
    have hknv := hsr.made kq hmk
    rw [hP]
    replace hP := Lib.hid hP
    unfold maxLen at hl2
    unfold moveK
    cases hcn : st.order.contains (kq : Int) with
    | true =>
      have hkk : (st.kn kq).isSome = true := by rw [hknv, hcn]; rfl
      rw [hkk]
      rw [hcn] at hha
      simp only [if_true]
      replace h0 := Lib.hid h0
      replace hM := Lib.hid hM
      replace htl := Lib.hid htl
      replace hsr := Lib.hid hsr
      replace hkn := Lib.hid hkn
      replace hE := Lib.hid hE
      replace hkk := Lib.hid hkk
      replace hknv := Lib.hid hknv
      replace hcn := Lib.hid hcn
      replace hmk := Lib.hid hmk
      replace hin := Lib.hid hin
      replace hha := Lib.hid hha
      clear hr ho3
      go_enter Try.func144, Try.ntmps144
      go_wp2_with fail
      go_quiet ((first | (go_at_call 108; exact Calls.quiet_of_same ((hin.out _).mono fun _ _ h => ⟨h.1, h.2.symm⟩)) | (go_at_call 56; exact Calls.quiet_of_same ((hha.out _ (below_drewN (Below.refl _ _) _)).mono fun _ _ h => ⟨h.1, h.2.symm⟩))))
      go_wp2_with fail
      go_end0
      obtain ⟨F', hW, t⟩ : ∃ F', SwI E S m st (w.drewN nq) F' ∧ Turn (Foot m (swPs E vv (.slice (some ⟨gl, 0, none⟩) st.list.length cl) vt (.slice Ao st.order.length co) vals ts st)) F' w (w.drewN nq) := ⟨_, ⟨vv, _, vt, _, vals, ts, hM.out.up (below_drewN (Below.refl _ _) _), rfl, htl.out, hsr.out⟩, (Turn.refl _ _).drewN _⟩
      exact ⟨⟨_, rfl⟩, F', hW, t⟩
    | false =>
      have hkk : st.kn kq = none := by rw [hknv, hcn]; rfl
      rw [hcn] at hha
      have hkk2 : (st.kn kq).isSome = false := by rw [hkk]; rfl
      rw [hkk2]
      simp only [Bool.false_eq_true, if_false]
      obtain ⟨gt, ct, hvt, xt, ft, htb, ht1, ht2⟩ := row_at hM.tries hqt
      subst hvt
      unfold maxLen at ht2
      have htr := tryR_range S hE.ok st.kn hkn.val kq
      have hcall := fun w1 hb hB Av Ad cv cd hv hd => l4Try_calls S hE.ok E.Am E.At Av Ad E.cm E.ct cv cd st.kn vals st.order hsr E.B E.w0 w1 hb hB hE.sheet hv hd (by omega) kq (by have := hE.ok.len; omega)
      generalize hRR : tryR S st.kn kq = R at *
      obtain ⟨⟨v, ok⟩, lk⟩ := R
      dsimp only at hRR htr hcall ⊢
      obtain ⟨st', hst'⟩ : ∃ st', (if ok = true then (⟨upd st.kn kq v, st.list, st.order ++ [(kq : Int)]⟩ : WSt) else wantP st lk) = st' := ⟨_, rfl⟩
      rw [hst']
      replace hst' := Lib.hid hst'
      replace h0 := Lib.hid h0
      replace hM := Lib.hid hM
      replace htl := Lib.hid htl
      replace hsr := Lib.hid hsr
      replace hkn := Lib.hid hkn
      replace hE := Lib.hid hE
      replace hkk := Lib.hid hkk
      replace hkk2 := Lib.hid hkk2
      replace hknv := Lib.hid hknv
      replace hcn := Lib.hid hcn
      replace hmk := Lib.hid hmk
      replace hin := Lib.hid hin
      replace hha := Lib.hid hha
      replace hcall := Lib.hid hcall
      replace htr := Lib.hid htr
      replace hRR := Lib.hid hRR
      clear hr ho3
      go_enter Try.func144, Try.ntmps144
      go_wp2_with fail
      go_quiet ((first | (go_at_call 108; exact Calls.quiet_of_same ((hin.out _).mono fun _ _ h => ⟨h.1, h.2.symm⟩)) | (go_at_call 56; exact Calls.quiet_of_same ((hha.out _ (below_drewN (Below.refl _ _) _)).mono fun _ _ h => ⟨h.1, h.2.symm⟩))))
      go_wp2_with fail
      go_region
      go_wp2_with fail
      have hMd := hM.out.up (below_drewN (Below.refl _ _) (nq + 1))
      obtain ⟨p1, p2⟩ := hMd.put_row 2 q rfl (.int .i64 (wrap64 (ts[q] + 1))) hqt
      rw [swPs_try] at p1 p2
      have hM2 : SwAt E S m vv (.slice (some ⟨gl, 0, none⟩) st.list.length cl) (.slice (some ⟨gt, 0, none⟩) ts.length ct) (.slice Ao st.order.length co) vals (ts.set q (wrap64 (ts[q] + 1))) st _ := p1
      have t2 := ((Turn.refl (Foot m (swPs E vv (.slice (some ⟨gl, 0, none⟩) st.list.length cl) (.slice (some ⟨gt, 0, none⟩) ts.length ct) (.slice Ao st.order.length co) vals ts st)) w).drewN (nq + 1)).trans p2
      generalize hw2 : (w.drewN (nq + 1)).setCell ⟨gt, q, none⟩ (.int .i64 (wrap64 (ts[q] + 1))) = w2 at *
      obtain ⟨y0, y1, y2, y3, y4, y5, g3, g4, g5, hz2⟩ := hM2.cells
      have hvl := hsr.out.len
      have hkv : kq < vals.length := by omega
      obtain ⟨gv, cv, hvv, -, -, -, hv1, hv2⟩ := row_at hM2.vrow hkv
      subst hvv
      have hc3 := hcall.out w2.drew hM2.below.drew hM2.size (some ⟨gv, 0, none⟩) Ao cv co (ownsRow_ints_of hM2.vrow) (ownsRow_ints_of hM2.order)
      unfold maxLen at hv2
      replace hvl := Lib.hid hvl
      replace hw2 := Lib.hid hw2
      replace hM2 := Lib.hid hM2
      replace t2 := Lib.hid t2
      replace hc3 := Lib.hid hc3
      clear p1 p2 hMd
      go_region_held3 (fun w' => w'.cell? ⟨m, 0, none⟩ = some (.slice E.Am S.made.length E.cm) ∧ w'.cell? ⟨m, 1, none⟩ = some (.slice E.At S.tks.length E.ct) ∧ w'.cell? ⟨m, 2, none⟩ = some (.slice (some ⟨gv, 0, none⟩) vals.length cv) ∧ w'.cell? ⟨m, 5, none⟩ = some (.slice Ao st.order.length co)) (first | exact ⟨l0, l1, l2, l5⟩ | exact ⟨y0, y1, y2, y5⟩)
        (first | (go_at_call 89; refine hc3.out.mono ?_; rintro e w3 ⟨rfl, h3⟩; have hM3 : SwAt E S m (.slice (some ⟨gv, 0, none⟩) vals.length cv) (.slice (some ⟨gl, 0, none⟩) st.list.length cl) (.slice (some ⟨gt, 0, none⟩) ts.length ct) (.slice Ao st.order.length co) vals (ts.set q (wrap64 (ts[q] + 1))) st w3 := hM2.out.drew.up h3; have t3 := t2.out.drew.trans (below_turn h3); obtain ⟨l0, l1, l2, l3, l4, l5, k3, k4, k5, hz3⟩ := hM3.cells; replace hM3 := Lib.hid hM3; replace t3 := Lib.hid t3; clear h3))
      all_goals
        clear y0 y1 y2 y3 y4 y5 g3 g4 g5 hz2 x0 x1 x2 x3 x4 x5 f3 f4 f5 hM hM2 t2 hc3 xk xt ft hw2
        cases ok with
        | false =>
          have hst2 : wantP st lk = st' := by have := hst'.out; simpa using this
          have hwn := swant_calls E S m st lk w3 _ hl ⟨_, _, _, _, vals, ts.set q (wrap64 (ts[q] + 1)), hM3.out, rfl, by rw [List.length_set]; exact htl.out, hsr.out⟩
          rw [hst2] at hwn
          replace hwn := Lib.hid hwn
          replace hst2 := Lib.hid hst2
          clear l0 l1 l2 l3 l4 l5 k3 k4 k5
          go_wp2_with fail
          refine hwn.out.mono ?_
          rintro e w4 ⟨⟨v4, rfl⟩, F4, hW4, t4⟩
          have t5 := t3.out.trans t4
          replace hW4 := Lib.hid hW4
          replace t5 := Lib.hid t5
          clear t4
          go_wp2_with fail
          go_end0
          exact ⟨⟨_, rfl⟩, F4, hW4.out, t5.out⟩
        | true =>
          have hst2 : (⟨upd st.kn kq v, st.list, st.order ++ [(kq : Int)]⟩ : WSt) = st' := by have := hst'.out; simpa using this
          obtain ⟨gv2, cv2, e2, cvk, fvk, hgv, -, -⟩ := row_at hM3.out.vrow hkv
          cases e2
          obtain ⟨p1, p2⟩ := hM3.out.put_row 0 kq rfl (.int .i64 v) hkv
          rw [swPs_val _ _ _ _ _ _ _ _ _ _ (upd st.kn kq v)] at p1 p2
          have hM6 : SwAt E S m (.slice (some ⟨gv, 0, none⟩) vals.length cv) (.slice (some ⟨gl, 0, none⟩) st.list.length cl) (.slice (some ⟨gt, 0, none⟩) ts.length ct) (.slice Ao st.order.length co) (vals.set kq v) (ts.set q (wrap64 (ts[q] + 1))) ⟨upd st.kn kq v, st.list, st.order⟩ (w3.setCell ⟨gv, kq, none⟩ (.int .i64 v)) := p1
          have t6 := t3.out.trans p2
          have hsr6 := hsr.out.upd hkq hmk.out ⟨htr.out.1, htr.out.2.1⟩
          obtain ⟨y0, y1, y2, y3, y4, y5, g3, g4, g5, hz6⟩ := hM6.cells
          have hsz6 := hM6.size
          replace hst2 := Lib.hid hst2
          replace hM6 := Lib.hid hM6
          replace t6 := Lib.hid t6
          replace hsr6 := Lib.hid hsr6
          clear p1 p2 hM3 t3 l3 l4 k3 k4
          go_wp2_with (at_builtin; go_loud (with_reducible refine wpList_app1 (by rfl) (.tmp 82) (.tmp 84) 26 (by rfl) intTy E.B (.slice Ao st.order.length co) st.order.length (ints st.order) (by with_unfolding_all rfl) (hM6.out.order.alloc _) w3.heap.size 1 [.int .i64 kq] (by with_unfolding_all rfl) (by with_unfolding_all rfl) ⟨_, _, heap_new (by simp), rfl⟩ (one_int _ _) ?_ ?_ ?_ ?_))
          · unfold maxLen; omega
          · omega
          · first | omega | (simp; omega) | (simp at hsz6 ⊢; omega)
          intro g7 cap7 w7 hown7 hgrow7 hat7
          have hMb := hM6.out.alloc (.cells #[.int .i64 kq] 3 (0, 0))
          have hblk7 := (hgrow7.block m (block_lt hMb.blk) (fun e => hMb.far _ (List.mem_of_getElem? (i := 3) rfl) e.symm)).trans hMb.blk
          have z6 : w7.cell? ⟨m, 5, none⟩ = some (.slice Ao st.order.length co) := (cellm hblk7 5).trans rfl
          have fz6 : w7.frozen? ⟨m, 5, none⟩ = false := frozenm hblk7 5
          have hset7 := hMb.set_row 3 5 rfl (xs' := ints (st.order ++ [(kq : Int)])) hgrow7 (by simpa [ints_append, ints] using hown7) (fun i hi => by cases hi; exact hat7.imp id (fun e => by simp at e ⊢; omega))
          have t8 := (t6.out.alloc (.cells #[.int .i64 kq] 3 (0, 0))).trans hset7.2
          have hM8 := hset7.1
          have hps := swPs_order E (.slice (some ⟨gv, 0, none⟩) vals.length cv) (.slice (some ⟨gl, 0, none⟩) st.list.length cl) (.slice (some ⟨gt, 0, none⟩) ts.length ct) (.slice Ao st.order.length co) (.slice (some ⟨g7, 0, none⟩) (st.order.length + 1) cap7) (vals.set kq v) (ts.set q (wrap64 (ts[q] + 1))) ⟨upd st.kn kq v, st.list, st.order⟩ kq
          dsimp only at hps hM8 t8
          rw [hps] at hM8 t8
          replace hM8 := Lib.hid hM8
          replace t8 := Lib.hid t8
          clear hown7 hgrow7 hat7 hMb hblk7 hset7 hM6 t6 hps
          go_wp2_with fail
          go_end0
          rw [← hst2.out]
          exact ⟨⟨_, rfl⟩, _, ⟨_, _, _, _, vals.set kq v, ts.set q (wrap64 (ts[q] + 1)), hM8.out, rfl, by rw [List.length_set]; exact htl.out, hsr6.out⟩, t8.out⟩
end Go.Proofs.Ytpccgdkidnkppaa
