import Derived.Deep.QuietTactic
import Derived.BigQuiet
import Derived.Deep.RegionHeld3
import Derived.OpenShut
import Derived.Test.YtpccgdkidnkppaaPk1FnOrderFits
import Derived.Test.YtpccgdkidnkppaaPk9FnOrderFits
import Derived.Test.YtpccgdkidnkppaaPk13FnOrderFits
import Derived.Test.YtpccgdkidnkppaaPk17FnOrderFits
set_option linter.unusedVariables false
set_option linter.unusedSimpArgs false
namespace Go.Proofs.Ytpccgdkidnkppaa
open Go Go.RowKit

set_option maxHeartbeats 2000000 in
theorem l2Uses_calls (A : Option Addr) (c : Nat) (l : List (Int × Int)) (B : Nat) (w0 w : World) (hb : Below B w0 w) (hB : B ≤ w.heap.size) (hl : l.length ≤ 1000) (hx : FetsAt B w0 A l) :
    Calls Try.prog 58 #[.slice A l.length c] w fun e w' => ∃ v, e = .returned v ∧ w'.ownsRow w.heap.size 3 1 v (usesL l []).length (ints (usesL l [])) ∧ Below w.heap.size w w' := by
  have hhas := fun (Ao : Option Addr) (co : Nat) (out : List Int) (k : Int) (w1 : World) (ho : IntsAt w1.heap.size w1 Ao out) (hol : out.length ≤ maxLen) => l2Has_calls Ao co out k w1.heap.size w1 w1 (Below.refl _ _) (Nat.le_refl _) hol ho
  obtain ⟨R, hR⟩ : ∃ R, usesL l [] = R := ⟨_, rfl⟩
  rw [hR]
  have hown0 : (w.alloc (.cells #[] 3 (0, 0))).ownsRow w.heap.size 3 1 (.slice (some ⟨w.heap.size, 0, none⟩) 0 0) 0 (ints []) := by
    simpa [ints] using World.ownsRow_made (base := w.heap.size) w #[] 0 (Nat.le_refl _) (by simp [maxLen]) rfl
  replace hhas := Lib.hid hhas
  replace hx := Lib.hid hx
  replace hb := Lib.hid hb
  replace hR := Lib.hid hR
  replace hown0 := Lib.hid hown0
  go_enter Try.func58, Try.ntmps58
  go_wp2_with fail
  go_loopw [3, 4] (fun o i wr => ∃ (j : Nat) (out : List Int), j ≤ l.length ∧ i = .int .i64 j ∧ out.length ≤ j ∧ Hid (wr.ownsRow w.heap.size 3 1 o out.length (ints out)) ∧ Hid (Below w.heap.size w wr) ∧ Hid (usesL l [] = usesL (l.drop j) out)) (fun _ i _ => l.length - (intOf i).toNat)
  case atStart => exact ⟨0, [], Nat.zero_le _, rfl, Nat.le_refl _, hown0, Lib.hid (below_al (Below.refl _ _) _), Lib.hid rfl⟩
  case round =>
    obtain ⟨j, out, hj, rfl, hol, hown, hw, he⟩ := hrel
    by_cases hlt : j < l.length
    · have he2 := he.out
      rw [List.drop_eq_getElem_cons hlt, usesL] at he2
      obtain ⟨b, o, rfl, hbb, y0, -⟩ := hx.out.at (below_up' hb.out hB hw.out) (Nat.le_trans hB hw.out.size) j hlt
      generalize l[j] = f at *
      obtain ⟨k, v⟩ := f
      dsimp only at y0 he2
      obtain ⟨Ao, co, rfl, ho1, ho2, hi3⟩ := ownsRow_ints hown.out
      have hcall := hhas.out Ao co out k wr hi3 (Nat.le_trans ho1 ho2)
      have hwz := hw.out.size
      unfold maxLen at ho2
      cases hany : out.contains k with
      | true =>
        rw [hany] at hcall he2
        simp only [if_true] at he2
        replace he2 := Lib.hid he2
        replace hcall := Lib.hid hcall
        replace hany := Lib.hid hany
        clear he hi3
        go_wp2_with fail
        refine hcall.out.mono ?_
        rintro e w5 ⟨rfl, rfl⟩
        go_wp2_with fail
        go_roundw
        case rel => exact ⟨j + 1, out, by omega, by go_num, by omega, hown, hw, he2⟩
        case measure => simp [intOf]; omega
      | false =>
        rw [hany] at hcall he2
        simp only [Bool.false_eq_true, if_false] at he2
        replace he2 := Lib.hid he2
        replace hcall := Lib.hid hcall
        replace hany := Lib.hid hany
        clear he hi3
        go_wp2_with fail
        refine hcall.out.mono ?_
        rintro e w5 ⟨rfl, rfl⟩
        go_wp2_with (at_builtin; go_loud (with_reducible refine wpList_app1 (by rfl) (.tmp 20) (.tmp 26) 26 (by rfl) intTy w.heap.size (.slice Ao out.length co) out.length (ints out) (by with_unfolding_all rfl) (hown.out.alloc _) wr.heap.size 1 [.int .i64 k] (by with_unfolding_all rfl) (by with_unfolding_all rfl) ⟨_, _, heap_alloc_new wr _, rfl⟩ (one_int _ _) ?_ ?_ ?_ ?_))
        · unfold maxLen; omega
        · omega
        · simp; omega
        intro g7 cap w7 hown7 hgrow7 hat7
        have hw7 := (hw.out.alloc hwz _).grown hgrow7 (by simp; omega) (fun i hi => (hown.out.lt i hi).1)
        have hown7' : w7.ownsRow w.heap.size 3 1 (.slice (some ⟨g7, 0, none⟩) (out.length + 1) cap) (out ++ [k]).length (ints (out ++ [k])) := by
          rw [ints_append, List.length_append, List.length_singleton]; exact hown7
        replace hw7 := Lib.hid hw7
        replace hown7' := Lib.hid hown7'
        clear hown7 hgrow7 hat7
        go_wp2_with fail
        go_roundw
        case rel => exact ⟨j + 1, out ++ [k], by omega, by go_num, by simp; omega, hown7', hw7, he2⟩
        case measure => simp [intOf]; omega
    · have hd : l.drop j = [] := List.drop_eq_nil_of_le (by omega)
      have he2 := he.out
      rw [hd, usesL] at he2
      replace he2 := Lib.hid he2
      replace hd := Lib.hid hd
      clear he
      go_wp2_with fail
      go_ret
      rw [← hR.out, he2.out]
      exact ⟨_, rfl, hown.out, hw.out⟩

theorem fits_keys {S : Sh} {vals order : List Int} (h : keysOk S.made.length order = false) : fitsP S vals order = false := by
  cases hf : fitsP S vals order with
  | false => rfl
  | true =>
    exfalso
    have : keysOk S.made.length order = true := by
      rw [keysOk_iff]
      intro k hk
      obtain ⟨i, hi, rfl⟩ := List.getElem_of_mem hk
      have h2 := fitsP_iff.1 hf i hi
      unfold fitAt at h2
      rw [Bool.and_eq_true, Bool.and_eq_true] at h2
      exact mkK_range (by rw [h2.1.1]; simp)
    rw [h] at this; cases this

set_option maxRecDepth 20000 in
set_option maxHeartbeats 8000000 in
theorem specOrderFits_good (E : MkEnv) (S : Sh) (hE : E.Good S) (hnod : ∀ T ∈ S.tks.map Tk.enc, nodes T ≤ 1000000000) (Ak : Option Addr) (ck : Nat) (order : List Int) (w : World) (hb : Below E.B E.w0 w) (hB : E.B ≤ w.heap.size) (hx : IntsAt E.B E.w0 Ak order) (hl : order.length ≤ ck) (hm : ck ≤ maxLen) :
    Calls Try.prog 13 #[.agg #[.slice E.Am S.made.length E.cm, .slice E.At S.tks.length E.ct], .slice E.Ai S.inputs.length E.ci, .slice Ak order.length ck] w fun e w' =>
      e = .returned (.bool (orderFitsP S order)) ∧ Below w.heap.size w w' := by
  have hten := hE.ok.ten
  have hml := Nat.le_trans hl hm
  have hc1 := fun w1 (hw : Below w.heap.size w w1) => specBuildAll_good E S hE hnod w1 (below_up' hb hB hw) (Nat.le_trans hB hw.size)
  rw [← all_same hE.ok] at hc1
  have hc2 := fun w1 (hw : Below w.heap.size w w1) => l4Keys_calls E.Am E.At Ak E.cm E.ct ck S.made (S.tks.map Tk.enc) order E.B E.w0 w1 (below_up' hb hB hw) (Nat.le_trans hB hw.size) hE.sheet hnod (by omega) hml hx
  rw [hE.ok.sheet, Bool.and_true] at hc2
  simp only [List.length_map] at hc2
  have hc3 := fun (j : Nat) (hj : j < order.length) (k : Int) w1 (hw : Below w.heap.size w w1) => by
    have h := l2Has_calls Ak ck (order.take j) k E.B E.w0 w1 (below_up' hb hB hw) (Nat.le_trans hB hw.size) (by rw [List.length_take]; omega) (take_at hx j)
    rw [show (order.take j).length = j by rw [List.length_take]; omega] at h
    exact h
  have hall := fun all (h : buildAllP S = (all, true)) => all_law hE.ok h
  have hlen := hE.ok.len
  have hc4 := fun (vals : List Int) (hvl : vals.length ≤ 10) (hvr : ∀ x ∈ vals, 0 ≤ x ∧ x ≤ 96) (q : Nat) (hq : q < S.tks.length) (A : Option Addr) (c : Nat) (hc : S.tks[q].enc.parts.length ≤ c) (hp : PartsIs E.B E.w0 A 0 S.tks[q].enc.parts) (Av : Option Addr) (cv : Nat) (w1 : World) (hw : Below w.heap.size w w1) (hv : IntsAt w1.heap.size w1 Av vals) =>
    l2Run_calls S.tks[q] A c vals Av cv w1.heap.size w1 w1 (Below.refl _ _) (Nat.le_refl _) (hE.ok.tks _ (List.getElem_mem hq)) (fets_small (hE.ok.okT hq)) hc (PartsIs.up (below_up' hb hB hw) (Nat.le_trans hB hw.size) _ _ _ hp) (by unfold maxLen; omega) hv hvr
  have hfe := fun (vals : List Int) (q : Nat) (hq : q < S.tks.length) => Nat.le_trans (fetched_length S.tks[q] vals) (fets_small (hE.ok.okT hq))
  have huk := fun (vals : List Int) (q : Nat) (hq : q < S.tks.length) => usesP_keys (hE.ok.tks _ (List.getElem_mem hq)) vals
  have hfk := fun vals => fits_keys (S := S) (vals := vals) (order := order)
  unfold orderFitsP
  obtain ⟨P, hP⟩ : ∃ P, buildAllP S = P := ⟨_, rfl⟩
  rw [hP] at hc1 hall ⊢
  obtain ⟨vals, ok⟩ := P
  dsimp only at hc1 hall ⊢
  unfold maxLen at hm hml
  replace hc1 := Lib.hid hc1
  replace hc2 := Lib.hid hc2
  replace hc3 := Lib.hid hc3
  replace hc4 := Lib.hid hc4
  replace hb := Lib.hid hb
  replace hE := Lib.hid hE
  replace hx := Lib.hid hx
  replace hlen := Lib.hid hlen
  replace hfe := Lib.hid hfe
  replace huk := Lib.hid huk
  replace hfk := Lib.hid hfk
  replace hP := Lib.hid hP
  clear hnod
  go_enter Try.func13, Try.ntmps13
  go_wp2_with fail
  refine (hc1.out _ (below_al (Below.refl _ _) _)).mono ?_
  rintro e w1 ⟨v1, rfl, hown1, h1⟩
  dsimp only at hown1
  have x0 : w1.cell? ⟨w.heap.size, 0, none⟩ = some (.slice E.Am S.made.length E.cm) := (h1.cell (p := ⟨w.heap.size, 0, none⟩) (by simp)).trans (by simp)
  have x1 : w1.cell? ⟨w.heap.size, 1, none⟩ = some (.slice E.At S.tks.length E.ct) := (h1.cell (p := ⟨w.heap.size, 1, none⟩) (by simp)).trans (by simp)
  have b1 := below_from h1
  have s1 : w.heap.size < w1.heap.size := by have := h1.size; simp at this; omega
  obtain ⟨Av, cv, rfl, -, -, hi1⟩ := ownsRow_ints hown1
  replace b1 := Lib.hid b1
  replace hi1 := Lib.hid hi1
  clear h1 hown1 hc1
  cases ok with
  | false =>
    go_wp2_with fail
    go_ret
    exact ⟨rfl, b1.out⟩
  | true =>
    obtain ⟨hvl, hvr, -, -⟩ := hall vals rfl
    have hc4' := hc4.out vals (by omega) hvr
    replace hc4' := Lib.hid hc4'
    replace hvr := Lib.hid hvr
    replace hvl := Lib.hid hvl
    clear hall hc4
    have hcall := hc2.out w1 b1.out
    cases hko : keysOk S.made.length order with
    | false =>
      rw [hko] at hcall
      have hf := hfk.out vals hko
      replace hf := Lib.hid hf
      replace hcall := Lib.hid hcall
      replace hko := Lib.hid hko
      go_wp2_with fail
      refine hcall.out.mono ?_
      rintro e w2 ⟨rfl, h2⟩
      have b2 := below_up b1.out h2
      replace b2 := Lib.hid b2
      clear h2 hcall x0 x1
      go_wp2_with fail
      go_ret
      exact ⟨by rw [hf.out]; rfl, b2.out⟩
    | true =>
      rw [hko] at hcall
      have hrg := keysOk_iff.1 hko
      replace hcall := Lib.hid hcall
      replace hko := Lib.hid hko
      replace hrg := Lib.hid hrg
      go_wp2_with fail
      refine hcall.out.mono ?_
      rintro e w2 ⟨rfl, h2⟩
      have y0 := kept_cell h2 s1 x0
      have y1 := kept_cell h2 s1 x1
      have b2 := below_up b1.out h2
      have s2 : w.heap.size < w2.heap.size := by have := h2.size; omega
      have hi2 := hi1.out.up h2 h2.size
      replace b2 := Lib.hid b2
      replace hi2 := Lib.hid hi2
      replace y0 := Lib.hid y0
      replace y1 := Lib.hid y1
      clear h2 hcall x0 x1 b1 hi1 s1
      go_wp2_with fail
      go_loopw [9, 10, 11, 12, 13, 14] (fun i _ _ _ _ _ wr => ∃ (j : Nat), j ≤ order.length ∧ i = .int .i64 j ∧ Hid (Below w2.heap.size w2 wr) ∧ Hid (fitsP S vals order = fitsL S vals order j)) (fun i _ _ _ _ _ _ => order.length - (intOf i).toNat)
      case atStart => exact ⟨0, Nat.zero_le _, rfl, Lib.hid (Below.refl _ _), Lib.hid rfl⟩
      case round =>
        obtain ⟨j, hj, rfl, hw, he⟩ := hrel
        by_cases hlt : j < order.length
        · have he2 := he.out
          rw [fitsL_step hlt] at he2
          unfold fitAt at he2
          have hwr := b2.out.trans (hw.out.mono b2.out.size)
          obtain ⟨b, o, rfl, hbb, y⟩ := hx.out.at (below_up' hb.out hB hwr) (Nat.le_trans hB hwr.size) j hlt
          have hkr := hrg.out _ (List.getElem_mem hlt)
          have hc3' := hc3.out j hlt
          generalize order[j] = k at *
          obtain ⟨q, rfl⟩ := Int.eq_ofNat_of_zero_le hkr.1
          have hq : q < S.made.length := by omega
          have hqt : q < S.tks.length := by have := hlen.out; omega
          have hmkq : mkK S.made q = S.made[q] := by unfold mkK; rw [if_neg (by omega), Int.toNat_natCast, getD_at _ hq]
          obtain ⟨bm, om, em, hbm, cm⟩ := hE.out.sheet.made.at (below_up' hb.out hB hwr) (Nat.le_trans hB hwr.size) q hq
          obtain ⟨bt, ot, At', ct', et, hbt, ht0, ht1, ht2, htc, htm, htp⟩ := hE.out.sheet.tasks.at (below_up' hb.out hB hwr) q (by simpa using hqt)
          simp only [List.getElem_map] at ht0 ht1 ht2 htc htp
          have hbt3 : bt < wr.heap.size := Nat.lt_of_lt_of_le hbt (Nat.le_trans hB hwr.size)
          have z0 := (hw.out.cell (p := ⟨w.heap.size, 0, none⟩) s2).trans y0.out
          have z1 := (hw.out.cell (p := ⟨w.heap.size, 1, none⟩) s2).trans y1.out
          rw [em] at z0
          rw [et] at z1
          replace em := Lib.hid em
          replace et := Lib.hid et
          have hz : w.heap.size < wr.heap.size := by have := hw.out.size; omega
          have hjc : j ≤ ck := by omega
          have hmade := fun (r : Nat) (hr : r < S.made.length) (w9 : World) (h9 : Below w.heap.size w w9) => hE.out.sheet.made.at (below_up' hb.out hB h9) (Nat.le_trans hB h9.size) r hr
          have hrun := hc4'.out q hqt At' ct' htc htp Av cv wr hwr (hi2.out.up hw.out hw.out.size)
          have hfl := hfe.out vals q hqt
          have huk' := huk.out vals q hqt
          rw [tk_at hqt] at he2
          have hus : usesP S.tks[q] vals = usesL (fetchedP S.tks[q] vals).2 [] := rfl
          rw [hus] at he2 huk'
          have hul := usesL_length (fetchedP S.tks[q] vals).2 []
          simp only [List.length_nil, Nat.add_zero] at hul
          generalize fetchedP S.tks[q] vals = FP at *
          obtain ⟨⟨fv, fo⟩, l⟩ := FP
          dsimp only at he2 huk' hul hfl hrun
          rw [hmkq] at he2
          generalize S.made[q] = mq at *
          generalize hT : order.take j = T at *
          replace hc3' := Lib.hid hc3'
          replace hrun := Lib.hid hrun
          replace hwr := Lib.hid hwr
          replace hmade := Lib.hid hmade
          replace huk' := Lib.hid huk'
          replace hT := Lib.hid hT
          clear hkr hmkq hus htc htp htm he
          cases mq with
          | false =>
            simp only [Bool.false_and] at he2
            replace he2 := Lib.hid he2
            go_wp2_with fail
            go_ret
            exact ⟨by rw [he2.out]; rfl, hwr.out⟩
          | true =>
            simp only [Bool.true_and] at he2
            have hcont := hc3'.out q wr hwr.out
            cases hcn : T.contains (q : Int) with
            | true =>
              rw [hcn] at hcont he2
              simp only [Bool.not_true, Bool.false_and] at he2
              replace he2 := Lib.hid he2
              replace hcont := Lib.hid hcont
              replace hcn := Lib.hid hcn
              go_wp2_with fail
              refine hcont.out.mono ?_
              rintro e w6 ⟨rfl, rfl⟩
              go_wp2_with fail
              go_ret
              exact ⟨by rw [he2.out]; rfl, hwr.out⟩
            | false =>
              rw [hcn] at hcont he2
              simp only [Bool.not_false, Bool.true_and] at he2
              replace he2 := Lib.hid he2
              replace hcont := Lib.hid hcont
              replace hcn := Lib.hid hcn
              go_wp2_with fail
              refine hcont.out.mono ?_
              rintro e w6 ⟨rfl, rfl⟩
              clear hcont
              go_wp2_with fail
              refine hrun.out.mono ?_
              rintro e w7 ⟨v7, rfl, hown7, h7⟩
              have hw7 := below_up hw.out h7
              have hwr7 := below_up hwr.out h7
              obtain ⟨Af, cf, rfl, -, -, hf7⟩ := fets_own hown7
              have huc := l2Uses_calls Af cf l w7.heap.size w7 w7 (Below.refl _ _) (Nat.le_refl _) (by omega) hf7
              generalize usesL l [] = U at *
              replace hw7 := Lib.hid hw7
              replace hwr7 := Lib.hid hwr7
              replace huc := Lib.hid huc
              clear h7 hown7 hf7 z0 z1 cm hrun hwr hz ht0 ht1 ht2 hbt3 hw y hbm
              go_wp2_with fail
              refine huc.out.mono ?_
              rintro e w8 ⟨v8, rfl, hown8, h8⟩
              have hw8 := below_up hw7.out h8
              have hwr8 := below_up hwr7.out h8
              obtain ⟨Au, cu, rfl, hu1, hu2, hi8⟩ := ownsRow_ints hown8
              unfold maxLen at hu2
              replace hw8 := Lib.hid hw8
              replace hwr8 := Lib.hid hwr8
              replace hi8 := Lib.hid hi8
              clear h8 hown8 huc hw7 hwr7
              go_wp2_with fail
              go_loopw [14] (fun i wr => ∃ (a : Nat), a ≤ U.length ∧ i = .int .i64 a ∧ Hid (Below w8.heap.size w8 wr) ∧ Hid ((U.all fun x => !mkK S.made x || T.contains x) = (U.drop a).all fun x => !mkK S.made x || T.contains x)) (fun i _ => U.length - (intOf i).toNat)
              case atStart => exact ⟨0, Nat.zero_le _, rfl, Lib.hid (Below.refl _ _), Lib.hid rfl⟩
              case round =>
                obtain ⟨a, ha, rfl, hwi, hV⟩ := hrel
                have hwri := hwr8.out.trans (hwi.out.mono hwr8.out.size)
                have hwi2 := hw8.out.trans (hwi.out.mono hw8.out.size)
                by_cases hla : a < U.length
                · have hV2 := hV.out
                  rw [List.drop_eq_getElem_cons hla, List.all_cons] at hV2
                  obtain ⟨b2', o2, rfl, hb2', y2⟩ := hi8.out.at hwi.out hwi.out.size a hla
                  have hxr := huk'.out _ (List.getElem_mem hla)
                  have hcall := fun (w9 : World) (h9 : Below w.heap.size w w9) => hc3'.out U[a] w9 h9
                  generalize U[a] = x at *
                  obtain ⟨r, rfl⟩ := Int.eq_ofNat_of_zero_le hxr.1
                  have z0 := (hwi2.cell (p := ⟨w.heap.size, 0, none⟩) s2).trans y0.out
                  rw [em.out] at z0
                  have hz : w.heap.size < wr.heap.size := by have := hwi2.size; omega
                  by_cases hrn : r < S.made.length
                  · have hmkr : mkK S.made r = S.made[r] := by unfold mkK; rw [if_neg (by omega), Int.toNat_natCast, getD_at _ hrn]
                    obtain ⟨bm', om', em', hbm, cm⟩ := hmade.out r hrn wr hwri
                    rw [em.out] at em'
                    cases em'
                    rw [hmkr] at hV2
                    generalize S.made[r] = mr at *
                    have hd1 : decide ((r : Int) < (S.made.length : Int)) = true := by simp; omega
                    replace hwri := Lib.hid hwri
                    replace hwi2 := Lib.hid hwi2
                    cases mr with
                    | false =>
                      simp only [Bool.not_false, Bool.true_or, Bool.true_and] at hV2
                      replace hV2 := Lib.hid hV2
                      replace hcall := Lib.hid hcall
                      replace hmkr := Lib.hid hmkr
                      go_wp2_with fail
                      go_quiet (fail)
                      go_wp2_with fail
                      go_roundw
                      case rel => exact ⟨a + 1, by omega, by go_num, Lib.hid (below_drewN hwi.out _), hV2⟩
                      case measure => simp [intOf]; omega
                    | true =>
                      simp only [Bool.not_true, Bool.false_or] at hV2
                      cases hcx : T.contains (r : Int) with
                      | true =>
                        rw [hcx] at hcall hV2
                        simp only [Bool.true_and] at hV2
                        replace hV2 := Lib.hid hV2
                        replace hcall := Lib.hid hcall
                        replace hmkr := Lib.hid hmkr
                        replace hcx := Lib.hid hcx
                        go_wp2_with fail
                        go_quiet ((go_at_call 56; exact Calls.quiet_of_same ((hcall.out _ (below_drewN hwri.out _)).mono fun _ _ h => ⟨h.1, h.2.symm⟩)))
                        go_wp2_with fail
                        go_roundw
                        case rel => exact ⟨a + 1, by omega, by go_num, Lib.hid (below_drewN hwi.out _), hV2⟩
                        case measure => simp [intOf]; omega
                      | false =>
                        rw [hcx] at hcall hV2
                        simp only [Bool.false_and] at hV2
                        have he3 := he2.out
                        rw [hV2, Bool.false_and] at he3
                        replace he3 := Lib.hid he3
                        replace hV2 := Lib.hid hV2
                        replace hcall := Lib.hid hcall
                        replace hmkr := Lib.hid hmkr
                        replace hcx := Lib.hid hcx
                        go_wp2_with fail
                        go_quiet ((go_at_call 56; exact Calls.quiet_of_same ((hcall.out _ (below_drewN hwri.out _)).mono fun _ _ h => ⟨h.1, h.2.symm⟩)))
                        go_wp2_with fail
                        go_ret
                        exact ⟨by rw [he3.out]; rfl, below_drewN hwri.out _⟩
                  · have hmkr : mkK S.made r = false := by
                      cases h : mkK S.made r with
                      | false => rfl
                      | true => have := mkK_range (show mkK S.made r ≠ false by rw [h]; simp); omega
                    rw [hmkr] at hV2
                    simp only [Bool.not_false, Bool.true_or, Bool.true_and] at hV2
                    have hd1 : decide ((r : Int) < (S.made.length : Int)) = false := by simp; omega
                    replace hV2 := Lib.hid hV2
                    replace hcall := Lib.hid hcall
                    replace hmkr := Lib.hid hmkr
                    replace hwri := Lib.hid hwri
                    replace hwi2 := Lib.hid hwi2
                    go_wp2_with fail
                    go_quiet (fail)
                    go_wp2_with fail
                    go_roundw
                    case rel => exact ⟨a + 1, by omega, by go_num, Lib.hid (below_drewN hwi.out _), hV2⟩
                    case measure => simp [intOf]; omega
                · have hV2 := hV.out
                  rw [List.drop_eq_nil_of_le (by omega)] at hV2
                  have he3 := he2.out
                  rw [hV2] at he3
                  simp only [List.all_nil, Bool.true_and] at he3
                  replace he3 := Lib.hid he3
                  replace hV2 := Lib.hid hV2
                  replace hwi2 := Lib.hid hwi2
                  replace hwri := Lib.hid hwri
                  go_wp2_with fail
                  go_roundw
                  case rel => exact ⟨j + 1, by omega, by go_num, hwi2, he3⟩
                  case measure => simp [intOf]; omega
        · have he2 := he.out
          rw [fitsL_end hlt] at he2
          replace he2 := Lib.hid he2
          go_wp2_with fail
          go_ret
          exact ⟨by rw [he2.out]; rfl, b2.out.trans (hw.out.mono b2.out.size)⟩
end Go.Proofs.Ytpccgdkidnkppaa

set_option linter.unusedVariables false
set_option linter.unusedSimpArgs false
namespace Go.Proofs.Ytpccgdkidnkppaa
open Go Go.RowKit

set_option maxHeartbeats 1000000 in
theorem orderFits_bad (Am At Ai Ak : Option Addr) (cm ct ci ck : Nat) (made : List Bool) (tasks : List Task) (inputs order : List Int) (B : Nat) (w0 : World) (w : World) (hs : SheetAt B w0 Am cm At ct made tasks) (hi : IntsAt B w0 Ai inputs) (hli : inputs.length ≤ maxLen)
    (hb : Below B w0 w) (hB : B ≤ w.heap.size) (hbad : sheetOk made tasks = true → takesOk made.length inputs = false) :
    Calls Try.prog 16 #[.agg #[.slice Am made.length cm, .slice At tasks.length ct], .slice Ai inputs.length ci, .slice Ak order.length ck] w fun e w' => e = .returned (.bool false) ∧ Below w.heap.size w w' := by
  have hc1 := fun w1 (hw : Below w.heap.size w w1) => buildAll_bad Am At Ai cm ct ci made tasks inputs B w0 w1 hs hi hli (below_up' hb hB hw) (Nat.le_trans hB hw.size) hbad
  replace hc1 := Lib.hid hc1
  replace hbad := Lib.hid hbad
  clear hs hi hb
  go_enter Try.func16, Try.ntmps16
  go_wp2_with fail
  refine (hc1.out _ (below_al (Below.refl _ _) _)).mono ?_
  rintro e w1 ⟨rfl, h1⟩
  have b1 := below_from h1
  replace b1 := Lib.hid b1
  clear h1
  go_wp2_with fail
  go_ret
  exact ⟨rfl, b1.out⟩
set_option maxHeartbeats 1000000 in
theorem specOrderFits_bad (Am At Ai Ak : Option Addr) (cm ct ci ck : Nat) (made : List Bool) (tasks : List Task) (inputs order : List Int) (B : Nat) (w0 : World) (w : World) (hs : SheetAt B w0 Am cm At ct made tasks) (hi : IntsAt B w0 Ai inputs) (hli : inputs.length ≤ maxLen) (hnod : ∀ T ∈ tasks, nodes T ≤ 1000000000)
    (hb : Below B w0 w) (hB : B ≤ w.heap.size) (hbad : inputsOk made tasks inputs = false) :
    Calls Try.prog 13 #[.agg #[.slice Am made.length cm, .slice At tasks.length ct], .slice Ai inputs.length ci, .slice Ak order.length ck] w fun e w' => e = .returned (.bool false) ∧ Below w.heap.size w w' := by
  have hc1 := fun w1 (hw : Below w.heap.size w w1) => specBuildAll_bad Am At Ai cm ct ci made tasks inputs B w0 w1 hs hi hli hnod (below_up' hb hB hw) (Nat.le_trans hB hw.size) hbad
  replace hc1 := Lib.hid hc1
  replace hbad := Lib.hid hbad
  clear hs hi hb
  go_enter Try.func13, Try.ntmps13
  go_wp2_with fail
  refine (hc1.out _ (below_al (Below.refl _ _) _)).mono ?_
  rintro e w1 ⟨v1, rfl, -, h1⟩
  have b1 := below_from h1
  replace b1 := Lib.hid b1
  clear h1
  go_wp2_with fail
  go_ret
  exact ⟨rfl, b1.out⟩
end Go.Proofs.Ytpccgdkidnkppaa

set_option linter.unusedVariables false
set_option linter.unusedSimpArgs false
namespace Go.Proofs.Ytpccgdkidnkppaa
open Go Go.RowKit

theorem fits_both2 (made : List Bool) (tasks : List Task) (x1 x2 : List Int) (hnod : ∀ T ∈ tasks, nodes T ≤ 1000000000) :
    ∃ r : Bool, FitsC 16 made tasks x1 x2 r ∧ FitsC 13 made tasks x1 x2 r ∧ (r = true → FitsC 16 made tasks x1 (x2.take (x2.length - 1)) true) := by
  by_cases hgood : sheetOk made tasks = true ∧ takesOk made.length x1 = true
  · obtain ⟨h1, h2⟩ := hgood
    obtain ⟨tks, rfl, hS⟩ := ok_sh h1 h2
    refine ⟨orderFitsP ⟨made, tks, x1⟩ x2, fits_any hS x2, fun w Am At cm ct A1 c1 A2 c2 B w0 hb hB hs hi hl hc hi2 hl2 hc2 => ?_, fun hr => ?_⟩
    · have := specOrderFits_good ⟨Am, cm, At, ct, A1, c1, B, w0⟩ ⟨made, tks, x1⟩ ⟨hs, hi, hl, hc, hS⟩ hnod A2 c2 x2 w hb hB hi2 hl2 hc2
      simp only [List.length_map]
      exact this
    · have h := fits_any hS (x2.take (x2.length - 1))
      have hr2 : orderFitsP ⟨made, tks, x1⟩ (x2.take (x2.length - 1)) = true := by
        unfold orderFitsP at hr ⊢
        rw [Bool.and_eq_true] at hr ⊢
        exact ⟨hr.1, fits_last hr.2⟩
      rw [hr2] at h; exact h
  · have hbad : sheetOk made tasks = true → takesOk made.length x1 = false := fun a => by
      cases h : takesOk made.length x1 with
      | false => rfl
      | true => exact (hgood ⟨a, h⟩).elim
    refine ⟨false, fun w Am At cm ct A1 c1 A2 c2 B w0 hb hB hs hi hl hc hi2 hl2 hc2 => ?_, fun w Am At cm ct A1 c1 A2 c2 B w0 hb hB hs hi hl hc hi2 hl2 hc2 => ?_, fun h => by cases h⟩
    · exact orderFits_bad Am At A1 A2 cm ct c1 c2 made tasks x1 x2 B w0 w hs hi (Nat.le_trans hl hc) hb hB hbad
    · refine specOrderFits_bad Am At A1 A2 cm ct c1 c2 made tasks x1 x2 B w0 w hs hi (Nat.le_trans hl hc) hnod hb hB ?_
      unfold inputsOk
      cases h : sheetOk made tasks with
      | false => rfl
      | true => rw [hbad h]; rfl

set_option maxRecDepth 5000 in
set_option maxHeartbeats 8000000 in
theorem fnOrderFits_calls (A : Option Addr) (c : Nat) (bytes : List Int) (w : World) (hx : RowAt (fun b : Int => Value.int .u8 b) w.heap.size w A bytes) (hl : bytes.length ≤ c) (hc : c ≤ maxLen) (hby : ∀ b ∈ bytes, 0 ≤ b ∧ b ≤ 255) :
    Calls Try.prog 4 #[.slice A bytes.length c] w fun e w' => e = .returned (.bool true) ∧ Below w.heap.size w w' := by
  have hcm := hc
  unfold maxLen at hcm
  by_cases hbig : 1048576 < bytes.length
  · clear hx hby
    go_enter Try.func4, Try.ntmps4
    go_wp2_with fail
    go_ret
    exact ⟨rfl, Below.refl _ _⟩
  have hdr := drawOrderFits_calls A c bytes w.heap.size w w (Below.refl _ _) (Nat.le_refl _) hx hl hc hby
  replace hdr := Lib.hid hdr
  clear hx hby
  go_enter Try.func4, Try.ntmps4
  go_wp2_with fail
  refine hdr.out.mono ?_
  rintro e w1 ⟨Am, cm, At, ct, made, tasks, Ai, ci, inputs, Ak, ck, keys, rfl, ha, hb1⟩
  have hnod : ∀ T ∈ tasks, nodes T ≤ 1000000000 := fun T hT => by have := ha.base.nodes T hT; omega
  obtain ⟨rb, hI, hS, hF⟩ := fits_both2 made tasks inputs keys hnod
  have hkl := ha.klen
  have hkc := ha.kcap
  have hkm := ha.kmax
  have hI' := fun w2 (h : Below w1.heap.size w1 w2) => hI w2 Am At cm ct Ai ci Ak ck w1.heap.size w1 h h.size ha.base.sheet ha.base.ints ha.base.icap ha.base.imax ha.keysAt ha.kcap ha.kmax
  have hS' := fun w2 (h : Below w1.heap.size w1 w2) => hS w2 Am At cm ct Ai ci Ak ck w1.heap.size w1 h h.size ha.base.sheet ha.base.ints ha.base.icap ha.base.imax ha.keysAt ha.kcap ha.kmax
  have hF' := fun (hr : rb = true) (hk0 : 1 ≤ keys.length) w2 (h : Below w1.heap.size w1 w2) => by
    have := hF hr w2 Am At cm ct Ai ci Ak ck w1.heap.size w1 h h.size ha.base.sheet ha.base.ints ha.base.icap ha.base.imax (take_at ha.keysAt _) (by rw [List.length_take]; omega) ha.kmax
    rw [List.length_take, Nat.min_eq_left (by omega)] at this
    exact this
  have hal := below_al (Below.refl w1.heap.size w1) (.cells #[.slice Am made.length cm, .slice At tasks.length ct] 31 (0, 0))
  replace hI := Lib.hid hI'
  replace hS := Lib.hid hS'
  replace hF := Lib.hid hF'
  replace hal := Lib.hid hal
  replace hb1 := Lib.hid hb1
  clear ha hdr hnod hI' hS' hF'
  unfold maxLen at hkm
  go_wp2_with fail
  refine (hI.out _ hal.out).mono ?_
  rintro e w2 ⟨rfl, h2⟩
  have x0 : w2.cell? ⟨w1.heap.size, 0, none⟩ = some (.slice Am made.length cm) := (h2.cell (p := ⟨w1.heap.size, 0, none⟩) (by simp)).trans (by simp)
  have x1 : w2.cell? ⟨w1.heap.size, 1, none⟩ = some (.slice At tasks.length ct) := (h2.cell (p := ⟨w1.heap.size, 1, none⟩) (by simp)).trans (by simp)
  have s2 : w1.heap.size < w2.heap.size := by have := h2.size; simp at this; omega
  have b2 : Below w1.heap.size w1 w2 := below_from h2
  replace b2 := Lib.hid b2
  clear h2 hI
  go_wp2_with fail
  refine (hS.out _ b2.out).mono ?_
  rintro e w3 ⟨rfl, h3⟩
  have y0 := kept_cell h3 s2 x0
  have y1 := kept_cell h3 s2 x1
  have s3 : w1.heap.size < w3.heap.size := by have := h3.size; omega
  have b3 := b2.out.trans (h3.mono (Nat.le_of_lt s2))
  have hneq : (rb != rb) = false := by cases rb <;> rfl
  replace b3 := Lib.hid b3
  clear h3 x0 x1 b2 hS
  cases rb with
  | false =>
    go_wp2_with fail
    go_quiet (fail)
    go_wp2_with fail
    go_ret
    exact ⟨rfl, hb1.out.trans ((below_drewN b3.out _).mono hb1.out.size)⟩
  | true =>
    by_cases hk0 : keys.length = 0
    · have hkb : ((keys.length : Int) == 0) = true := by simp [hk0]
      replace hk0 := Lib.hid hk0
      go_wp2_with fail
      go_quiet (fail)
      go_wp2_with fail
      go_ret
      exact ⟨rfl, hb1.out.trans ((below_drewN b3.out _).mono hb1.out.size)⟩
    · have hkb : ((keys.length : Int) == 0) = false := by rw [beq_eq_false_iff_ne]; omega
      have hk1 : 1 ≤ keys.length := by omega
      have hF2 := hF.out rfl hk1 w3.drew b3.out.drew
      have hsub : IntKind.i64.wrap ((keys.length : Int) - 1) = ((keys.length - 1 : Nat) : Int) := by rw [IntWalk.i64_in ((keys.length : Int) - 1) (by omega)]; omega
      have hle1 : keys.length - 1 ≤ keys.length := by omega
      have hle2 : keys.length - 1 ≤ ck := by omega
      replace hF2 := Lib.hid hF2
      replace hk0 := Lib.hid hk0
      go_wp2_with fail
      go_region_held3 (fun w' => w'.cell? ⟨w1.heap.size, 0, none⟩ = some (.slice Am made.length cm) ∧ w'.cell? ⟨w1.heap.size, 1, none⟩ = some (.slice At tasks.length ct)) (first | exact ⟨l0, l1⟩ | exact ⟨y0, y1⟩)
        (first | (go_at_call 16; refine hF2.out.mono ?_; rintro e w4 ⟨rfl, h4⟩; have l0 := kept_cell h4 s3 y0; have l1 := kept_cell h4 s3 y1; have b4 : Hid (Below w1.heap.size w1 w4) := Lib.hid (b3.out.drew.trans (h4.mono b3.out.size))))
      all_goals
        go_wp2_with fail
        go_ret
        exact ⟨rfl, hb1.out.trans (b4.out.mono hb1.out.size)⟩
end Go.Proofs.Ytpccgdkidnkppaa

set_option linter.unusedVariables false
namespace Go.Proofs.Ytpccgdkidnkppaa
open Go Go.RowKit

theorem byte_row {w : World} {x : Addr} {zs : List Int} (len : Nat) (hcell : ∀ i, i < zs.length → w.cell? (x.add i) = some (.int .u8 (zs.getD i 0))) : RowAt (fun b : Int => Value.int .u8 b) w.heap.size w (some x) (zs.take len) := by
  intro i hi
  have hl : i < zs.length := by simp at hi; omega
  obtain ⟨b, off, rfl, h⟩ := ints_at hcell (by omega)
  have h1 := h i hl
  refine ⟨b, off, rfl, ?_, ?_⟩
  · by_cases hb : b < w.heap.size
    · exact hb
    · exfalso
      have h2 : w.heap[b]? = none := by simp; omega
      simp [World.cell?, h2] at h1
  · rw [h1]; simp [hl]
theorem byte_vals {zs : List Int} (len : Nat) (h : ∀ n ∈ zs, (Lit.int .u8 n).wf = true) : ∀ b ∈ zs.take len, 0 ≤ b ∧ b ≤ 255 :=
  fun b hb => bounds_u8 (h b (List.mem_of_mem_take hb))
end Go.Proofs.Ytpccgdkidnkppaa
