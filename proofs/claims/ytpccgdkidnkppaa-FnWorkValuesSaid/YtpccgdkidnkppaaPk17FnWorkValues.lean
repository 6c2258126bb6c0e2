import Derived.Deep.QuietTactic
import Derived.BigQuiet
import Derived.Test.YtpccgdkidnkppaaPk5FnWorkValues
import Derived.Test.YtpccgdkidnkppaaPk6FnWorkValues
import Derived.Test.YtpccgdkidnkppaaPk7FnWorkValues
import Derived.Test.YtpccgdkidnkppaaPk8FnWorkValues
import Derived.Test.YtpccgdkidnkppaaPk13FnWorkValues
import Derived.Test.YtpccgdkidnkppaaPk16FnWorkValues
set_option linter.unusedVariables false
set_option linter.unusedSimpArgs false
namespace Go.Proofs.Ytpccgdkidnkppaa
open Go Go.RowKit

theorem all_filter {p c : Int → Bool} : ∀ (l : List Int), l.all (fun j => !p j || c j) = (l.filter p).all c := by
  intro l
  induction l with
  | nil => rfl
  | cons x l ih =>
    rw [List.all_cons, ih]
    cases h : p x with
    | true => rw [List.filter_cons_of_pos h, List.all_cons]; rfl
    | false => rw [List.filter_cons_of_neg (by rw [h]; simp)]; rfl
/-- the made keys that a key fetches -/
def usesM (S : Sh) (vals : List Int) (k : Int) : List Int := (usesP (S.tk k) vals).filter (mkK S.made)
theorem fitAt_uses (S : Sh) (vals order : List Int) (i : Nat) (k : Int) : fitAt S vals order i k = (mkK S.made k && !(order.take i).contains k && (usesM S vals k).all fun j => (order.take i).contains j) := by
  unfold fitAt usesM
  rw [all_filter]
theorem valsOk_of {xs : List Int} (h1 : xs.length ≤ 10) (h2 : ∀ x ∈ xs, 0 ≤ x ∧ x ≤ 96) : valsOk xs = true := by
  unfold valsOk
  rw [vals_iff.2 h2]
  simp [h1]

set_option maxHeartbeats 2000000 in
theorem uses_calls (E : MkEnv) (S : Sh) (hE : E.Good S) (q : Nat) (hq : q < S.made.length) (hmq : mkK S.made q = true) (Av : Option Addr) (cv : Nat) (vals : List Int) (w : World) (hb : Below E.B E.w0 w) (hB : E.B ≤ w.heap.size) (hv : IntsAt w.heap.size w Av vals) (hvl : vals.length ≤ 10) (hvr : ∀ x ∈ vals, 0 ≤ x ∧ x ≤ 96) :
    Calls Try.prog 63 #[.agg #[.slice E.Am S.made.length E.cm, .slice E.At S.tks.length E.ct], .int .i64 q, .slice Av vals.length cv] w fun e w' =>
      ∃ v, e = .returned v ∧ w'.ownsRow w.heap.size 3 1 v (usesM S vals q).length (ints (usesM S vals q)) ∧ Below w.heap.size w w' := by
  have hql : q < S.tks.length := by have := hE.ok.len; omega
  have hten := hE.ok.ten
  have hok := hE.ok.tks S.tks[q] (List.getElem_mem _)
  have hokT := hE.ok.okT hql
  obtain ⟨bt, ot, At', ct', et, hbt, ht0, ht1, ht2, htc, htm, htp⟩ := hE.sheet.tasks.at hb q (by simpa using hql)
  simp only [List.getElem_map] at ht0 ht1 ht2 htc htp
  have hbt3 := Nat.lt_of_lt_of_le hbt hB
  have hc1 := fun w1 (hw : Below w.heap.size w w1) => taskUses_good S.tks[q] At' ct' vals Av cv w.heap.size w w1 hw hw.size hok hokT htc htm (PartsIs.up hb hB _ _ _ htp) (by unfold maxLen; omega) hv (valsOk_of hvl hvr)
  have hc2 := fun k w1 (hw : Below w.heap.size w w1) => makes_calls E.Am E.At E.cm S.tks.length E.ct k S.made E.B E.w0 w1 (below_up' hb hB hw) (Nat.le_trans hB hw.size) (Nat.le_trans hE.sheet.lm hE.sheet.mm) hE.sheet.made
  simp only [et] at hc2
  have hul := usesP_length S.tks[q] vals
  have hfs := fets_small hokT
  have hum : usesM S vals q = (usesP S.tks[q] vals).filter (mkK S.made) := by unfold usesM; rw [tk_at hql]
  rw [hum]
  generalize usesP S.tks[q] vals = U at *
  obtain ⟨R, hR⟩ : ∃ R, U.filter (mkK S.made) = R := ⟨_, rfl⟩
  rw [hR]
  have hUl : U.length ≤ 100 := by omega
  replace hc1 := Lib.hid hc1
  replace hc2 := Lib.hid hc2
  replace hR := Lib.hid hR
  replace hb := Lib.hid hb
  clear hok hokT htc htm htp hul hfs hum hv hE hmq
  go_enter Try.func63, Try.ntmps63
  go_wp2_with fail
  refine (hc1.out _ (below_al (Below.refl _ _) _)).mono ?_
  rintro e w1 ⟨v1, rfl, hown1, h1⟩
  have x0 : w1.cell? ⟨w.heap.size, 0, none⟩ = some (.slice E.Am S.made.length E.cm) := (h1.cell (p := ⟨w.heap.size, 0, none⟩) (by simp)).trans (by simp)
  have x1 : w1.cell? ⟨w.heap.size, 1, none⟩ = some (.slice (some ⟨bt, ot, none⟩) S.tks.length E.ct) := (h1.cell (p := ⟨w.heap.size, 1, none⟩) (by simp)).trans (by simp)
  have b1 := below_from h1
  have s1 : w.heap.size < w1.heap.size := by have := h1.size; simp at this; omega
  obtain ⟨A1, c1, rfl, hr1, hr2, hi1⟩ := ownsRow_ints hown1
  unfold maxLen at hr2
  replace b1 := Lib.hid b1
  replace hi1 := Lib.hid hi1
  replace x0 := Lib.hid x0
  replace x1 := Lib.hid x1
  clear h1 hown1 hc1 ht0 ht1 ht2
  go_wp2_with fail
  go_loopw [9, 11, 24] (fun o _ i wr => ∃ (j : Nat) (out : List Int), j ≤ U.length ∧ i = .int .i64 j ∧ out.length ≤ j ∧ Hid (out = (U.take j).filter (mkK S.made)) ∧ Hid (wr.ownsRow w1.heap.size 3 1 o out.length (ints out)) ∧ Hid (Below w1.heap.size w1 wr)) (fun _ _ i _ => U.length - (intOf i).toNat)
  case atStart => exact ⟨0, [], Nat.zero_le _, rfl, Nat.le_refl _, Lib.hid rfl, Lib.hid (World.ownsRow_nil _ _ _ _), Lib.hid (Below.refl _ _)⟩
  case round =>
    obtain ⟨j, out, hj, rfl, hol, hout, hown, hw⟩ := hrel
    by_cases hlt : j < U.length
    · obtain ⟨b, o, rfl, hbb, y⟩ := hi1.out.at hw.out hw.out.size j hlt
      have htk : (U.take (j + 1)).filter (mkK S.made) = out ++ (if mkK S.made U[j] then [U[j]] else []) := by
        rw [List.take_succ_eq_append_getElem hlt, List.filter_append, ← hout.out]
        cases h : mkK S.made U[j] <;> simp [h]
      generalize U[j] = k at *
      have y0 := (hw.out.cell (p := ⟨w.heap.size, 0, none⟩) s1).trans x0.out
      have y1 := (hw.out.cell (p := ⟨w.heap.size, 1, none⟩) s1).trans x1.out
      have hcall := hc2.out k wr (b1.out.trans (hw.out.mono b1.out.size))
      have hz : w.heap.size < wr.heap.size := by have := hw.out.size; omega
      cases hmk : mkK S.made k with
      | false =>
        rw [hmk] at hcall htk
        simp only [Bool.false_eq_true, if_false, List.append_nil] at htk
        replace htk := Lib.hid htk
        replace hcall := Lib.hid hcall
        replace hmk := Lib.hid hmk
        go_wp2_with fail
        refine hcall.out.mono ?_
        rintro e w5 ⟨rfl, h5⟩
        have hown5 := ownsRow_block hown.out (fun i hi => h5.block i (hown.out.lt i hi).2)
        have hw5 := below_up hw.out h5
        replace hown5 := Lib.hid hown5
        replace hw5 := Lib.hid hw5
        clear h5 y y0 y1 hown hcall
        go_wp2_with fail
        go_roundw
        case rel => exact ⟨j + 1, out, by omega, by go_num, by omega, Lib.hid htk.out.symm, hown5, hw5⟩
        case measure => simp [intOf]; omega
      | true =>
        rw [hmk] at hcall htk
        simp only [if_true] at htk
        replace htk := Lib.hid htk
        replace hcall := Lib.hid hcall
        replace hmk := Lib.hid hmk
        go_wp2_with fail
        refine hcall.out.mono ?_
        rintro e w5 ⟨rfl, h5⟩
        have hown5 := ownsRow_block hown.out (fun i hi => h5.block i (hown.out.lt i hi).2)
        have hw5 := below_up hw.out h5
        have hwz := hw5.size
        replace hown5 := Lib.hid hown5
        replace hw5 := Lib.hid hw5
        clear h5 y y0 y1 hown hcall
        go_wp2_with (at_builtin; go_loud (with_reducible refine wpList_app1 (by rfl) (.tmp 31) (.tmp 33) 26 (by rfl) intTy w1.heap.size u9 out.length (ints out) (by with_unfolding_all rfl) (hown5.out.alloc _) w5.heap.size 1 [.int .i64 k] (by with_unfolding_all rfl) (by with_unfolding_all rfl) ⟨_, _, heap_alloc_new w5 _, rfl⟩ (one_int _ _) ?_ ?_ ?_ ?_))
        · unfold maxLen; omega
        · omega
        · simp; omega
        intro g7 cap w7 hown7 hgrow7 hat7
        have hw7 : Below w1.heap.size w1 w7 := (hw5.out.alloc hwz _).grown hgrow7 (by simp; omega) (fun i hi => (hown5.out.lt i hi).1)
        have hown7' : w7.ownsRow w1.heap.size 3 1 (.slice (some ⟨g7, 0, none⟩) (out.length + 1) cap) (out ++ [k]).length (ints (out ++ [k])) := by
          rw [ints_append, List.length_append, List.length_singleton]; exact hown7
        replace hw7 := Lib.hid hw7
        replace hown7' := Lib.hid hown7'
        clear hown7 hgrow7 hat7
        go_wp2_with fail
        go_roundw
        case rel => exact ⟨j + 1, out ++ [k], by omega, by go_num, by simp; omega, Lib.hid htk.out.symm, hown7', hw7⟩
        case measure => simp [intOf]; omega
    · have hje : j = U.length := by omega
      subst hje
      have ho := hout.out
      rw [List.take_length, hR.out] at ho
      have hfin := own_low hown.out b1.out.size
      rw [ho] at hfin
      have hw2 := b1.out.trans (hw.out.mono b1.out.size)
      replace hfin := Lib.hid hfin
      replace hw2 := Lib.hid hw2
      replace ho := Lib.hid ho
      clear hown hout
      go_wp2_with fail
      go_ret
      exact ⟨_, rfl, hfin.out, hw2.out⟩

/-- whether an order fits -/
def orderFitsP (S : Sh) (order : List Int) : Bool := (buildAllP S).2 && fitsP S (buildAllP S).1 order
theorem take_at {A : Option Addr} {B : Nat} {w : World} {xs : List Int} (h : IntsAt B w A xs) (j : Nat) : IntsAt B w A (xs.take j) := fun i hi => by
  rw [List.length_take] at hi
  have := h i (by omega)
  rw [List.getElem_take]
  exact this

set_option maxHeartbeats 4000000 in
theorem orderFits_good (E : MkEnv) (S : Sh) (hE : E.Good S) (Ak : Option Addr) (ck : Nat) (order : List Int) (w : World) (hb : Below E.B E.w0 w) (hB : E.B ≤ w.heap.size) (hx : IntsAt E.B E.w0 Ak order) (hl : order.length ≤ ck) (hm : ck ≤ maxLen) :
    Calls Try.prog 16 #[.agg #[.slice E.Am S.made.length E.cm, .slice E.At S.tks.length E.ct], .slice E.Ai S.inputs.length E.ci, .slice Ak order.length ck] w fun e w' =>
      e = .returned (.bool (orderFitsP S order)) ∧ Below w.heap.size w w' := by
  have hten := hE.ok.ten
  have hc1 := fun w1 (hw : Below w.heap.size w w1) => buildAll_good E S hE w1 (below_up' hb hB hw) (Nat.le_trans hB hw.size)
  have hc2 := fun k w1 (hw : Below w.heap.size w w1) => makes_calls E.Am E.At E.cm S.tks.length E.ct k S.made E.B E.w0 w1 (below_up' hb hB hw) (Nat.le_trans hB hw.size) (Nat.le_trans hE.sheet.lm hE.sheet.mm) hE.sheet.made
  have hml := Nat.le_trans hl hm
  have hc3 := fun (j : Nat) (hj : j < order.length) (k : Int) w1 (hw : Below w.heap.size w w1) => by
    have h := contains_calls Ak ck k (order.take j) E.B E.w0 w1 (below_up' hb hB hw) (Nat.le_trans hB hw.size) (by rw [List.length_take]; omega) (take_at hx j)
    rw [show (order.take j).length = j by rw [List.length_take]; omega] at h
    exact h
  have hall := fun all (h : buildAllP S = (all, true)) => all_law hE.ok h
  have hc4 := fun (vals : List Int) (hvl : vals.length ≤ 10) (hvr : ∀ x ∈ vals, 0 ≤ x ∧ x ≤ 96) (q : Nat) (hq : q < S.made.length) (hmq : mkK S.made q = true) (Av : Option Addr) (cv : Nat) (w1 : World) (hw : Below w.heap.size w w1) (hv : IntsAt w1.heap.size w1 Av vals) =>
    uses_calls E S hE q hq hmq Av cv vals w1 (below_up' hb hB hw) (Nat.le_trans hB hw.size) hv hvl hvr
  unfold orderFitsP
  obtain ⟨P, hP⟩ : ∃ P, buildAllP S = P := ⟨_, rfl⟩
  rw [hP] at hc1 hall ⊢
  obtain ⟨vals, ok⟩ := P
  dsimp only at hc1 hall ⊢
  unfold maxLen at hm hml
  replace hc1 := Lib.hid hc1
  replace hc2 := Lib.hid hc2
  replace hc3 := Lib.hid hc3
  replace hc4 := Lib.hid hc4
  replace hb := Lib.hid hb
  replace hE := Lib.hid hE
  replace hx := Lib.hid hx
  go_enter Try.func16, Try.ntmps16
  go_wp2_with fail
  refine (hc1.out _ (below_al (Below.refl _ _) _)).mono ?_
  rintro e w1 ⟨v1, rfl, hown1, h1⟩
  dsimp only at hown1
  have x0 : w1.cell? ⟨w.heap.size, 0, none⟩ = some (.slice E.Am S.made.length E.cm) := (h1.cell (p := ⟨w.heap.size, 0, none⟩) (by simp)).trans (by simp)
  have x1 : w1.cell? ⟨w.heap.size, 1, none⟩ = some (.slice E.At S.tks.length E.ct) := (h1.cell (p := ⟨w.heap.size, 1, none⟩) (by simp)).trans (by simp)
  have b1 := below_from h1
  have s1 : w.heap.size < w1.heap.size := by have := h1.size; simp at this; omega
  obtain ⟨Av, cv, rfl, -, -, hi1⟩ := ownsRow_ints hown1
  replace b1 := Lib.hid b1
  replace hi1 := Lib.hid hi1
  replace x0 := Lib.hid x0
  replace x1 := Lib.hid x1
  clear h1 hown1 hc1
  cases ok with
  | false =>
    go_wp2_with fail
    go_ret
    exact ⟨rfl, b1.out⟩
  | true =>
    obtain ⟨hvl, hvr, -, -⟩ := hall vals rfl
    have hc4' := hc4.out vals (by omega) hvr
    replace hc4' := Lib.hid hc4'
    replace hP := Lib.hid hP
    replace hvr := Lib.hid hvr
    replace hvl := Lib.hid hvl
    clear hall hc4
    go_wp2_with fail
    go_loopw [9, 10, 12, 23, 44] (fun _ _ _ i _ wr => ∃ (j : Nat), j ≤ order.length ∧ i = .int .i64 j ∧ Hid (Below w1.heap.size w1 wr) ∧ Hid (fitsP S vals order = fitsL S vals order j)) (fun _ _ _ i _ _ => order.length - (intOf i).toNat)
    case atStart => exact ⟨0, Nat.zero_le _, rfl, Lib.hid (Below.refl _ _), Lib.hid rfl⟩
    case round =>
      obtain ⟨j, hj, rfl, hw, he⟩ := hrel
      by_cases hlt : j < order.length
      · have he2 := he.out
        rw [fitsL_step hlt, fitAt_uses] at he2
        obtain ⟨b, o, rfl, hbb, y⟩ := hx.out.at (below_up' hb.out hB (b1.out.trans (hw.out.mono b1.out.size))) (Nat.le_trans hB (Nat.le_trans b1.out.size hw.out.size)) j hlt
        have hc3' := hc3.out j hlt
        generalize order[j] = k at *
        have y0 := (hw.out.cell (p := ⟨w.heap.size, 0, none⟩) s1).trans x0.out
        have y1 := (hw.out.cell (p := ⟨w.heap.size, 1, none⟩) s1).trans x1.out
        have hcall := hc2.out k wr (b1.out.trans (hw.out.mono b1.out.size))
        have hz : w.heap.size < wr.heap.size := by have := hw.out.size; omega
        have hjc : j ≤ ck := by omega
        replace hc3' := Lib.hid hc3'
        cases hmk : mkK S.made k with
        | false =>
          rw [hmk] at hcall he2
          simp only [Bool.false_and] at he2
          replace he2 := Lib.hid he2
          replace hcall := Lib.hid hcall
          replace hmk := Lib.hid hmk
          go_wp2_with fail
          refine hcall.out.mono ?_
          rintro e w5 ⟨rfl, h5⟩
          have hw5 := below_up hw.out h5
          replace hw5 := Lib.hid hw5
          clear h5 y y0 y1 hcall
          go_wp2_with fail
          go_ret
          exact ⟨by rw [he2.out]; rfl, b1.out.trans (hw5.out.mono b1.out.size)⟩
        | true =>
          rw [hmk] at hcall he2
          simp only [Bool.true_and] at he2
          have hkr := mkK_range (show mkK S.made k ≠ false by rw [hmk]; simp)
          obtain ⟨q, rfl⟩ := Int.eq_ofNat_of_zero_le hkr.1
          have hq : q < S.made.length := by omega
          replace hcall := Lib.hid hcall
          replace hmk := Lib.hid hmk
          clear hkr
          go_wp2_with fail
          refine hcall.out.mono ?_
          rintro e w5 ⟨rfl, h5⟩
          have hw5 := below_up hw.out h5
          have z0 := (hw5.cell (p := ⟨w.heap.size, 0, none⟩) s1).trans x0.out
          have z1 := (hw5.cell (p := ⟨w.heap.size, 1, none⟩) s1).trans x1.out
          have hz5 : w.heap.size < w5.heap.size := by have := hw5.size; omega
          have hcont := hc3'.out q w5 (b1.out.trans (hw5.mono b1.out.size))
          have hus := hc4'.out q hq hmk.out Av cv w5 (b1.out.trans (hw5.mono b1.out.size)) (hi1.out.up hw5 hw5.size)
          generalize usesM S vals q = V at *
          have hin := fun (x : Int) (w9 : World) (h9 : Below w1.heap.size w1 w9) => hc3'.out x w9 (b1.out.trans (h9.mono b1.out.size))
          generalize hT : order.take j = T at *
          replace hw5 := Lib.hid hw5
          replace hcont := Lib.hid hcont
          replace hus := Lib.hid hus
          replace hin := Lib.hid hin
          replace hT := Lib.hid hT
          clear h5 y y0 y1 hcall hw hz hc3'
          cases hcn : T.contains (q : Int) with
          | true =>
            rw [hcn] at hcont he2
            simp only [Bool.not_true, Bool.false_and] at he2
            replace he2 := Lib.hid he2
            replace hcont := Lib.hid hcont.out
            replace hcn := Lib.hid hcn
            go_wp2_with fail
            refine hcont.out.mono ?_
            rintro e w6 ⟨rfl, rfl⟩
            go_wp2_with fail
            go_ret
            exact ⟨by rw [he2.out]; rfl, b1.out.trans (hw5.out.mono b1.out.size)⟩
          | false =>
            rw [hcn] at hcont he2
            simp only [Bool.not_false, Bool.true_and] at he2
            replace he2 := Lib.hid he2
            replace hcont := Lib.hid hcont.out
            replace hcn := Lib.hid hcn
            go_wp2_with fail
            refine hcont.out.mono ?_
            rintro e w6 ⟨rfl, rfl⟩
            go_wp2_with fail
            refine hus.out.mono ?_
            rintro e w7 ⟨v7, rfl, hown7, h7⟩
            have hw7 := below_up hw5.out h7
            obtain ⟨Au, cu, rfl, hu1, hu2, hi7⟩ := ownsRow_ints hown7
            unfold maxLen at hu2
            replace hw7 := Lib.hid hw7
            replace hi7 := Lib.hid hi7
            clear h7 hown7 z0 z1 hcont hus hz5 hw5
            go_wp2_with fail
            go_loopw [12, 44] (fun _ i wr => ∃ (a : Nat), a ≤ V.length ∧ i = .int .i64 a ∧ wr = w7 ∧ Hid (V.all (fun x => T.contains x) = (V.drop a).all fun x => T.contains x)) (fun _ i _ => V.length - (intOf i).toNat)
            case atStart => exact ⟨0, Nat.zero_le _, rfl, rfl, Lib.hid rfl⟩
            case round =>
              obtain ⟨a, ha, rfl, rfl, hV⟩ := hrel
              by_cases hla : a < V.length
              · have hV2 := hV.out
                rw [List.drop_eq_getElem_cons hla, List.all_cons] at hV2
                obtain ⟨b2, o2, rfl, hb2, y2⟩ := hi7.out.at (Below.refl _ _) (Nat.le_refl _) a hla
                have hcall := hin.out V[a] wr hw7.out
                generalize V[a] = x at *
                cases hcx : T.contains x with
                | true =>
                  rw [hcx] at hcall hV2
                  simp only [Bool.true_and] at hV2
                  replace hV2 := Lib.hid hV2
                  replace hcall := Lib.hid hcall
                  replace hcx := Lib.hid hcx
                  go_wp2_with fail
                  refine hcall.out.mono ?_
                  rintro e w8 ⟨rfl, rfl⟩
                  go_wp2_with fail
                  go_roundw
                  case rel => exact ⟨a + 1, by omega, by go_num, by first | rfl | trivial, hV2⟩
                  case measure => simp [intOf]; omega
                | false =>
                  rw [hcx] at hcall hV2
                  simp only [Bool.false_and] at hV2
                  have he3 := he2.out
                  rw [hV2, Bool.false_and] at he3
                  replace he3 := Lib.hid he3
                  replace hV2 := Lib.hid hV2
                  replace hcall := Lib.hid hcall
                  replace hcx := Lib.hid hcx
                  go_wp2_with fail
                  refine hcall.out.mono ?_
                  rintro e w8 ⟨rfl, rfl⟩
                  go_wp2_with fail
                  go_ret
                  exact ⟨by rw [he3.out]; rfl, b1.out.trans (hw7.out.mono b1.out.size)⟩
              · have hV2 := hV.out
                rw [List.drop_eq_nil_of_le (by omega)] at hV2
                have he3 := he2.out
                rw [hV2] at he3
                simp only [List.all_nil, Bool.true_and] at he3
                replace he3 := Lib.hid he3
                replace hV2 := Lib.hid hV2
                go_wp2_with fail
                go_roundw
                case rel => exact ⟨j + 1, by omega, by go_num, hw7, he3⟩
                case measure => simp [intOf]; omega
      · have he2 := he.out
        rw [fitsL_end hlt] at he2
        replace he2 := Lib.hid he2
        go_wp2_with fail
        go_ret
        exact ⟨by rw [he2.out]; rfl, b1.out.trans (hw.out.mono b1.out.size)⟩
end Go.Proofs.Ytpccgdkidnkppaa

set_option linter.unusedVariables false
set_option linter.unusedSimpArgs false
namespace Go.Proofs.Ytpccgdkidnkppaa
open Go Go.RowKit

theorem rows_apart {w : World} {b1 b2 : Nat} {e1 e2 : TypeId} {s1 s2 n1 n2 : Nat} {v1 v2 : Value} {x1 x2 : List Value} (h1 : w.ownsRow b1 e1 s1 v1 n1 x1) (h2 : w.ownsRow b2 e2 s2 v2 n2 x2) (hne : e1 ≠ e2) : ∀ i, v1.ownBlock = some i → v2.ownBlock ≠ some i := by
  intro i hi
  rcases h1.2 with ⟨rfl, _⟩ | ⟨g, cap, cur, rfl, _, hg, _⟩
  · cases hi
  · cases hi
    exact ownsRow_ne h2 hg (fun c e => by cases e; exact hne rfl)
theorem l2Of_calls (A : Option Addr) (c : Nat) (xs : List Int) (k : Int) (hk : 0 ≤ k) (B : Nat) (w0 w : World) (hb : Below B w0 w) (hB : B ≤ w.heap.size) (hl : xs.length ≤ maxLen) (hx : IntsAt B w0 A xs) :
    Calls Try.prog 111 #[.slice A xs.length c, .int .i64 k] w fun e w' => e = .returned (.int .i64 (atK xs k)) ∧ w = w' := by
  obtain ⟨q, rfl⟩ := Int.eq_ofNat_of_zero_le hk
  unfold maxLen at hl
  by_cases hq : q < xs.length
  · obtain ⟨b, o, rfl, hbb, y⟩ := hx.at hb hB q hq
    rw [atK_in hq]
    clear hx hb hk
    generalize xs[q] = x at *
    go_enter Try.func111, Try.ntmps111
    go_wp2_with fail
    go_ret
    exact ⟨rfl, by first | rfl | trivial⟩
  · rw [atK_out (by omega)]
    clear hx hb hk
    go_enter Try.func111, Try.ntmps111
    go_wp2_with fail
    go_ret
    exact ⟨rfl, by first | rfl | trivial⟩

/-- between two fetches of the reference's run: the task's box, what was fetched, what was got -/
structure L2R (w1 : World) (xs : List Int) (l : List (Int × Int)) (got : List Int) (vo vg : Value) (wr : World) : Prop where
  out : wr.ownsRow w1.heap.size 112 2 vo l.length (fets l)
  own : wr.ownsRow w1.heap.size 3 1 vg got.length (ints got)
  below : Below w1.heap.size w1 wr
  vals : ∀ x ∈ got, 0 ≤ x ∧ x ≤ 96
theorem L2R.up {w1 : World} {xs : List Int} {l : List (Int × Int)} {got : List Int} {vo vg : Value} {wr w2 : World} (h : L2R w1 xs l got vo vg wr) (hb : Below wr.heap.size wr w2) : L2R w1 xs l got vo vg w2 :=
  ⟨ownsRow_block h.out (fun i hi => hb.block i (h.out.lt i hi).2), ownsRow_block h.own (fun i hi => hb.block i (h.own.lt i hi).2), below_up h.below hb, h.vals⟩
theorem L2R.fet {w1 : World} {xs : List Int} {l : List (Int × Int)} {got : List Int} {vo vg v' : Value} {wr w2 : World} {o : Obj} {k x : Int} (h : L2R w1 xs l got vo vg wr) (hg : (wr.alloc o).grownBy w2 vo.ownBlock) (ho : w2.ownsRow w1.heap.size 112 2 v' (l.length + 1) (fets l ++ [.int .i64 k, .int .i64 x])) : L2R w1 xs (l ++ [(k, x)]) got v' vg w2 := by
  have hz := h.below.size
  have ha := h.own.alloc o
  refine ⟨by rw [fets_append, List.length_append, List.length_singleton]; exact ho, ownsRow_block ha (fun i hi => hg.block i (ha.lt i hi).2 (fun e => rows_apart (h.out.alloc o) ha (by decide) i e.symm hi)), (below_al' h.below o hz).grown hg (by simp; omega) (fun i hi => (h.out.lt i hi).1), h.vals⟩
theorem L2R.get {w1 : World} {xs : List Int} {l : List (Int × Int)} {got : List Int} {vo vg v' : Value} {wr w2 : World} {o : Obj} {x : Int} (h : L2R w1 xs l got vo vg wr) (hg : (wr.alloc o).grownBy w2 vg.ownBlock) (ho : w2.ownsRow w1.heap.size 3 1 v' (got.length + 1) (ints got ++ [.int .i64 x])) (hx : 0 ≤ x ∧ x ≤ 96) : L2R w1 xs l (got ++ [x]) vo v' w2 := by
  have hz := h.below.size
  have ha := h.out.alloc o
  refine ⟨ownsRow_block ha (fun i hi => hg.block i (ha.lt i hi).2 (fun e => rows_apart (h.own.alloc o) ha (by decide) i e.symm hi)), by rw [ints_append, List.length_append, List.length_singleton]; exact ho, (below_al' h.below o hz).grown hg (by simp; omega) (fun i hi => (h.own.lt i hi).1),
    fun y hy => (List.mem_append.1 hy).elim (h.vals y) (fun e => by rw [List.mem_singleton.1 e]; exact hx)⟩

set_option maxRecDepth 5000 in
set_option maxHeartbeats 4000000 in
theorem l2Run_calls (t : Tk) (A : Option Addr) (c : Nat) (xs : List Int) (Ax : Option Addr) (cx B : Nat) (w0 w : World) (hb : Below B w0 w) (hB : B ≤ w.heap.size) (hok : t.ok) (hf : t.fets ≤ 100) (hc : t.enc.parts.length ≤ c) (hp : PartsIs B w0 A 0 t.enc.parts)
    (hm : xs.length ≤ maxLen) (hx : IntsAt B w0 Ax xs) (hv : ∀ x ∈ xs, 0 ≤ x ∧ x ≤ 96) :
    Calls Try.prog 57 #[.agg #[.int .i64 t.enc.kind, .int .i64 t.enc.n, .slice A t.enc.parts.length c], .slice Ax xs.length cx] w fun e w' =>
      ∃ v, e = .returned (.tuple #[.int .i64 (fetchedP t xs).1.1, v]) ∧ w'.ownsRow w.heap.size 112 2 v (fetchedP t xs).2.length (fets (fetchedP t xs).2) ∧ Below w.heap.size w w' := by
  have hat : ∀ k : Int, 0 ≤ atK xs k ∧ atK xs k ≤ 96 := fun k => by
    unfold atK
    split
    · omega
    · by_cases h1 : k.toNat < xs.length
      · rw [getD_at _ h1]; exact hv _ (List.getElem_mem _)
      · rw [getD_out _ (by omega)]; omega
  have hnx := fun (got : List Int) (Ag : Option Addr) (cg : Nat) (w1 : World) (hw : Below w.heap.size w w1) (hg : IntsAt w1.heap.size w1 Ag got) (hgv : ∀ x ∈ got, 0 ≤ x ∧ x ≤ 96) (hl : got.length ≤ 1000000) =>
    l2Next_calls t A c got Ag cg B w0 w1 (below_up' hb hB hw) (Nat.le_trans hB hw.size) hok hc hp hg hgv hl
  have hof := fun (k : Int) (hk : 0 ≤ k) (w1 : World) (hw : Below w.heap.size w w1) => l2Of_calls Ax cx xs k hk B w0 w1 (below_up' hb hB hw) (Nat.le_trans hB hw.size) hm hx
  have hitr := fetched_itr t xs
  have hiok := Tk.itr_ok t hok
  have hile := Tk.itr_le t
  obtain ⟨Q, hQ⟩ : ∃ Q, fetchedP t xs = Q := ⟨_, rfl⟩
  rw [hQ] at hitr ⊢
  generalize t.itr = m at *
  replace hnx := Lib.hid hnx
  replace hof := Lib.hid hof
  replace hat := Lib.hid hat
  replace hitr := Lib.hid hitr
  replace hiok := Lib.hid hiok
  replace hile := Lib.hid hile
  clear hb hp hok hx hv hQ hc
  go_enter Try.func57, Try.ntmps57
  go_wp2_with fail
  obtain ⟨w1, hw1⟩ : ∃ w1, w1 = w.alloc (.cells #[.int .i64 t.enc.kind, .int .i64 t.enc.n, .slice A t.enc.parts.length c] 48 (0, 0)) := ⟨_, rfl⟩
  have hs1 : w.heap.size < w1.heap.size := by rw [hw1]; simp
  have hb1 : Below w.heap.size w w1 := by rw [hw1]; exact below_al (Below.refl _ _) _
  have x0 : w1.cell? ⟨w.heap.size, 0, none⟩ = some (.int .i64 t.enc.kind) := by rw [hw1]; simp
  have x1 : w1.cell? ⟨w.heap.size, 1, none⟩ = some (.int .i64 t.enc.n) := by rw [hw1]; simp
  have x2 : w1.cell? ⟨w.heap.size, 2, none⟩ = some (.slice A t.enc.parts.length c) := by rw [hw1]; simp
  have hL0 : L2R w1 xs [] [] (.slice (some ⟨w1.heap.size, 0, none⟩) 0 0) (.slice (some ⟨w1.heap.size + 1, 0, none⟩) 0 0) ((w1.alloc (.cells #[] 112 (0, 0))).alloc (.cells #[] 3 (0, 0))) :=
    ⟨(World.ownsRow_made (base := w1.heap.size) (size := 2) w1 #[] 0 (Nat.le_refl _) (by simp [maxLen]) rfl).alloc _, by simpa [ints] using World.ownsRow_made (base := w1.heap.size) (size := 1) (w1.alloc (.cells #[] 112 (0, 0))) #[] 0 (by simp) (by simp [maxLen]) rfl, below_al (below_al (Below.refl _ _) _) _, fun x hx => by cases hx⟩
  have hsz1 : w.heap.size + 1 = w1.heap.size := by rw [hw1]; simp
  rw [← hsz1] at hL0
  rw [← hw1]
  have hcall := hnx.out [] (some ⟨w.heap.size + 1 + 1, 0, none⟩) 0 _ (hb1.trans (hL0.below.mono (Nat.le_of_lt hs1))) (RowAt.nil _ _ _ _) (fun x hx => by cases hx) (by simp)
  replace hb1 := Lib.hid hb1
  replace x0 := Lib.hid x0
  replace x1 := Lib.hid x1
  replace x2 := Lib.hid x2
  replace hL0 := Lib.hid hL0
  replace hw1 := Lib.hid hw1
  replace hsz1 := Lib.hid hsz1
  replace hcall := Lib.hid hcall
  refine hcall.out.mono ?_
  rintro e w2 ⟨rfl, v0, v1, h2⟩
  have hL2 := hL0.out.up h2
  replace hL2 := Lib.hid hL2
  clear h2 hL0 hcall v0 v1
  go_wp2_with fail
  go_loopw [6, 7, 8, 9, 10] (fun vo vg v ky o wr => ∃ (got : List Int) (l : List (Int × Int)), Hid (got.length = l.length) ∧ l.length ≤ t.fets ∧ got.length ≤ t.fets ∧ v = .int .i64 (nextP m got).1 ∧ ky = .int .i64 (nextP m got).2.1 ∧ o = .bool (nextP m got).2.2 ∧
    Hid (L2R w1 xs l got vo vg wr) ∧ Hid (Q = (m.walk got).run (fetF xs) l)) (fun _ vg _ _ _ _ => t.fets - lenOf vg)
  case atStart => exact ⟨[], [], Lib.hid rfl, Nat.zero_le _, Nat.zero_le _, rfl, rfl, rfl, hL2, Lib.hid (by rw [hitr.out, Itr.walk_nil])⟩
  case round =>
    obtain ⟨got, l, hgl, hgf2, hgf, rfl, rfl, rfl, hL, hEq⟩ := hrel
    have hwr := hb1.out.trans (hL.out.below.mono (Nat.le_of_lt hs1))
    replace hwr := Lib.hid hwr
    cases hw : m.walk got with
    | done x =>
      obtain ⟨n1, n2⟩ := nextP_done hw
      have he := hEq.out
      rw [hw] at he
      have he2 : Q = ((x, true), l) := he
      have hfin := own_low hL.out.out (Nat.le_of_lt hs1)
      rw [n1, n2]
      replace hfin := Lib.hid hfin
      replace he2 := Lib.hid he2
      clear hw n1 n2 he hEq hL
      go_wp2_with fail
      go_ret2
      rw [he2.out]
      exact ⟨_, rfl, hfin.out, hwr.out⟩
    | ask ky ct =>
      have hnp := nextP_ask hw
      have hkr := Itr.walk_ok got _ hiok.out
      rw [hw] at hkr
      obtain ⟨hk0', hk9', -⟩ := hkr
      have hglt := Itr.walk_le got _ _ hile.out ky ct hw
      have he := hEq.out
      rw [hw, Itr.run_yes (by simp [fetF])] at he
      have he2 : Q = (m.walk (got ++ [atK xs ky])).run (fetF xs) (l ++ [(ky, atK xs ky)]) := by
        rw [he, Itr.walk_append, hw, Itr.walk, Itr.walk_nil]; rfl
      have hxx := hat.out ky
      have hof1 := hof.out ky hk0'
      rw [hnp]
      obtain ⟨Ao, co, evo, ho1, ho2, -⟩ := fets_own hL.out.out
      obtain ⟨Ag, cg, evg, hg1, hg2, -⟩ := ownsRow_ints hL.out.own
      subst evo evg
      generalize atK xs ky = x at *
      have hwz := hL.out.below.size
      unfold maxLen at ho2 hg2
      replace hof1 := Lib.hid hof1
      replace he2 := Lib.hid he2
      replace hnp := Lib.hid hnp
      replace hw := Lib.hid hw
      clear hEq he
      have hc1 := hof1.out wr hwr.out
      replace hc1 := Lib.hid hc1
      go_wp2_with fail
      refine hc1.out.mono ?_
      rintro e w3 ⟨rfl, rfl⟩
      clear hc1
      go_wp2_with (at_builtin; go_loud (with_reducible refine wpList_app1 (by rfl) (.tmp 22) (.tmp 28) 73 (by rfl) fetTy w1.heap.size (.slice Ao l.length co) l.length (fets l) (by with_unfolding_all rfl) (hL.out.out.alloc _) wr.heap.size 1 [.int .i64 ky, .int .i64 x] (by with_unfolding_all rfl) (by with_unfolding_all rfl) ⟨_, _, heap_alloc_new wr _, rfl⟩ (one_fet _ _) ?_ ?_ ?_ ?_))
      · unfold maxLen; omega
      · omega
      · simp; omega
      intro g6 cap6 w6 hown6 hgrow6 hat6
      have hL6 := hL.out.fet (xs := xs) hgrow6 hown6
      have hwr6 := hb1.out.trans (hL6.below.mono (Nat.le_of_lt hs1))
      have hwz6 := hL6.below.size
      have hc1 := hof1.out w6 hwr6
      replace hc1 := Lib.hid hc1
      replace hL6 := Lib.hid hL6
      clear hown6 hgrow6 hat6 hL hwr
      go_wp2_with fail
      refine hc1.out.mono ?_
      rintro e w3 ⟨rfl, rfl⟩
      clear hc1
      go_wp2_with (at_builtin; go_loud (with_reducible refine wpList_app1 (by rfl) (.tmp 30) (.tmp 34) 26 (by rfl) intTy w1.heap.size (.slice Ag got.length cg) got.length (ints got) (by with_unfolding_all rfl) (hL6.out.own.alloc _) w6.heap.size 1 [.int .i64 x] (by with_unfolding_all rfl) (by with_unfolding_all rfl) ⟨_, _, heap_alloc_new w6 _, rfl⟩ (one_int _ _) ?_ ?_ ?_ ?_))
      · unfold maxLen; omega
      · omega
      · simp; omega
      intro g7 cap7 w7 hown7 hgrow7 hat7
      have hL7 := hL6.out.get (xs := xs) hgrow7 hown7 hxx
      have hwr7 := hb1.out.trans (hL7.below.mono (Nat.le_of_lt hs1))
      have hwz7 := hL7.below.size
      have y0 := (hL7.below.cell (p := ⟨w.heap.size, 0, none⟩) hs1).trans x0.out
      have y1 := (hL7.below.cell (p := ⟨w.heap.size, 1, none⟩) hs1).trans x1.out
      have y2 := (hL7.below.cell (p := ⟨w.heap.size, 2, none⟩) hs1).trans x2.out
      have hzz : w.heap.size < w7.heap.size := by omega
      have hlen7 : (got ++ [x]).length = got.length + 1 := by simp
      have hi7 := hL7.own
      rw [hlen7] at hi7
      have hii : IntsAt w7.heap.size w7 (some ⟨g7, 0, none⟩) (got ++ [x]) := ownsRow_ints_of (c := cap7) (by rw [hlen7]; exact hi7)
      have hc2 := hnx.out (got ++ [x]) (some ⟨g7, 0, none⟩) cap7 w7 hwr7 hii hL7.vals (by simp; omega)
      rw [hlen7] at hc2
      replace hc2 := Lib.hid hc2
      replace hL7 := Lib.hid hL7
      replace hlen7 := Lib.hid hlen7
      clear hown7 hgrow7 hat7 hL6 hi7 hii hwr7 hwr6
      go_wp2_with fail
      refine hc2.out.mono ?_
      rintro e w8 ⟨rfl, v0, v1, h8⟩
      have hL8 := hL7.out.up h8
      replace hL8 := Lib.hid hL8
      clear hc2 hL7 h8 y0 y1 y2 hzz
      go_wp2_with fail
      go_roundw
      case rel => exact ⟨got ++ [x], l ++ [(ky, x)], Lib.hid (by simp [hgl.out]), by have := hgl.out; simp; omega, by rw [hlen7.out]; omega, rfl, rfl, rfl, hL8, he2⟩
      case measure => simp only [lenOf]; omega
end Go.Proofs.Ytpccgdkidnkppaa

set_option linter.unusedVariables false
set_option linter.unusedSimpArgs false
namespace Go.Proofs.Ytpccgdkidnkppaa
open Go Go.RowKit

set_option maxHeartbeats 2000000 in
theorem l2Uses_calls (A : Option Addr) (c : Nat) (l : List (Int × Int)) (B : Nat) (w0 w : World) (hb : Below B w0 w) (hB : B ≤ w.heap.size) (hl : l.length ≤ 1000) (hx : FetsAt B w0 A l) :
    Calls Try.prog 58 #[.slice A l.length c] w fun e w' => ∃ v, e = .returned v ∧ w'.ownsRow w.heap.size 3 1 v (usesL l []).length (ints (usesL l [])) ∧ Below w.heap.size w w' := by
  have hhas := fun (Ao : Option Addr) (co : Nat) (out : List Int) (k : Int) (w1 : World) (ho : IntsAt w1.heap.size w1 Ao out) (hol : out.length ≤ maxLen) => l2Has_calls Ao co out k w1.heap.size w1 w1 (Below.refl _ _) (Nat.le_refl _) hol ho
  obtain ⟨R, hR⟩ : ∃ R, usesL l [] = R := ⟨_, rfl⟩
  rw [hR]
  have hown0 : (w.alloc (.cells #[] 3 (0, 0))).ownsRow w.heap.size 3 1 (.slice (some ⟨w.heap.size, 0, none⟩) 0 0) 0 (ints []) := by
    simpa [ints] using World.ownsRow_made (base := w.heap.size) w #[] 0 (Nat.le_refl _) (by simp [maxLen]) rfl
  replace hhas := Lib.hid hhas
  replace hx := Lib.hid hx
  replace hb := Lib.hid hb
  replace hR := Lib.hid hR
  replace hown0 := Lib.hid hown0
  go_enter Try.func58, Try.ntmps58
  go_wp2_with fail
  go_loopw [3, 4] (fun o i wr => ∃ (j : Nat) (out : List Int), j ≤ l.length ∧ i = .int .i64 j ∧ out.length ≤ j ∧ Hid (wr.ownsRow w.heap.size 3 1 o out.length (ints out)) ∧ Hid (Below w.heap.size w wr) ∧ Hid (usesL l [] = usesL (l.drop j) out)) (fun _ i _ => l.length - (intOf i).toNat)
  case atStart => exact ⟨0, [], Nat.zero_le _, rfl, Nat.le_refl _, hown0, Lib.hid (below_al (Below.refl _ _) _), Lib.hid rfl⟩
  case round =>
    obtain ⟨j, out, hj, rfl, hol, hown, hw, he⟩ := hrel
    by_cases hlt : j < l.length
    · have he2 := he.out
      rw [List.drop_eq_getElem_cons hlt, usesL] at he2
      obtain ⟨b, o, rfl, hbb, y0, -⟩ := hx.out.at (below_up' hb.out hB hw.out) (Nat.le_trans hB hw.out.size) j hlt
      generalize l[j] = f at *
      obtain ⟨k, v⟩ := f
      dsimp only at y0 he2
      obtain ⟨Ao, co, rfl, ho1, ho2, hi3⟩ := ownsRow_ints hown.out
      have hcall := hhas.out Ao co out k wr hi3 (Nat.le_trans ho1 ho2)
      have hwz := hw.out.size
      unfold maxLen at ho2
      cases hany : out.contains k with
      | true =>
        rw [hany] at hcall he2
        simp only [if_true] at he2
        replace he2 := Lib.hid he2
        replace hcall := Lib.hid hcall
        replace hany := Lib.hid hany
        clear he hi3
        go_wp2_with fail
        refine hcall.out.mono ?_
        rintro e w5 ⟨rfl, rfl⟩
        go_wp2_with fail
        go_roundw
        case rel => exact ⟨j + 1, out, by omega, by go_num, by omega, hown, hw, he2⟩
        case measure => simp [intOf]; omega
      | false =>
        rw [hany] at hcall he2
        simp only [Bool.false_eq_true, if_false] at he2
        replace he2 := Lib.hid he2
        replace hcall := Lib.hid hcall
        replace hany := Lib.hid hany
        clear he hi3
        go_wp2_with fail
        refine hcall.out.mono ?_
        rintro e w5 ⟨rfl, rfl⟩
        go_wp2_with (at_builtin; go_loud (with_reducible refine wpList_app1 (by rfl) (.tmp 20) (.tmp 26) 26 (by rfl) intTy w.heap.size (.slice Ao out.length co) out.length (ints out) (by with_unfolding_all rfl) (hown.out.alloc _) wr.heap.size 1 [.int .i64 k] (by with_unfolding_all rfl) (by with_unfolding_all rfl) ⟨_, _, heap_alloc_new wr _, rfl⟩ (one_int _ _) ?_ ?_ ?_ ?_))
        · unfold maxLen; omega
        · omega
        · simp; omega
        intro g7 cap w7 hown7 hgrow7 hat7
        have hw7 := (hw.out.alloc hwz _).grown hgrow7 (by simp; omega) (fun i hi => (hown.out.lt i hi).1)
        have hown7' : w7.ownsRow w.heap.size 3 1 (.slice (some ⟨g7, 0, none⟩) (out.length + 1) cap) (out ++ [k]).length (ints (out ++ [k])) := by
          rw [ints_append, List.length_append, List.length_singleton]; exact hown7
        replace hw7 := Lib.hid hw7
        replace hown7' := Lib.hid hown7'
        clear hown7 hgrow7 hat7
        go_wp2_with fail
        go_roundw
        case rel => exact ⟨j + 1, out ++ [k], by omega, by go_num, by simp; omega, hown7', hw7, he2⟩
        case measure => simp [intOf]; omega
    · have hd : l.drop j = [] := List.drop_eq_nil_of_le (by omega)
      have he2 := he.out
      rw [hd, usesL] at he2
      replace he2 := Lib.hid he2
      replace hd := Lib.hid hd
      clear he
      go_wp2_with fail
      go_ret
      rw [← hR.out, he2.out]
      exact ⟨_, rfl, hown.out, hw.out⟩

theorem fits_keys {S : Sh} {vals order : List Int} (h : keysOk S.made.length order = false) : fitsP S vals order = false := by
  cases hf : fitsP S vals order with
  | false => rfl
  | true =>
    exfalso
    have : keysOk S.made.length order = true := by
      rw [keysOk_iff]
      intro k hk
      obtain ⟨i, hi, rfl⟩ := List.getElem_of_mem hk
      have h2 := fitsP_iff.1 hf i hi
      unfold fitAt at h2
      rw [Bool.and_eq_true, Bool.and_eq_true] at h2
      exact mkK_range (by rw [h2.1.1]; simp)
    rw [h] at this; cases this

set_option maxRecDepth 20000 in
set_option maxHeartbeats 8000000 in
theorem specOrderFits_good (E : MkEnv) (S : Sh) (hE : E.Good S) (hnod : ∀ T ∈ S.tks.map Tk.enc, nodes T ≤ 1000000000) (Ak : Option Addr) (ck : Nat) (order : List Int) (w : World) (hb : Below E.B E.w0 w) (hB : E.B ≤ w.heap.size) (hx : IntsAt E.B E.w0 Ak order) (hl : order.length ≤ ck) (hm : ck ≤ maxLen) :
    Calls Try.prog 13 #[.agg #[.slice E.Am S.made.length E.cm, .slice E.At S.tks.length E.ct], .slice E.Ai S.inputs.length E.ci, .slice Ak order.length ck] w fun e w' =>
      e = .returned (.bool (orderFitsP S order)) ∧ Below w.heap.size w w' := by
  have hten := hE.ok.ten
  have hml := Nat.le_trans hl hm
  have hc1 := fun w1 (hw : Below w.heap.size w w1) => specBuildAll_good E S hE hnod w1 (below_up' hb hB hw) (Nat.le_trans hB hw.size)
  rw [← all_same hE.ok] at hc1
  have hc2 := fun w1 (hw : Below w.heap.size w w1) => l4Keys_calls E.Am E.At Ak E.cm E.ct ck S.made (S.tks.map Tk.enc) order E.B E.w0 w1 (below_up' hb hB hw) (Nat.le_trans hB hw.size) hE.sheet hnod (by omega) hml hx
  rw [hE.ok.sheet, Bool.and_true] at hc2
  simp only [List.length_map] at hc2
  have hc3 := fun (j : Nat) (hj : j < order.length) (k : Int) w1 (hw : Below w.heap.size w w1) => by
    have h := l2Has_calls Ak ck (order.take j) k E.B E.w0 w1 (below_up' hb hB hw) (Nat.le_trans hB hw.size) (by rw [List.length_take]; omega) (take_at hx j)
    rw [show (order.take j).length = j by rw [List.length_take]; omega] at h
    exact h
  have hall := fun all (h : buildAllP S = (all, true)) => all_law hE.ok h
  have hlen := hE.ok.len
  have hc4 := fun (vals : List Int) (hvl : vals.length ≤ 10) (hvr : ∀ x ∈ vals, 0 ≤ x ∧ x ≤ 96) (q : Nat) (hq : q < S.tks.length) (A : Option Addr) (c : Nat) (hc : S.tks[q].enc.parts.length ≤ c) (hp : PartsIs E.B E.w0 A 0 S.tks[q].enc.parts) (Av : Option Addr) (cv : Nat) (w1 : World) (hw : Below w.heap.size w w1) (hv : IntsAt w1.heap.size w1 Av vals) =>
    l2Run_calls S.tks[q] A c vals Av cv w1.heap.size w1 w1 (Below.refl _ _) (Nat.le_refl _) (hE.ok.tks _ (List.getElem_mem hq)) (fets_small (hE.ok.okT hq)) hc (PartsIs.up (below_up' hb hB hw) (Nat.le_trans hB hw.size) _ _ _ hp) (by unfold maxLen; omega) hv hvr
  have hfe := fun (vals : List Int) (q : Nat) (hq : q < S.tks.length) => Nat.le_trans (fetched_length S.tks[q] vals) (fets_small (hE.ok.okT hq))
  have huk := fun (vals : List Int) (q : Nat) (hq : q < S.tks.length) => usesP_keys (hE.ok.tks _ (List.getElem_mem hq)) vals
  have hfk := fun vals => fits_keys (S := S) (vals := vals) (order := order)
  unfold orderFitsP
  obtain ⟨P, hP⟩ : ∃ P, buildAllP S = P := ⟨_, rfl⟩
  rw [hP] at hc1 hall ⊢
  obtain ⟨vals, ok⟩ := P
  dsimp only at hc1 hall ⊢
  unfold maxLen at hm hml
  replace hc1 := Lib.hid hc1
  replace hc2 := Lib.hid hc2
  replace hc3 := Lib.hid hc3
  replace hc4 := Lib.hid hc4
  replace hb := Lib.hid hb
  replace hE := Lib.hid hE
  replace hx := Lib.hid hx
  replace hlen := Lib.hid hlen
  replace hfe := Lib.hid hfe
  replace huk := Lib.hid huk
  replace hfk := Lib.hid hfk
  replace hP := Lib.hid hP
  clear hnod
  go_enter Try.func13, Try.ntmps13
  go_wp2_with fail
  refine (hc1.out _ (below_al (Below.refl _ _) _)).mono ?_
  rintro e w1 ⟨v1, rfl, hown1, h1⟩
  dsimp only at hown1
  have x0 : w1.cell? ⟨w.heap.size, 0, none⟩ = some (.slice E.Am S.made.length E.cm) := (h1.cell (p := ⟨w.heap.size, 0, none⟩) (by simp)).trans (by simp)
  have x1 : w1.cell? ⟨w.heap.size, 1, none⟩ = some (.slice E.At S.tks.length E.ct) := (h1.cell (p := ⟨w.heap.size, 1, none⟩) (by simp)).trans (by simp)
  have b1 := below_from h1
  have s1 : w.heap.size < w1.heap.size := by have := h1.size; simp at this; omega
  obtain ⟨Av, cv, rfl, -, -, hi1⟩ := ownsRow_ints hown1
  replace b1 := Lib.hid b1
  replace hi1 := Lib.hid hi1
  clear h1 hown1 hc1
  cases ok with
  | false =>
    go_wp2_with fail
    go_ret
    exact ⟨rfl, b1.out⟩
  | true =>
    obtain ⟨hvl, hvr, -, -⟩ := hall vals rfl
    have hc4' := hc4.out vals (by omega) hvr
    replace hc4' := Lib.hid hc4'
    replace hvr := Lib.hid hvr
    replace hvl := Lib.hid hvl
    clear hall hc4
    have hcall := hc2.out w1 b1.out
    cases hko : keysOk S.made.length order with
    | false =>
      rw [hko] at hcall
      have hf := hfk.out vals hko
      replace hf := Lib.hid hf
      replace hcall := Lib.hid hcall
      replace hko := Lib.hid hko
      go_wp2_with fail
      refine hcall.out.mono ?_
      rintro e w2 ⟨rfl, h2⟩
      have b2 := below_up b1.out h2
      replace b2 := Lib.hid b2
      clear h2 hcall x0 x1
      go_wp2_with fail
      go_ret
      exact ⟨by rw [hf.out]; rfl, b2.out⟩
    | true =>
      rw [hko] at hcall
      have hrg := keysOk_iff.1 hko
      replace hcall := Lib.hid hcall
      replace hko := Lib.hid hko
      replace hrg := Lib.hid hrg
      go_wp2_with fail
      refine hcall.out.mono ?_
      rintro e w2 ⟨rfl, h2⟩
      have y0 := kept_cell h2 s1 x0
      have y1 := kept_cell h2 s1 x1
      have b2 := below_up b1.out h2
      have s2 : w.heap.size < w2.heap.size := by have := h2.size; omega
      have hi2 := hi1.out.up h2 h2.size
      replace b2 := Lib.hid b2
      replace hi2 := Lib.hid hi2
      replace y0 := Lib.hid y0
      replace y1 := Lib.hid y1
      clear h2 hcall x0 x1 b1 hi1 s1
      go_wp2_with fail
      go_loopw [9, 10, 11, 12, 13, 14] (fun i _ _ _ _ _ wr => ∃ (j : Nat), j ≤ order.length ∧ i = .int .i64 j ∧ Hid (Below w2.heap.size w2 wr) ∧ Hid (fitsP S vals order = fitsL S vals order j)) (fun i _ _ _ _ _ _ => order.length - (intOf i).toNat)
      case atStart => exact ⟨0, Nat.zero_le _, rfl, Lib.hid (Below.refl _ _), Lib.hid rfl⟩
      case round =>
        obtain ⟨j, hj, rfl, hw, he⟩ := hrel
        by_cases hlt : j < order.length
        · have he2 := he.out
          rw [fitsL_step hlt] at he2
          unfold fitAt at he2
          have hwr := b2.out.trans (hw.out.mono b2.out.size)
          obtain ⟨b, o, rfl, hbb, y⟩ := hx.out.at (below_up' hb.out hB hwr) (Nat.le_trans hB hwr.size) j hlt
          have hkr := hrg.out _ (List.getElem_mem hlt)
          have hc3' := hc3.out j hlt
          generalize order[j] = k at *
          obtain ⟨q, rfl⟩ := Int.eq_ofNat_of_zero_le hkr.1
          have hq : q < S.made.length := by omega
          have hqt : q < S.tks.length := by have := hlen.out; omega
          have hmkq : mkK S.made q = S.made[q] := by unfold mkK; rw [if_neg (by omega), Int.toNat_natCast, getD_at _ hq]
          obtain ⟨bm, om, em, hbm, cm⟩ := hE.out.sheet.made.at (below_up' hb.out hB hwr) (Nat.le_trans hB hwr.size) q hq
          obtain ⟨bt, ot, At', ct', et, hbt, ht0, ht1, ht2, htc, htm, htp⟩ := hE.out.sheet.tasks.at (below_up' hb.out hB hwr) q (by simpa using hqt)
          simp only [List.getElem_map] at ht0 ht1 ht2 htc htp
          have hbt3 : bt < wr.heap.size := Nat.lt_of_lt_of_le hbt (Nat.le_trans hB hwr.size)
          have z0 := (hw.out.cell (p := ⟨w.heap.size, 0, none⟩) s2).trans y0.out
          have z1 := (hw.out.cell (p := ⟨w.heap.size, 1, none⟩) s2).trans y1.out
          rw [em] at z0
          rw [et] at z1
          replace em := Lib.hid em
          replace et := Lib.hid et
          have hz : w.heap.size < wr.heap.size := by have := hw.out.size; omega
          have hjc : j ≤ ck := by omega
          have hmade := fun (r : Nat) (hr : r < S.made.length) (w9 : World) (h9 : Below w.heap.size w w9) => hE.out.sheet.made.at (below_up' hb.out hB h9) (Nat.le_trans hB h9.size) r hr
          have hrun := hc4'.out q hqt At' ct' htc htp Av cv wr hwr (hi2.out.up hw.out hw.out.size)
          have hfl := hfe.out vals q hqt
          have huk' := huk.out vals q hqt
          rw [tk_at hqt] at he2
          have hus : usesP S.tks[q] vals = usesL (fetchedP S.tks[q] vals).2 [] := rfl
          rw [hus] at he2 huk'
          have hul := usesL_length (fetchedP S.tks[q] vals).2 []
          simp only [List.length_nil, Nat.add_zero] at hul
          generalize fetchedP S.tks[q] vals = FP at *
          obtain ⟨⟨fv, fo⟩, l⟩ := FP
          dsimp only at he2 huk' hul hfl hrun
          rw [hmkq] at he2
          generalize S.made[q] = mq at *
          generalize hT : order.take j = T at *
          replace hc3' := Lib.hid hc3'
          replace hrun := Lib.hid hrun
          replace hwr := Lib.hid hwr
          replace hmade := Lib.hid hmade
          replace huk' := Lib.hid huk'
          replace hT := Lib.hid hT
          clear hkr hmkq hus htc htp htm he
          cases mq with
          | false =>
            simp only [Bool.false_and] at he2
            replace he2 := Lib.hid he2
            go_wp2_with fail
            go_ret
            exact ⟨by rw [he2.out]; rfl, hwr.out⟩
          | true =>
            simp only [Bool.true_and] at he2
            have hcont := hc3'.out q wr hwr.out
            cases hcn : T.contains (q : Int) with
            | true =>
              rw [hcn] at hcont he2
              simp only [Bool.not_true, Bool.false_and] at he2
              replace he2 := Lib.hid he2
              replace hcont := Lib.hid hcont
              replace hcn := Lib.hid hcn
              go_wp2_with fail
              refine hcont.out.mono ?_
              rintro e w6 ⟨rfl, rfl⟩
              go_wp2_with fail
              go_ret
              exact ⟨by rw [he2.out]; rfl, hwr.out⟩
            | false =>
              rw [hcn] at hcont he2
              simp only [Bool.not_false, Bool.true_and] at he2
              replace he2 := Lib.hid he2
              replace hcont := Lib.hid hcont
              replace hcn := Lib.hid hcn
              go_wp2_with fail
              refine hcont.out.mono ?_
              rintro e w6 ⟨rfl, rfl⟩
              clear hcont
              go_wp2_with fail
              refine hrun.out.mono ?_
              rintro e w7 ⟨v7, rfl, hown7, h7⟩
              have hw7 := below_up hw.out h7
              have hwr7 := below_up hwr.out h7
              obtain ⟨Af, cf, rfl, -, -, hf7⟩ := fets_own hown7
              have huc := l2Uses_calls Af cf l w7.heap.size w7 w7 (Below.refl _ _) (Nat.le_refl _) (by omega) hf7
              generalize usesL l [] = U at *
              replace hw7 := Lib.hid hw7
              replace hwr7 := Lib.hid hwr7
              replace huc := Lib.hid huc
              clear h7 hown7 hf7 z0 z1 cm hrun hwr hz ht0 ht1 ht2 hbt3 hw y hbm
              go_wp2_with fail
              refine huc.out.mono ?_
              rintro e w8 ⟨v8, rfl, hown8, h8⟩
              have hw8 := below_up hw7.out h8
              have hwr8 := below_up hwr7.out h8
              obtain ⟨Au, cu, rfl, hu1, hu2, hi8⟩ := ownsRow_ints hown8
              unfold maxLen at hu2
              replace hw8 := Lib.hid hw8
              replace hwr8 := Lib.hid hwr8
              replace hi8 := Lib.hid hi8
              clear h8 hown8 huc hw7 hwr7
              go_wp2_with fail
              go_loopw [14] (fun i wr => ∃ (a : Nat), a ≤ U.length ∧ i = .int .i64 a ∧ Hid (Below w8.heap.size w8 wr) ∧ Hid ((U.all fun x => !mkK S.made x || T.contains x) = (U.drop a).all fun x => !mkK S.made x || T.contains x)) (fun i _ => U.length - (intOf i).toNat)
              case atStart => exact ⟨0, Nat.zero_le _, rfl, Lib.hid (Below.refl _ _), Lib.hid rfl⟩
              case round =>
                obtain ⟨a, ha, rfl, hwi, hV⟩ := hrel
                have hwri := hwr8.out.trans (hwi.out.mono hwr8.out.size)
                have hwi2 := hw8.out.trans (hwi.out.mono hw8.out.size)
                by_cases hla : a < U.length
                · have hV2 := hV.out
                  rw [List.drop_eq_getElem_cons hla, List.all_cons] at hV2
                  obtain ⟨b2', o2, rfl, hb2', y2⟩ := hi8.out.at hwi.out hwi.out.size a hla
                  have hxr := huk'.out _ (List.getElem_mem hla)
                  have hcall := fun (w9 : World) (h9 : Below w.heap.size w w9) => hc3'.out U[a] w9 h9
                  generalize U[a] = x at *
                  obtain ⟨r, rfl⟩ := Int.eq_ofNat_of_zero_le hxr.1
                  have z0 := (hwi2.cell (p := ⟨w.heap.size, 0, none⟩) s2).trans y0.out
                  rw [em.out] at z0
                  have hz : w.heap.size < wr.heap.size := by have := hwi2.size; omega
                  by_cases hrn : r < S.made.length
                  · have hmkr : mkK S.made r = S.made[r] := by unfold mkK; rw [if_neg (by omega), Int.toNat_natCast, getD_at _ hrn]
                    obtain ⟨bm', om', em', hbm, cm⟩ := hmade.out r hrn wr hwri
                    rw [em.out] at em'
                    cases em'
                    rw [hmkr] at hV2
                    generalize S.made[r] = mr at *
                    have hd1 : decide ((r : Int) < (S.made.length : Int)) = true := by simp; omega
                    replace hwri := Lib.hid hwri
                    replace hwi2 := Lib.hid hwi2
                    cases mr with
                    | false =>
                      simp only [Bool.not_false, Bool.true_or, Bool.true_and] at hV2
                      replace hV2 := Lib.hid hV2
                      replace hcall := Lib.hid hcall
                      replace hmkr := Lib.hid hmkr
                      go_wp2_with fail
                      go_quiet (fail)
                      go_wp2_with fail
                      go_roundw
                      case rel => exact ⟨a + 1, by omega, by go_num, Lib.hid (below_drewN hwi.out _), hV2⟩
                      case measure => simp [intOf]; omega
                    | true =>
                      simp only [Bool.not_true, Bool.false_or] at hV2
                      cases hcx : T.contains (r : Int) with
                      | true =>
                        rw [hcx] at hcall hV2
                        simp only [Bool.true_and] at hV2
                        replace hV2 := Lib.hid hV2
                        replace hcall := Lib.hid hcall
                        replace hmkr := Lib.hid hmkr
                        replace hcx := Lib.hid hcx
                        go_wp2_with fail
                        go_quiet ((go_at_call 56; exact Calls.quiet_of_same ((hcall.out _ (below_drewN hwri.out _)).mono fun _ _ h => ⟨h.1, h.2.symm⟩)))
                        go_wp2_with fail
                        go_roundw
                        case rel => exact ⟨a + 1, by omega, by go_num, Lib.hid (below_drewN hwi.out _), hV2⟩
                        case measure => simp [intOf]; omega
                      | false =>
                        rw [hcx] at hcall hV2
                        simp only [Bool.false_and] at hV2
                        have he3 := he2.out
                        rw [hV2, Bool.false_and] at he3
                        replace he3 := Lib.hid he3
                        replace hV2 := Lib.hid hV2
                        replace hcall := Lib.hid hcall
                        replace hmkr := Lib.hid hmkr
                        replace hcx := Lib.hid hcx
                        go_wp2_with fail
                        go_quiet ((go_at_call 56; exact Calls.quiet_of_same ((hcall.out _ (below_drewN hwri.out _)).mono fun _ _ h => ⟨h.1, h.2.symm⟩)))
                        go_wp2_with fail
                        go_ret
                        exact ⟨by rw [he3.out]; rfl, below_drewN hwri.out _⟩
                  · have hmkr : mkK S.made r = false := by
                      cases h : mkK S.made r with
                      | false => rfl
                      | true => have := mkK_range (show mkK S.made r ≠ false by rw [h]; simp); omega
                    rw [hmkr] at hV2
                    simp only [Bool.not_false, Bool.true_or, Bool.true_and] at hV2
                    have hd1 : decide ((r : Int) < (S.made.length : Int)) = false := by simp; omega
                    replace hV2 := Lib.hid hV2
                    replace hcall := Lib.hid hcall
                    replace hmkr := Lib.hid hmkr
                    replace hwri := Lib.hid hwri
                    replace hwi2 := Lib.hid hwi2
                    go_wp2_with fail
                    go_quiet (fail)
                    go_wp2_with fail
                    go_roundw
                    case rel => exact ⟨a + 1, by omega, by go_num, Lib.hid (below_drewN hwi.out _), hV2⟩
                    case measure => simp [intOf]; omega
                · have hV2 := hV.out
                  rw [List.drop_eq_nil_of_le (by omega)] at hV2
                  have he3 := he2.out
                  rw [hV2] at he3
                  simp only [List.all_nil, Bool.true_and] at he3
                  replace he3 := Lib.hid he3
                  replace hV2 := Lib.hid hV2
                  replace hwi2 := Lib.hid hwi2
                  replace hwri := Lib.hid hwri
                  go_wp2_with fail
                  go_roundw
                  case rel => exact ⟨j + 1, by omega, by go_num, hwi2, he3⟩
                  case measure => simp [intOf]; omega
        · have he2 := he.out
          rw [fitsL_end hlt] at he2
          replace he2 := Lib.hid he2
          go_wp2_with fail
          go_ret
          exact ⟨by rw [he2.out]; rfl, b2.out.trans (hw.out.mono b2.out.size)⟩
end Go.Proofs.Ytpccgdkidnkppaa
