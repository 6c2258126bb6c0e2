import Derived.Test.YtpccgdkidnkppaaPk12FnExactRowNew
import Derived.Test.YtpccgdkidnkppaaPk13FnExactRowNew
import Derived.Test.YtpccgdkidnkppaaPk14FnExactRowNew
import Derived.Test.YtpccgdkidnkppaaPk15FnExactRowNew
import Derived.Test.YtpccgdkidnkppaaPk16FnExactRowNew
set_option linter.unusedVariables false
set_option linter.unusedSimpArgs false
namespace Go.Proofs.Ytpccgdkidnkppaa
open Go Go.RowKit

theorem all_filter {p c : Int → Bool} : ∀ (l : List Int), l.all (fun j => !p j || c j) = (l.filter p).all c := by
  intro l
  induction l with
  | nil => rfl
  | cons x l ih =>
    rw [List.all_cons, ih]
    cases h : p x with
    | true => rw [List.filter_cons_of_pos h, List.all_cons]; rfl
    | false => rw [List.filter_cons_of_neg (by rw [h]; simp)]; rfl
/-- the made keys that a key fetches -/
def usesM (S : Sh) (vals : List Int) (k : Int) : List Int := (usesP (S.tk k) vals).filter (mkK S.made)
theorem fitAt_uses (S : Sh) (vals order : List Int) (i : Nat) (k : Int) : fitAt S vals order i k = (mkK S.made k && !(order.take i).contains k && (usesM S vals k).all fun j => (order.take i).contains j) := by
  unfold fitAt usesM
  rw [all_filter]
theorem valsOk_of {xs : List Int} (h1 : xs.length ≤ 10) (h2 : ∀ x ∈ xs, 0 ≤ x ∧ x ≤ 96) : valsOk xs = true := by
  unfold valsOk
  rw [vals_iff.2 h2]
  simp [h1]

set_option maxHeartbeats 2000000 in
theorem uses_calls (E : MkEnv) (S : Sh) (hE : E.Good S) (q : Nat) (hq : q < S.made.length) (hmq : mkK S.made q = true) (Av : Option Addr) (cv : Nat) (vals : List Int) (w : World) (hb : Below E.B E.w0 w) (hB : E.B ≤ w.heap.size) (hv : IntsAt w.heap.size w Av vals) (hvl : vals.length ≤ 10) (hvr : ∀ x ∈ vals, 0 ≤ x ∧ x ≤ 96) :
    Calls Try.prog 63 #[.agg #[.slice E.Am S.made.length E.cm, .slice E.At S.tks.length E.ct], .int .i64 q, .slice Av vals.length cv] w fun e w' =>
      ∃ v, e = .returned v ∧ w'.ownsRow w.heap.size 3 1 v (usesM S vals q).length (ints (usesM S vals q)) ∧ Below w.heap.size w w' := by
  have hql : q < S.tks.length := by have := hE.ok.len; omega
  have hten := hE.ok.ten
  have hok := hE.ok.tks S.tks[q] (List.getElem_mem _)
  have hokT := hE.ok.okT hql
  obtain ⟨bt, ot, At', ct', et, hbt, ht0, ht1, ht2, htc, htm, htp⟩ := hE.sheet.tasks.at hb q (by simpa using hql)
  simp only [List.getElem_map] at ht0 ht1 ht2 htc htp
  have hbt3 := Nat.lt_of_lt_of_le hbt hB
  have hc1 := fun w1 (hw : Below w.heap.size w w1) => taskUses_good S.tks[q] At' ct' vals Av cv w.heap.size w w1 hw hw.size hok hokT htc htm (PartsIs.up hb hB _ _ _ htp) (by unfold maxLen; omega) hv (valsOk_of hvl hvr)
  have hc2 := fun k w1 (hw : Below w.heap.size w w1) => makes_calls E.Am E.At E.cm S.tks.length E.ct k S.made E.B E.w0 w1 (below_up' hb hB hw) (Nat.le_trans hB hw.size) (Nat.le_trans hE.sheet.lm hE.sheet.mm) hE.sheet.made
  simp only [et] at hc2
  have hul := usesP_length S.tks[q] vals
  have hfs := fets_small hokT
  have hum : usesM S vals q = (usesP S.tks[q] vals).filter (mkK S.made) := by unfold usesM; rw [tk_at hql]
  rw [hum]
  generalize usesP S.tks[q] vals = U at *
  obtain ⟨R, hR⟩ : ∃ R, U.filter (mkK S.made) = R := ⟨_, rfl⟩
  rw [hR]
  have hUl : U.length ≤ 100 := by omega
  replace hc1 := Lib.hid hc1
  replace hc2 := Lib.hid hc2
  replace hR := Lib.hid hR
  replace hb := Lib.hid hb
  clear hok hokT htc htm htp hul hfs hum hv hE hmq
  go_enter Try.func63, Try.ntmps63
  go_wp2_with fail
  refine (hc1.out _ (below_al (Below.refl _ _) _)).mono ?_
  rintro e w1 ⟨v1, rfl, hown1, h1⟩
  have x0 : w1.cell? ⟨w.heap.size, 0, none⟩ = some (.slice E.Am S.made.length E.cm) := (h1.cell (p := ⟨w.heap.size, 0, none⟩) (by simp)).trans (by simp)
  have x1 : w1.cell? ⟨w.heap.size, 1, none⟩ = some (.slice (some ⟨bt, ot, none⟩) S.tks.length E.ct) := (h1.cell (p := ⟨w.heap.size, 1, none⟩) (by simp)).trans (by simp)
  have b1 := below_from h1
  have s1 : w.heap.size < w1.heap.size := by have := h1.size; simp at this; omega
  obtain ⟨A1, c1, rfl, hr1, hr2, hi1⟩ := ownsRow_ints hown1
  unfold maxLen at hr2
  replace b1 := Lib.hid b1
  replace hi1 := Lib.hid hi1
  replace x0 := Lib.hid x0
  replace x1 := Lib.hid x1
  clear h1 hown1 hc1 ht0 ht1 ht2
  go_wp2_with fail
  go_loopw [9, 11, 24] (fun o _ i wr => ∃ (j : Nat) (out : List Int), j ≤ U.length ∧ i = .int .i64 j ∧ out.length ≤ j ∧ Hid (out = (U.take j).filter (mkK S.made)) ∧ Hid (wr.ownsRow w1.heap.size 3 1 o out.length (ints out)) ∧ Hid (Below w1.heap.size w1 wr)) (fun _ _ i _ => U.length - (intOf i).toNat)
  case atStart => exact ⟨0, [], Nat.zero_le _, rfl, Nat.le_refl _, Lib.hid rfl, Lib.hid (World.ownsRow_nil _ _ _ _), Lib.hid (Below.refl _ _)⟩
  case round =>
    obtain ⟨j, out, hj, rfl, hol, hout, hown, hw⟩ := hrel
    by_cases hlt : j < U.length
    · obtain ⟨b, o, rfl, hbb, y⟩ := hi1.out.at hw.out hw.out.size j hlt
      have htk : (U.take (j + 1)).filter (mkK S.made) = out ++ (if mkK S.made U[j] then [U[j]] else []) := by
        rw [List.take_succ_eq_append_getElem hlt, List.filter_append, ← hout.out]
        cases h : mkK S.made U[j] <;> simp [h]
      generalize U[j] = k at *
      have y0 := (hw.out.cell (p := ⟨w.heap.size, 0, none⟩) s1).trans x0.out
      have y1 := (hw.out.cell (p := ⟨w.heap.size, 1, none⟩) s1).trans x1.out
      have hcall := hc2.out k wr (b1.out.trans (hw.out.mono b1.out.size))
      have hz : w.heap.size < wr.heap.size := by have := hw.out.size; omega
      cases hmk : mkK S.made k with
      | false =>
        rw [hmk] at hcall htk
        simp only [Bool.false_eq_true, if_false, List.append_nil] at htk
        replace htk := Lib.hid htk
        replace hcall := Lib.hid hcall
        replace hmk := Lib.hid hmk
        go_wp2_with fail
        refine hcall.out.mono ?_
        rintro e w5 ⟨rfl, h5⟩
        have hown5 := ownsRow_block hown.out (fun i hi => h5.block i (hown.out.lt i hi).2)
        have hw5 := below_up hw.out h5
        replace hown5 := Lib.hid hown5
        replace hw5 := Lib.hid hw5
        clear h5 y y0 y1 hown hcall
        go_wp2_with fail
        go_roundw
        case rel => exact ⟨j + 1, out, by omega, by go_num, by omega, Lib.hid htk.out.symm, hown5, hw5⟩
        case measure => simp [intOf]; omega
      | true =>
        rw [hmk] at hcall htk
        simp only [if_true] at htk
        replace htk := Lib.hid htk
        replace hcall := Lib.hid hcall
        replace hmk := Lib.hid hmk
        go_wp2_with fail
        refine hcall.out.mono ?_
        rintro e w5 ⟨rfl, h5⟩
        have hown5 := ownsRow_block hown.out (fun i hi => h5.block i (hown.out.lt i hi).2)
        have hw5 := below_up hw.out h5
        have hwz := hw5.size
        replace hown5 := Lib.hid hown5
        replace hw5 := Lib.hid hw5
        clear h5 y y0 y1 hown hcall
        go_wp2_with (at_builtin; go_loud (with_reducible refine wpList_app1 (by rfl) (.tmp 31) (.tmp 33) 26 (by rfl) intTy w1.heap.size u9 out.length (ints out) (by with_unfolding_all rfl) (hown5.out.alloc _) w5.heap.size 1 [.int .i64 k] (by with_unfolding_all rfl) (by with_unfolding_all rfl) ⟨_, _, heap_alloc_new w5 _, rfl⟩ (one_int _ _) ?_ ?_ ?_ ?_))
        · unfold maxLen; omega
        · omega
        · simp; omega
        intro g7 cap w7 hown7 hgrow7 hat7
        have hw7 : Below w1.heap.size w1 w7 := (hw5.out.alloc hwz _).grown hgrow7 (by simp; omega) (fun i hi => (hown5.out.lt i hi).1)
        have hown7' : w7.ownsRow w1.heap.size 3 1 (.slice (some ⟨g7, 0, none⟩) (out.length + 1) cap) (out ++ [k]).length (ints (out ++ [k])) := by
          rw [ints_append, List.length_append, List.length_singleton]; exact hown7
        replace hw7 := Lib.hid hw7
        replace hown7' := Lib.hid hown7'
        clear hown7 hgrow7 hat7
        go_wp2_with fail
        go_roundw
        case rel => exact ⟨j + 1, out ++ [k], by omega, by go_num, by simp; omega, Lib.hid htk.out.symm, hown7', hw7⟩
        case measure => simp [intOf]; omega
    · have hje : j = U.length := by omega
      subst hje
      have ho := hout.out
      rw [List.take_length, hR.out] at ho
      have hfin := own_low hown.out b1.out.size
      rw [ho] at hfin
      have hw2 := b1.out.trans (hw.out.mono b1.out.size)
      replace hfin := Lib.hid hfin
      replace hw2 := Lib.hid hw2
      replace ho := Lib.hid ho
      clear hown hout
      go_wp2_with fail
      go_ret
      exact ⟨_, rfl, hfin.out, hw2.out⟩

/-- whether an order fits -/
def orderFitsP (S : Sh) (order : List Int) : Bool := (buildAllP S).2 && fitsP S (buildAllP S).1 order
theorem take_at {A : Option Addr} {B : Nat} {w : World} {xs : List Int} (h : IntsAt B w A xs) (j : Nat) : IntsAt B w A (xs.take j) := fun i hi => by
  rw [List.length_take] at hi
  have := h i (by omega)
  rw [List.getElem_take]
  exact this

set_option maxHeartbeats 4000000 in
theorem orderFits_good (E : MkEnv) (S : Sh) (hE : E.Good S) (Ak : Option Addr) (ck : Nat) (order : List Int) (w : World) (hb : Below E.B E.w0 w) (hB : E.B ≤ w.heap.size) (hx : IntsAt E.B E.w0 Ak order) (hl : order.length ≤ ck) (hm : ck ≤ maxLen) :
    Calls Try.prog 16 #[.agg #[.slice E.Am S.made.length E.cm, .slice E.At S.tks.length E.ct], .slice E.Ai S.inputs.length E.ci, .slice Ak order.length ck] w fun e w' =>
      e = .returned (.bool (orderFitsP S order)) ∧ Below w.heap.size w w' := by
  have hten := hE.ok.ten
  have hc1 := fun w1 (hw : Below w.heap.size w w1) => buildAll_good E S hE w1 (below_up' hb hB hw) (Nat.le_trans hB hw.size)
  have hc2 := fun k w1 (hw : Below w.heap.size w w1) => makes_calls E.Am E.At E.cm S.tks.length E.ct k S.made E.B E.w0 w1 (below_up' hb hB hw) (Nat.le_trans hB hw.size) (Nat.le_trans hE.sheet.lm hE.sheet.mm) hE.sheet.made
  have hml := Nat.le_trans hl hm
  have hc3 := fun (j : Nat) (hj : j < order.length) (k : Int) w1 (hw : Below w.heap.size w w1) => by
    have h := contains_calls Ak ck k (order.take j) E.B E.w0 w1 (below_up' hb hB hw) (Nat.le_trans hB hw.size) (by rw [List.length_take]; omega) (take_at hx j)
    rw [show (order.take j).length = j by rw [List.length_take]; omega] at h
    exact h
  have hall := fun all (h : buildAllP S = (all, true)) => all_law hE.ok h
  have hc4 := fun (vals : List Int) (hvl : vals.length ≤ 10) (hvr : ∀ x ∈ vals, 0 ≤ x ∧ x ≤ 96) (q : Nat) (hq : q < S.made.length) (hmq : mkK S.made q = true) (Av : Option Addr) (cv : Nat) (w1 : World) (hw : Below w.heap.size w w1) (hv : IntsAt w1.heap.size w1 Av vals) =>
    uses_calls E S hE q hq hmq Av cv vals w1 (below_up' hb hB hw) (Nat.le_trans hB hw.size) hv hvl hvr
  unfold orderFitsP
  obtain ⟨P, hP⟩ : ∃ P, buildAllP S = P := ⟨_, rfl⟩
  rw [hP] at hc1 hall ⊢
  obtain ⟨vals, ok⟩ := P
  dsimp only at hc1 hall ⊢
  unfold maxLen at hm hml
  replace hc1 := Lib.hid hc1
  replace hc2 := Lib.hid hc2
  replace hc3 := Lib.hid hc3
  replace hc4 := Lib.hid hc4
  replace hb := Lib.hid hb
  replace hE := Lib.hid hE
  replace hx := Lib.hid hx
  go_enter Try.func16, Try.ntmps16
  go_wp2_with fail
  refine (hc1.out _ (below_al (Below.refl _ _) _)).mono ?_
  rintro e w1 ⟨v1, rfl, hown1, h1⟩
  dsimp only at hown1
  have x0 : w1.cell? ⟨w.heap.size, 0, none⟩ = some (.slice E.Am S.made.length E.cm) := (h1.cell (p := ⟨w.heap.size, 0, none⟩) (by simp)).trans (by simp)
  have x1 : w1.cell? ⟨w.heap.size, 1, none⟩ = some (.slice E.At S.tks.length E.ct) := (h1.cell (p := ⟨w.heap.size, 1, none⟩) (by simp)).trans (by simp)
  have b1 := below_from h1
  have s1 : w.heap.size < w1.heap.size := by have := h1.size; simp at this; omega
  obtain ⟨Av, cv, rfl, -, -, hi1⟩ := ownsRow_ints hown1
  replace b1 := Lib.hid b1
  replace hi1 := Lib.hid hi1
  replace x0 := Lib.hid x0
  replace x1 := Lib.hid x1
  clear h1 hown1 hc1
  cases ok with
  | false =>
    go_wp2_with fail
    go_ret
    exact ⟨rfl, b1.out⟩
  | true =>
    obtain ⟨hvl, hvr, -, -⟩ := hall vals rfl
    have hc4' := hc4.out vals (by omega) hvr
    replace hc4' := Lib.hid hc4'
    replace hP := Lib.hid hP
    replace hvr := Lib.hid hvr
    replace hvl := Lib.hid hvl
    clear hall hc4
    go_wp2_with fail
    go_loopw [9, 10, 12, 23, 44] (fun _ _ _ i _ wr => ∃ (j : Nat), j ≤ order.length ∧ i = .int .i64 j ∧ Hid (Below w1.heap.size w1 wr) ∧ Hid (fitsP S vals order = fitsL S vals order j)) (fun _ _ _ i _ _ => order.length - (intOf i).toNat)
    case atStart => exact ⟨0, Nat.zero_le _, rfl, Lib.hid (Below.refl _ _), Lib.hid rfl⟩
    case round =>
      obtain ⟨j, hj, rfl, hw, he⟩ := hrel
      by_cases hlt : j < order.length
      · have he2 := he.out
        rw [fitsL_step hlt, fitAt_uses] at he2
        obtain ⟨b, o, rfl, hbb, y⟩ := hx.out.at (below_up' hb.out hB (b1.out.trans (hw.out.mono b1.out.size))) (Nat.le_trans hB (Nat.le_trans b1.out.size hw.out.size)) j hlt
        have hc3' := hc3.out j hlt
        generalize order[j] = k at *
        have y0 := (hw.out.cell (p := ⟨w.heap.size, 0, none⟩) s1).trans x0.out
        have y1 := (hw.out.cell (p := ⟨w.heap.size, 1, none⟩) s1).trans x1.out
        have hcall := hc2.out k wr (b1.out.trans (hw.out.mono b1.out.size))
        have hz : w.heap.size < wr.heap.size := by have := hw.out.size; omega
        have hjc : j ≤ ck := by omega
        replace hc3' := Lib.hid hc3'
        cases hmk : mkK S.made k with
        | false =>
          rw [hmk] at hcall he2
          simp only [Bool.false_and] at he2
          replace he2 := Lib.hid he2
          replace hcall := Lib.hid hcall
          replace hmk := Lib.hid hmk
          go_wp2_with fail
          refine hcall.out.mono ?_
          rintro e w5 ⟨rfl, h5⟩
          have hw5 := below_up hw.out h5
          replace hw5 := Lib.hid hw5
          clear h5 y y0 y1 hcall
          go_wp2_with fail
          go_ret
          exact ⟨by rw [he2.out]; rfl, b1.out.trans (hw5.out.mono b1.out.size)⟩
        | true =>
          rw [hmk] at hcall he2
          simp only [Bool.true_and] at he2
          have hkr := mkK_range (show mkK S.made k ≠ false by rw [hmk]; simp)
          obtain ⟨q, rfl⟩ := Int.eq_ofNat_of_zero_le hkr.1
          have hq : q < S.made.length := by omega
          replace hcall := Lib.hid hcall
          replace hmk := Lib.hid hmk
          clear hkr
          go_wp2_with fail
          refine hcall.out.mono ?_
          rintro e w5 ⟨rfl, h5⟩
          have hw5 := below_up hw.out h5
          have z0 := (hw5.cell (p := ⟨w.heap.size, 0, none⟩) s1).trans x0.out
          have z1 := (hw5.cell (p := ⟨w.heap.size, 1, none⟩) s1).trans x1.out
          have hz5 : w.heap.size < w5.heap.size := by have := hw5.size; omega
          have hcont := hc3'.out q w5 (b1.out.trans (hw5.mono b1.out.size))
          have hus := hc4'.out q hq hmk.out Av cv w5 (b1.out.trans (hw5.mono b1.out.size)) (hi1.out.up hw5 hw5.size)
          generalize usesM S vals q = V at *
          have hin := fun (x : Int) (w9 : World) (h9 : Below w1.heap.size w1 w9) => hc3'.out x w9 (b1.out.trans (h9.mono b1.out.size))
          generalize hT : order.take j = T at *
          replace hw5 := Lib.hid hw5
          replace hcont := Lib.hid hcont
          replace hus := Lib.hid hus
          replace hin := Lib.hid hin
          replace hT := Lib.hid hT
          clear h5 y y0 y1 hcall hw hz hc3'
          cases hcn : T.contains (q : Int) with
          | true =>
            rw [hcn] at hcont he2
            simp only [Bool.not_true, Bool.false_and] at he2
            replace he2 := Lib.hid he2
            replace hcont := Lib.hid hcont.out
            replace hcn := Lib.hid hcn
            go_wp2_with fail
            refine hcont.out.mono ?_
            rintro e w6 ⟨rfl, rfl⟩
            go_wp2_with fail
            go_ret
            exact ⟨by rw [he2.out]; rfl, b1.out.trans (hw5.out.mono b1.out.size)⟩
          | false =>
            rw [hcn] at hcont he2
            simp only [Bool.not_false, Bool.true_and] at he2
            replace he2 := Lib.hid he2
            replace hcont := Lib.hid hcont.out
            replace hcn := Lib.hid hcn
            go_wp2_with fail
            refine hcont.out.mono ?_
            rintro e w6 ⟨rfl, rfl⟩
            go_wp2_with fail
            refine hus.out.mono ?_
            rintro e w7 ⟨v7, rfl, hown7, h7⟩
            have hw7 := below_up hw5.out h7
            obtain ⟨Au, cu, rfl, hu1, hu2, hi7⟩ := ownsRow_ints hown7
            unfold maxLen at hu2
            replace hw7 := Lib.hid hw7
            replace hi7 := Lib.hid hi7
            clear h7 hown7 z0 z1 hcont hus hz5 hw5
            go_wp2_with fail
            go_loopw [12, 44] (fun _ i wr => ∃ (a : Nat), a ≤ V.length ∧ i = .int .i64 a ∧ wr = w7 ∧ Hid (V.all (fun x => T.contains x) = (V.drop a).all fun x => T.contains x)) (fun _ i _ => V.length - (intOf i).toNat)
            case atStart => exact ⟨0, Nat.zero_le _, rfl, rfl, Lib.hid rfl⟩
            case round =>
              obtain ⟨a, ha, rfl, rfl, hV⟩ := hrel
              by_cases hla : a < V.length
              · have hV2 := hV.out
                rw [List.drop_eq_getElem_cons hla, List.all_cons] at hV2
                obtain ⟨b2, o2, rfl, hb2, y2⟩ := hi7.out.at (Below.refl _ _) (Nat.le_refl _) a hla
                have hcall := hin.out V[a] wr hw7.out
                generalize V[a] = x at *
                cases hcx : T.contains x with
                | true =>
                  rw [hcx] at hcall hV2
                  simp only [Bool.true_and] at hV2
                  replace hV2 := Lib.hid hV2
                  replace hcall := Lib.hid hcall
                  replace hcx := Lib.hid hcx
                  go_wp2_with fail
                  refine hcall.out.mono ?_
                  rintro e w8 ⟨rfl, rfl⟩
                  go_wp2_with fail
                  go_roundw
                  case rel => exact ⟨a + 1, by omega, by go_num, by first | rfl | trivial, hV2⟩
                  case measure => simp [intOf]; omega
                | false =>
                  rw [hcx] at hcall hV2
                  simp only [Bool.false_and] at hV2
                  have he3 := he2.out
                  rw [hV2, Bool.false_and] at he3
                  replace he3 := Lib.hid he3
                  replace hV2 := Lib.hid hV2
                  replace hcall := Lib.hid hcall
                  replace hcx := Lib.hid hcx
                  go_wp2_with fail
                  refine hcall.out.mono ?_
                  rintro e w8 ⟨rfl, rfl⟩
                  go_wp2_with fail
                  go_ret
                  exact ⟨by rw [he3.out]; rfl, b1.out.trans (hw7.out.mono b1.out.size)⟩
              · have hV2 := hV.out
                rw [List.drop_eq_nil_of_le (by omega)] at hV2
                have he3 := he2.out
                rw [hV2] at he3
                simp only [List.all_nil, Bool.true_and] at he3
                replace he3 := Lib.hid he3
                replace hV2 := Lib.hid hV2
                go_wp2_with fail
                go_roundw
                case rel => exact ⟨j + 1, by omega, by go_num, hw7, he3⟩
                case measure => simp [intOf]; omega
      · have he2 := he.out
        rw [fitsL_end hlt] at he2
        replace he2 := Lib.hid he2
        go_wp2_with fail
        go_ret
        exact ⟨by rw [he2.out]; rfl, b1.out.trans (hw.out.mono b1.out.size)⟩
end Go.Proofs.Ytpccgdkidnkppaa

set_option linter.unusedVariables false
set_option linter.unusedSimpArgs false
namespace Go.Proofs.Ytpccgdkidnkppaa
open Go Go.RowKit

set_option maxHeartbeats 1000000 in
theorem orderTopo_bad (Am At Ak : Option Addr) (cm ct ck : Nat) (made : List Bool) (tasks : List Task) (keys : List Int) (B : Nat) (w0 w : World) (hb : Below B w0 w) (hB : B ≤ w.heap.size) (hs : SheetAt B w0 Am cm At ct made tasks) (hx : IntsAt B w0 Ak keys) (hkl : keys.length ≤ maxLen) (hbad : safeP made tasks = true → keysOk made.length keys = false) :
    Calls Try.prog 21 #[.agg #[.slice Am made.length cm, .slice At tasks.length ct], .slice Ak keys.length ck] w fun e w' => e = .returned (.tuple #[.slice none 0 0, .bool false]) ∧ Below w.heap.size w w' := by
  have hc1 := fun w1 (hw : Below w.heap.size w w1) => sheetSafe_calls Am At cm ct made tasks B w0 w1 (below_up' hb hB hw) (Nat.le_trans hB hw.size) hs
  have hc3 := fun w1 (hw : Below w.heap.size w w1) => all_calls Am At Ak made.length cm tasks.length ct ck keys B w0 w1 (below_up' hb hB hw) (Nat.le_trans hB hw.size) hkl hx
  generalize safeP made tasks = d1 at *
  generalize keysOk made.length keys = d3 at *
  replace hb := Lib.hid hb
  replace hs := Lib.hid hs
  replace hx := Lib.hid hx
  cases d1 with
  | false =>
    replace hc1 := Lib.hid hc1
    clear hc3 hbad
    go_enter Try.func21, Try.ntmps21
    go_wp2_with fail
    refine (hc1.out _ (below_al (Below.refl _ _) _)).mono ?_
    rintro e w1 ⟨rfl, h1⟩
    replace h1 := Lib.hid h1
    go_wp2_with fail
    go_ret2
    exact ⟨rfl, below_from h1.out⟩
  | true =>
    have h3 := hbad rfl
    subst h3
    replace hc1 := Lib.hid hc1
    replace hc3 := Lib.hid hc3
    clear hbad
    go_enter Try.func21, Try.ntmps21
    go_wp2_with fail
    refine (hc1.out _ (below_al (Below.refl _ _) _)).mono ?_
    rintro e w1 ⟨rfl, h1⟩
    have x0 : w1.cell? ⟨w.heap.size, 0, none⟩ = some (.slice Am made.length cm) := (h1.cell (p := ⟨w.heap.size, 0, none⟩) (by simp)).trans (by simp)
    have x1 : w1.cell? ⟨w.heap.size, 1, none⟩ = some (.slice At tasks.length ct) := (h1.cell (p := ⟨w.heap.size, 1, none⟩) (by simp)).trans (by simp)
    have b1 := below_from h1
    replace b1 := Lib.hid b1
    clear h1
    go_wp2_with fail
    refine (hc3.out _ b1.out).mono ?_
    rintro e w2 ⟨rfl, h2⟩
    have b2 := below_up b1.out h2
    replace b2 := Lib.hid b2
    clear h2 x0 x1
    go_wp2_with fail
    go_ret2
    exact ⟨rfl, b2.out⟩

set_option maxHeartbeats 1000000 in
theorem specOrderTopo_bad (Am At Ak : Option Addr) (cm ct ck : Nat) (made : List Bool) (tasks : List Task) (keys : List Int) (B : Nat) (w0 w : World) (hb : Below B w0 w) (hB : B ≤ w.heap.size) (hs : SheetAt B w0 Am cm At ct made tasks) (hnod : ∀ T ∈ tasks, nodes T ≤ 1000000000) (hml : (made.length : Int) ≤ 9223372036854775807) (hx : IntsAt B w0 Ak keys) (hkl : keys.length ≤ maxLen) (hbad : safeP made tasks = true → keysOk made.length keys = false) :
    Calls Try.prog 22 #[.agg #[.slice Am made.length cm, .slice At tasks.length ct], .slice Ak keys.length ck] w fun e w' => GivesOwn w.heap.size ([], false) e w w' := by
  have hc1 := fun w1 (hw : Below w.heap.size w w1) => specSheetSafe_calls Am At cm ct made tasks B w0 w1 (below_up' hb hB hw) (Nat.le_trans hB hw.size) hs hnod
  have hc2 := fun w1 (hw : Below w.heap.size w w1) => l4Keys_calls Am At Ak cm ct ck made tasks keys B w0 w1 (below_up' hb hB hw) (Nat.le_trans hB hw.size) hs hnod hml hkl hx
  have hown0 : ((w.alloc (.cells #[.slice Am made.length cm, .slice At tasks.length ct] 31 (0, 0))).alloc (.cells #[] 3 (0, 0))).ownsRow w.heap.size 3 1 (.slice (some ⟨w.heap.size + 1, 0, none⟩) 0 0) 0 (ints []) := by
    simpa [ints] using World.ownsRow_made (base := w.heap.size) (w.alloc (.cells #[.slice Am made.length cm, .slice At tasks.length ct] 31 (0, 0))) #[] 0 (by simp) (by simp [maxLen]) rfl
  generalize safeP made tasks = d1 at *
  generalize sheetOk made tasks = d2 at *
  generalize keysOk made.length keys = d3 at *
  replace hb := Lib.hid hb
  replace hs := Lib.hid hs
  replace hx := Lib.hid hx
  replace hown0 := Lib.hid hown0
  cases d1 with
  | false =>
    replace hc1 := Lib.hid hc1
    clear hc2 hbad
    go_enter Try.func22, Try.ntmps22
    go_wp2_with fail
    refine (hc1.out _ (below_al (below_al (Below.refl _ _) _) _)).mono ?_
    rintro e w1 ⟨rfl, h1⟩
    have hown1 := ownsRow_block hown0.out (fun i hi => h1.block i (hown0.out.lt i hi).2)
    have b1 : Below w.heap.size w w1 := below_from (below_from h1)
    replace b1 := Lib.hid b1
    replace hown1 := Lib.hid hown1
    clear h1
    go_wp2_with fail
    go_ret2
    exact ⟨_, rfl, hown1.out, b1.out⟩
  | true =>
    have h3 := hbad rfl
    subst h3
    simp only [Bool.false_and] at hc2
    replace hc1 := Lib.hid hc1
    replace hc2 := Lib.hid hc2
    clear hbad
    go_enter Try.func22, Try.ntmps22
    go_wp2_with fail
    refine (hc1.out _ (below_al (below_al (Below.refl _ _) _) _)).mono ?_
    rintro e w1 ⟨rfl, h1⟩
    have hbox1 : w1.heap[w.heap.size]? = some (.cells #[.slice Am made.length cm, .slice At tasks.length ct] 31 (0, 0)) := (h1.block _ (by simp; omega)).trans ((heap_old (by simp)).trans (heap_new rfl))
    have hown1 := ownsRow_block hown0.out (fun i hi => h1.block i (hown0.out.lt i hi).2)
    have b1 : Below w.heap.size w w1 := below_from (below_from h1)
    have x0 : w1.cell? ⟨w.heap.size, 0, none⟩ = some (.slice Am made.length cm) := (cellm hbox1 0).trans rfl
    have x1 : w1.cell? ⟨w.heap.size, 1, none⟩ = some (.slice At tasks.length ct) := (cellm hbox1 1).trans rfl
    have s1 := block_lt hbox1
    replace b1 := Lib.hid b1
    replace hown1 := Lib.hid hown1
    replace hbox1 := Lib.hid hbox1
    clear h1
    go_wp2_with fail
    refine (hc2.out _ b1.out).mono ?_
    rintro e w2 ⟨rfl, h2⟩
    have hown2 := ownsRow_block hown1.out (fun i hi => h2.block i (hown1.out.lt i hi).2)
    have b2 := below_up b1.out h2
    replace b2 := Lib.hid b2
    replace hown2 := Lib.hid hown2
    clear h2 x0 x1
    go_wp2_with fail
    go_ret2
    exact ⟨_, rfl, hown2.out, b2.out⟩

/-- a topological order fits rows of one number -/
theorem fits_topo_calls (Am At Ai Ax : Option Addr) (cm ct ci cx : Nat) (made : List Bool) (tasks : List Task) (keys out : List Int) (z : Int) (hz : 0 ≤ z ∧ z ≤ 96) (X : Int → Bool) (hsafe : safeP made tasks = true) (hX : ∀ k, X k = true ↔ Reach (mkK made) (mayS made tasks) keys k) (hT : TOk X (mayS made tasks) made.length out)
    (B : Nat) (w0 w : World) (hb : Below B w0 w) (hB : B ≤ w.heap.size) (hs : SheetAt B w0 Am cm At ct made tasks) (hi : IntsAt B w0 Ai (List.replicate made.length z)) (hci : made.length ≤ ci) (hcm : ci ≤ maxLen) (hx : IntsAt B w0 Ax out) (hxc : out.length ≤ cx) (hxm : cx ≤ maxLen) :
    Calls Try.prog 16 #[.agg #[.slice Am made.length cm, .slice At tasks.length ct], .slice Ai made.length ci, .slice Ax out.length cx] w fun e w' => e = .returned (.bool true) ∧ Below w.heap.size w w' := by
  have hok : sheetOk made tasks = true := by unfold safeP at hsafe; rw [Bool.and_eq_true] at hsafe; exact hsafe.1
  have htk : takesOk made.length (List.replicate made.length z) = true := by
    unfold takesOk
    rw [Bool.and_eq_true]
    exact ⟨by simp, vals_iff.2 (fun x hx => by rw [List.mem_replicate] at hx; rw [hx.2]; exact hz)⟩
  obtain ⟨tks, rfl, hS⟩ := ok_sh hok htk
  have h := orderFits_good ⟨Am, cm, At, ct, Ai, ci, B, w0⟩ ⟨made, tks, List.replicate made.length z⟩ ⟨hs, hi, by simpa using hci, hcm, hS⟩ Ax cx out w hb hB hx hxc hxm
  have hr : orderFitsP ⟨made, tks, List.replicate made.length z⟩ out = true := by
    unfold orderFitsP
    rw [safe_build hS hsafe, topo_fits hS _ hX hT]; rfl
  rw [hr] at h
  simp only [List.length_replicate] at h
  simp only [List.length_map]
  exact h
end Go.Proofs.Ytpccgdkidnkppaa

set_option linter.unusedVariables false
set_option linter.unusedSimpArgs false
namespace Go.Proofs.Ytpccgdkidnkppaa
open Go Go.RowKit

/-! what is suspended fits -/
structure FI (S : Sh) (vals : List Int) (st : MkSt) : Prop where
  fits : ∀ i (h : i < st.order.length), fitAt S vals st.order i st.order[i] = true
  cov : ∀ k, st.known k ≠ none → k ∈ st.order
theorem fitAt_app {S : Sh} {vals order l : List Int} {i : Nat} {k : Int} (h : i ≤ order.length) : fitAt S vals (order ++ l) i k = fitAt S vals order i k := by
  unfold fitAt
  rw [List.take_append_of_le_length h]
theorem val_same {S : Sh} (hS : S.Ok) {all : List Int} (hall : buildAllP S = (all, true)) {kn : Int → Option Int} (hK : KnE S kn) {k y : Int} (hA : Ans S kn k y) : y = atK all k := by
  obtain ⟨a1, a2, a3, -⟩ := all_law hS hall
  have hsp : mkK S.made k = true ∨ mkK S.made k = false := by cases mkK S.made k <;> simp
  have hval : (specKeyP S k).1 = y := by
    rcases hA with ⟨h1, rfl⟩ | h1
    · rw [specKeyP_unmade h1]
    · obtain ⟨rank, M, hKn⟩ := hK
      have := spec_known hKn (rank k) k y [] S.made.length [] rfl h1 List.nodup_nil (fun x hx => by cases hx) (fun x hx => by cases hx) (by simp)
      unfold specKeyP
      rw [this]
  by_cases hr : 0 ≤ k ∧ k < S.made.length
  · obtain ⟨q, rfl⟩ := Int.eq_ofNat_of_zero_le hr.1
    have hq : q < all.length := by omega
    rw [atK_in hq, a3 q hq, hval]
  · have hm : mkK S.made k = false := by
      cases h : mkK S.made k with
      | false => rfl
      | true => exact (hr (mkK_range (by rw [h]; simp))).elim
    rw [specKeyP_unmade hm] at hval
    have hin := hS.ins
    rw [← hval, atK_out (by omega), atK_out (by omega)]
structure Grew (S : Sh) (vals : List Int) (st st' : MkSt) : Prop where
  fi : FI S vals st'
  kn : KnE S st'.known
  pre : ∃ l, st'.order = st.order ++ l
theorem susp_run {S : Sh} (hS : S.Ok) {all : List Int} (hall : buildAllP S = (all, true)) {n : Nat}
    (ih : ∀ (st : MkSt) (k : Int), Inv S n st → KnE S st.known → FI S all st → (keyP S n st k).1.2 = true → Grew S all st (keyP S n st k).2 ∧ (mkK S.made k = true → k ∈ (keyP S n st k).2.order)) :
    ∀ (m : Itr) (st : MkSt) (l : List (Int × Int)), Inv S n st → KnE S st.known → FI S all st → (m.run (keyP S n) st).1.2 = true →
      Grew S all st (m.run (keyP S n) st).2 ∧ ∀ g ∈ (m.run (fetF all) l).2, g ∈ l ∨ (mkK S.made g.1 = true → g.1 ∈ (m.run (keyP S n) st).2.order) := by
  intro m
  induction m with
  | done v => intro st l hi hK hF _; exact ⟨⟨hF, hK, [], by simp [Itr.run]⟩, fun g hg => .inl hg⟩
  | ask k c ihm =>
    intro st l hi hK hF hok
    by_cases h1 : (keyP S n st k).1.2 = true
    · obtain ⟨⟨g1, g2, l1, g3⟩, g4⟩ := ih st k hi hK hF h1
      have hsp := keyP_spec hS n st [] k hi hK
      have hv : (keyP S n st k).1.1 = atK all k := val_same hS hall g2 (hsp.2 h1)
      rw [Itr.run_yes h1] at hok ⊢
      rw [Itr.run_yes (by simp [fetF])]
      have hf : (fetF all l k).1.1 = (keyP S n st k).1.1 := hv.symm
      have hf2 : (fetF all l k).2 = l ++ [(k, atK all k)] := rfl
      rw [hf, hf2]
      obtain ⟨⟨j1, j2, l2, j3⟩, j4⟩ := ihm _ (keyP S n st k).2 (l ++ [(k, atK all k)]) (keyP_inv hS n st k hi).1 g2 g1 hok
      refine ⟨⟨j1, j2, l1 ++ l2, by rw [j3, g3, List.append_assoc]⟩, fun g hg => ?_⟩
      rcases j4 g hg with h | h
      · rcases List.mem_append.1 h with h | h
        · exact .inl h
        · rw [List.mem_singleton.1 h]
          exact .inr fun hm => by rw [j3]; exact List.mem_append_left _ (g4 hm)
      · exact .inr h
    · rw [Itr.run_no h1] at hok; cases hok
theorem susp_key {S : Sh} (hS : S.Ok) {all : List Int} (hall : buildAllP S = (all, true)) : ∀ (n : Nat) (st : MkSt) (k : Int), Inv S n st → KnE S st.known → FI S all st → (keyP S n st k).1.2 = true →
    Grew S all st (keyP S n st k).2 ∧ (mkK S.made k = true → k ∈ (keyP S n st k).2.order) := by
  intro n
  induction n with
  | zero =>
    intro st k hi hK hF hok
    cases hm : mkK S.made k with
    | false => rw [keyP_unmade hm]; exact ⟨⟨hF, hK, [], by simp⟩, fun h => by cases h⟩
    | true =>
      cases hkn : st.known k with
      | some v => rw [keyP_known hm hkn]; exact ⟨⟨hF, hK, [], by simp⟩, fun _ => hF.cov k (by rw [hkn]; simp)⟩
      | none =>
        exfalso
        have e : (keyP S 0 st k).1.2 = false := by
          unfold keyP; rw [if_neg (by simp [hm]), hkn]; simp only
          split <;> rfl
        rw [e] at hok; cases hok
  | succ n ih =>
    intro st k hi hK hF hok
    cases hm : mkK S.made k with
    | false => rw [keyP_unmade hm]; exact ⟨⟨hF, hK, [], by simp⟩, fun h => by cases h⟩
    | true =>
      cases hkn : st.known k with
      | some v => rw [keyP_known hm hkn]; exact ⟨⟨hF, hK, [], by simp⟩, fun _ => hF.cov k (by rw [hkn]; simp)⟩
      | none =>
        by_cases ho : 0 ≤ idx (fun x => k == x) st.open_
        · exfalso; rw [keyP_opened hm hkn ho] at hok; cases hok
        · have hkr := mkK_range (show mkK S.made k ≠ false by rw [hm]; simp)
          have hi1 := inv_push hi hkr hkn (not_open ho)
          have hsp := keyP_spec hS (n + 1) st [] k hi hK
          have hK' := (hsp.1.2.1 hok).2.1
          rw [keyP_new hm hkn ho] at hok hK' ⊢
          have hr2 := keyP_run hS hi1 (tk_ok hS k)
          rw [Tk.run_itr _ (keyP_zero S n)] at hok hK' hr2 ⊢
          have hR := susp_run hS hall ih (S.tk k).itr { st with open_ := st.open_ ++ [k] } [] hi1 hK ⟨hF.fits, hF.cov⟩
          rw [← fetched_itr] at hR
          generalize (S.tk k).itr.run (keyP S n) { st with open_ := st.open_ ++ [k] } = r at *
          dsimp only at hok hK' hr2 ⊢
          by_cases hrk : r.1.2 = true
          · rw [if_pos hrk] at hok hK' ⊢
            obtain ⟨⟨g1, g2, l1, g3⟩, g4⟩ := hR hrk
            have hop := hr2.2.1 hrk
            have hkno : k ∉ r.2.order := fun h => hr2.1.oknown k h (hr2.1.openUnknown k (by rw [hop]; simp))
            refine ⟨⟨⟨fun i h => ?_, fun j hj => ?_⟩, hK', l1 ++ [k], ?_⟩, fun _ => ?_⟩
            · simp only [List.length_append, List.length_singleton] at h
              by_cases hil : i < r.2.order.length
              · simp only [List.getElem_append_left hil]
                rw [fitAt_app (by omega)]
                exact g1.fits i hil
              · have hie : i = r.2.order.length := by omega
                subst hie
                simp only [List.getElem_concat_length]
                rw [fitAt_app (Nat.le_refl _)]
                unfold fitAt
                rw [List.take_length, hm, Bool.true_and, Bool.and_eq_true, List.all_eq_true]
                refine ⟨by simpa using hkno, fun j hj => ?_⟩
                rcases (usesL_mem _ _ _).1 hj with h1 | ⟨f, hf, rfl⟩
                · cases h1
                · rcases g4 f hf with h2 | h2
                  · cases h2
                  · cases hmj : mkK S.made f.1 with
                    | false => rfl
                    | true => simpa using h2 hmj
            · simp only [upd] at hj
              by_cases e : j = k
              · subst e; exact List.mem_append_right _ (List.mem_singleton.2 rfl)
              · rw [if_neg e] at hj; exact List.mem_append_left _ (g1.cov j hj)
            · show r.2.order ++ [k] = _
              rw [g3, List.append_assoc]
            · exact List.mem_append_right _ (List.mem_singleton.2 rfl)
          · rw [if_neg hrk] at hok; cases hok
theorem suspL_fits {S : Sh} (hS : S.Ok) {all : List Int} (hall : buildAllP S = (all, true)) : ∀ (ks : List Int) (st : MkSt), Inv S S.made.length st → KnE S st.known → FI S all st → (suspL S ks st).2 = true → fitsP S all (suspL S ks st).1 = true := by
  intro ks
  induction ks with
  | nil => intro st _ _ hF _; rw [suspL, fitsP_iff]; exact hF.fits
  | cons k ks ih =>
    intro st hi hK hF hok
    rw [suspL] at hok ⊢
    by_cases h : (keyP S S.made.length st k).1.2 = true
    · rw [if_pos h] at hok ⊢
      obtain ⟨⟨g1, g2, -⟩, -⟩ := susp_key hS hall _ st k hi hK hF h
      exact ih _ (keyP_inv hS _ st k hi).1 g2 g1 hok
    · rw [if_neg h] at hok; cases hok
theorem susp_fits {S : Sh} (hS : S.Ok) {all : List Int} (hall : buildAllP S = (all, true)) {keys : List Int} (h : (suspP S keys).2 = true) : fitsP S all (suspP S keys).1 = true :=
  suspL_fits hS hall keys st0 (inv0 S) (knE0 S) ⟨fun i h => by simp [st0] at h, fun k h => by simp [st0] at h⟩ h

/-! what is suspended is reached -/
theorem run_reach {S : Sh} {n : Nat} {R : Int → Prop} (ih : ∀ (st : MkSt) (k : Int), (mkK S.made k = true → R k) → (∀ x ∈ st.order, R x) → ∀ x ∈ (keyP S n st k).2.order, R x) {P : Int → Prop} (hP : ∀ k, P k → mkK S.made k = true → R k) :
    ∀ (m : Itr) (st : MkSt), m.In P → (∀ x ∈ st.order, R x) → ∀ x ∈ (m.run (keyP S n) st).2.order, R x := by
  intro m
  induction m with
  | done v => intro st _ h; exact h
  | ask k c ihm =>
    intro st hIn h
    have h1 := ih st k (hP k hIn.1) h
    by_cases hk : (keyP S n st k).1.2 = true
    · rw [Itr.run_yes hk]; exact ihm _ _ (hIn.2 _) h1
    · rw [Itr.run_no hk]; exact h1
theorem key_reach {S : Sh} (hS : S.Ok) (keys : List Int) : ∀ (n : Nat) (st : MkSt) (k : Int), (mkK S.made k = true → Reach (mkK S.made) (mayS S.made (S.tks.map Tk.enc)) keys k) → (∀ x ∈ st.order, Reach (mkK S.made) (mayS S.made (S.tks.map Tk.enc)) keys x) →
    ∀ x ∈ (keyP S n st k).2.order, Reach (mkK S.made) (mayS S.made (S.tks.map Tk.enc)) keys x := by
  intro n
  induction n with
  | zero =>
    intro st k hk h
    unfold keyP
    split
    · exact h
    · split
      · exact h
      · dsimp only
        split
        · exact h
        · exact h
  | succ n ih =>
    intro st k hk h
    cases hm : mkK S.made k with
    | false => rw [keyP_unmade hm]; exact h
    | true =>
      cases hkn : st.known k with
      | some v => rw [keyP_known hm hkn]; exact h
      | none =>
        by_cases ho : 0 ≤ idx (fun x => k == x) st.open_
        · rw [keyP_opened hm hkn ho]; exact h
        · have hR := hk hm
          have hkr := mkK_range (show mkK S.made k ≠ false by rw [hm]; simp)
          obtain ⟨q, rfl⟩ := Int.eq_ofNat_of_zero_le hkr.1
          have hqt : q < S.tks.length := by have := hS.len; omega
          have hrun := run_reach ih (P := fun j => mayTask (S.tk q).enc j = true) (fun j hj hmj => by
            refine .next q j hR ?_ hmj
            have hrj := mkK_range (show mkK S.made j ≠ false by rw [hmj]; simp)
            unfold mayS mayMade
            rw [List.mem_filter]
            refine ⟨mem_mayList.2 ?_, hmj⟩
            rw [taskAt_get (by simpa using hqt), List.getElem_map]
            rw [tk_at hqt] at hj
            have := hS.ten
            exact ⟨hS.okT hqt, by omega, by omega, hj⟩) (S.tk q).itr { st with open_ := st.open_ ++ [(q : Int)] } (S.tk q).itr_In h
          rw [keyP_new hm hkn ho, Tk.run_itr _ (keyP_zero S n)]
          generalize (S.tk q).itr.run (keyP S n) { st with open_ := st.open_ ++ [(q : Int)] } = r at *
          dsimp only
          split
          · intro x hx
            rcases List.mem_append.1 hx with hx | hx
            · exact hrun x hx
            · rw [List.mem_singleton.1 hx]; exact hR
          · exact hrun
theorem suspL_reach {S : Sh} (hS : S.Ok) (keys : List Int) : ∀ (ks : List Int) (st : MkSt), (∀ k ∈ ks, k ∈ keys) → (∀ x ∈ st.order, Reach (mkK S.made) (mayS S.made (S.tks.map Tk.enc)) keys x) → ∀ x ∈ (suspL S ks st).1, Reach (mkK S.made) (mayS S.made (S.tks.map Tk.enc)) keys x := by
  intro ks
  induction ks with
  | nil => intro st _ h; exact h
  | cons k ks ih =>
    intro st hks h
    rw [suspL]
    split
    · exact ih _ (fun j hj => hks j (List.mem_cons_of_mem _ hj)) (key_reach hS keys _ st k (fun hm => .here k (hks k (List.mem_cons_self ..)) hm) h)
    · intro x hx; cases hx
theorem susp_reach {S : Sh} (hS : S.Ok) (keys : List Int) : ∀ x ∈ (suspP S keys).1, Reach (mkK S.made) (mayS S.made (S.tks.map Tk.enc)) keys x :=
  suspL_reach hS keys keys st0 (fun _ h => h) (fun x h => by simp [st0] at h)
end Go.Proofs.Ytpccgdkidnkppaa

set_option linter.unusedVariables false
set_option linter.unusedSimpArgs false
namespace Go.Proofs.Ytpccgdkidnkppaa
open Go Go.RowKit

theorem once0 (E : MkEnv) (S : Sh) (v : Value) (w : World) (ho : w.ownsRow E.B 3 1 v S.inputs.length (ints S.inputs)) (hb : Below E.B E.w0 w) (hB : E.B ≤ w.heap.size) :
    OnAt E S w.heap.size v (.slice none 0 0) (.slice none 0 0) (ost0 S) (w.alloc (.cells (onCs E S v (.slice none 0 0) (.slice none 0 0)) 104 (0, 0))) := by
  have hnil : ∀ i, (rowP E.B 3 1 (.slice none 0 0) 0 (ints [])).F i → False := fun i hi => by cases hi
  have hv : ∀ i, v.ownBlock = some i → i < w.heap.size := fun i hi => (ho.lt i hi).2
  refine ⟨heap_new rfl, fun p hp => ?_, fun i j hi hj hij b h1 h2 => ?_, fun p hp hf => ?_, hB, below_al' hb _ hB, by simp; omega⟩
  · simp only [onPs, ost0, List.mem_cons, List.not_mem_nil, or_false] at hp
    rcases hp with rfl | rfl | rfl
    · exact rowP_ok (ho.alloc _)
    · exact rowP_ok (World.ownsRow_nil _ _ _ _)
    · exact rowP_ok (World.ownsRow_nil _ _ _ _)
  · match i, j, hi, hj with
    | 0, 0, _, _ => exact hij rfl
    | 0, 1, _, _ => exact hnil b h2
    | 0, 2, _, _ => exact hnil b h2
    | 1, _, _, _ => exact hnil b h1
    | 2, _, _, _ => exact hnil b h1
  · simp only [onPs, ost0, List.mem_cons, List.not_mem_nil, or_false] at hp
    rcases hp with rfl | rfl | rfl
    · exact Nat.lt_irrefl _ (hv _ hf)
    · exact hnil _ hf
    · exact hnil _ hf

theorem onceL_nil (S : Sh) (st : OSt) : onceL S [] st = (st.done, true) := rfl
theorem onceL_cons (S : Sh) (k : Int) (ks : List Int) (st : OSt) : onceL S (k :: ks) st = if (onceP S S.made.length st k).1.2 = true then onceL S ks (onceP S S.made.length st k).2 else ([], false) := rfl

set_option maxHeartbeats 4000000 in
theorem specOrderSuspend_good (E : MkEnv) (S : Sh) (hE : E.Good S) (hnod : ∀ T ∈ S.tks.map Tk.enc, nodes T ≤ 1000000000) (Ak : Option Addr) (ck : Nat) (keys : List Int) (w : World) (hb : Below E.B E.w0 w) (hB : E.B ≤ w.heap.size) (hk : keysOk S.made.length keys = true) (hx : IntsAt E.B E.w0 Ak keys) (hm : keys.length ≤ maxLen) :
    Calls Try.prog 26 #[.agg #[.slice E.Am S.made.length E.cm, .slice E.At S.tks.length E.ct], .slice E.Ai S.inputs.length E.ci, .slice Ak keys.length ck] w fun e w' =>
      GivesOwn w.heap.size (suspP S keys) e w w' := by
  have hok2 : takesOk S.made.length S.inputs = true := by simp [takesOk, hE.ok.ins, vals_iff.2 hE.ok.vals]
  have hin : inputsOk S.made (S.tks.map Tk.enc) S.inputs = true := by rw [inputsOk, hE.ok.sheet, hok2]; rfl
  have hten := hE.ok.ten
  have hil : S.inputs.length ≤ 10 := by rw [hE.ok.ins]; exact hten
  have hc1 := fun w1 (hw : Below w.heap.size w w1) => l3Inputs_calls E.Am E.At E.Ai E.cm E.ct E.ci S.made (S.tks.map Tk.enc) S.inputs E.B E.w0 w1 (below_up' hb hB hw) (Nat.le_trans hB hw.size) hE.sheet hnod (Nat.le_trans hE.li hE.mi) hE.ins
  rw [hin] at hc1
  simp only [List.length_map] at hc1
  have hc2 := fun w1 (hw : Below w.heap.size w w1) => l4Keys_calls E.Am E.At Ak E.cm E.ct ck S.made (S.tks.map Tk.enc) keys E.B E.w0 w1 (below_up' hb hB hw) (Nat.le_trans hB hw.size) hE.sheet hnod (by omega) hm hx
  rw [hk, hE.ok.sheet] at hc2
  simp only [List.length_map] at hc2
  have hc3 := okey_calls E S hE
  have hrg := keysOk_iff.1 hk
  have hin2 := hE.ins
  rw [susp_same hE.ok]
  obtain ⟨P, hP⟩ : ∃ P, onceL S keys (ost0 S) = P := ⟨_, rfl⟩
  have hi0 := oinv0 hE.ok
  have hinv := fun st k hi => (onceP_inv hE.ok S.made.length st k hi).1
  rw [hP]
  unfold maxLen at hm
  replace hc1 := Lib.hid hc1
  replace hc2 := Lib.hid hc2
  replace hc3 := Lib.hid hc3
  replace hP := Lib.hid hP
  replace hb := Lib.hid hb
  replace hE := Lib.hid hE
  replace hx := Lib.hid hx
  replace hrg := Lib.hid hrg
  replace hin2 := Lib.hid hin2
  replace hi0 := Lib.hid hi0
  replace hinv := Lib.hid hinv
  clear hin hok2 hk hnod
  go_enter Try.func26, Try.ntmps26
  go_wp2_with fail
  refine (hc1.out _ (below_al (Below.refl _ _) _)).mono ?_
  rintro e w1 ⟨rfl, h1⟩
  have x0 : w1.cell? ⟨w.heap.size, 0, none⟩ = some (.slice E.Am S.made.length E.cm) := (h1.cell (p := ⟨w.heap.size, 0, none⟩) (by simp)).trans (by simp)
  have x1 : w1.cell? ⟨w.heap.size, 1, none⟩ = some (.slice E.At S.tks.length E.ct) := (h1.cell (p := ⟨w.heap.size, 1, none⟩) (by simp)).trans (by simp)
  have b1 := below_from h1
  have s1 : w.heap.size < w1.heap.size := by have := h1.size; simp at this; omega
  replace b1 := Lib.hid b1
  clear h1
  go_wp2_with fail
  refine (hc2.out _ b1.out).mono ?_
  rintro e w2 ⟨rfl, h2⟩
  have y0 : w2.cell? ⟨w.heap.size, 0, none⟩ = some (.slice E.Am S.made.length E.cm) := kept_cell h2 s1 x0
  have y1 : w2.cell? ⟨w.heap.size, 1, none⟩ = some (.slice E.At S.tks.length E.ct) := kept_cell h2 s1 x1
  have b2 := below_up b1.out h2
  have s2 : w.heap.size < w2.heap.size := by have := h2.size; omega
  have hB2 : E.B ≤ w2.heap.size := by omega
  have hb2 : Hid (Below E.B E.w0 w2) := Lib.hid (below_up' hb.out hB b2)
  replace b2 := Lib.hid b2
  clear h2 x0 x1 s1 b1
  go_wp2_with fail
  go_region_law ((with_reducible refine step_appI (base := E.B) (v := .slice (some ⟨w2.heap.size, 0, none⟩) 0 0) (n := 0) (xs := []) (B := E.B) (w0 := E.w0) (by rfl) (.tmp 24) (.tmp 25) (by rfl) intTy (by with_unfolding_all rfl) ?_ (by with_unfolding_all rfl) hin2.out ?_ ?_ ?_ ?_ ?_ ?_); (exact (World.ownsRow_made (base := E.B) w2 #[] 0 hB2 (by simp [maxLen]) rfl).drew); (exact (below_al' hb2.out _ hB2).drew); (simp; omega); (simp [maxLen]; omega); (omega); (simp; omega); intro v3 w3 hown hgrow hat; have hlt3 := hgrow.size; simp at hlt3; have hown' : w3.ownsRow E.B 3 1 v3 S.inputs.length (ints S.inputs) := (by { have := hown; simpa using this }); have b3 : Below w.heap.size w w3 := (by exact ((below_al' b2.out _ (by omega)).drew.grown hgrow (by simp; omega) (fun k hk => by cases hk; exact Nat.le_of_lt s2))); have hne3 : some w.heap.size ≠ (Value.slice (some ⟨w2.heap.size, 0, none⟩) 0 0).ownBlock := (by { intro e; have := Option.some.inj (show some w.heap.size = some w2.heap.size from e); omega }); have z0 : w3.cell? ⟨w.heap.size, 0, none⟩ = some (.slice E.Am S.made.length E.cm) := (hgrow.cell_far ⟨w.heap.size, 0, none⟩ (by simp; omega) hne3).trans ((cell_al s2).trans y0); have z1 : w3.cell? ⟨w.heap.size, 1, none⟩ = some (.slice E.At S.tks.length E.ct) := (hgrow.cell_far ⟨w.heap.size, 1, none⟩ (by simp; omega) hne3).trans ((cell_al s2).trans y1); obtain ⟨A3, c3, rfl, -, -, -⟩ := ownsRow_ints hown'; have hO3 := once0 E S _ w3 hown' (below_up' hb.out hB b3) (Nat.le_trans hB b3.size); have hv3 : ∀ i, (Value.slice A3 S.inputs.length c3).ownBlock = some i → w.heap.size ≤ i := (by { intro i hi; rcases hat with h | h <;> rw [h] at hi <;> cases hi <;> (simp; omega) }); replace b3 := Lib.hid b3; replace hO3 := Lib.hid hO3; replace hv3 := Lib.hid hv3; clear hown hgrow hat hown' hne3)
  all_goals
    have hF3 : ∀ i, Foot w3.heap.size (onPs E (.slice A3 S.inputs.length c3) (.slice none 0 0) (.slice none 0 0) (ost0 S)) i → w.heap.size ≤ i := fun i hi => by
      rcases hi with rfl | ⟨p, hp, hf⟩
      · exact b3.out.size
      · simp only [onPs, List.mem_cons, List.not_mem_nil, or_false] at hp
        rcases hp with rfl | rfl | rfl
        · exact hv3.out i hf
        · cases hf
        · cases hf
    replace hF3 := Lib.hid hF3
    clear y0 y1 z0 z1 hv3
    generalize hm0 : w3.heap.size = m at *
    replace hm0 := Lib.hid hm0
    go_wp2_with fail
    go_loopw [9, 10, 11] (fun i _ _ wr => ∃ (j : Nat) (st : OSt) (F : Nat → Prop), j ≤ keys.length ∧ i = .int .i64 j ∧ Hid (OnI E S m st wr F) ∧ Hid (OInv S S.made.length st) ∧
      Hid (∀ i, F i → w.heap.size ≤ i) ∧ Hid (Below w.heap.size w wr) ∧ Hid (onceL S keys (ost0 S) = onceL S (keys.drop j) st)) (fun i _ _ _ => keys.length - (intOf i).toNat)
    case atStart => exact ⟨0, ost0 S, _, Nat.zero_le _, rfl, Lib.hid ⟨_, _, _, hO3.out, rfl⟩, hi0, hF3, Lib.hid (below_al' b3.out _ b3.out.size), Lib.hid rfl⟩
    case round =>
      obtain ⟨j, st, F, hj, rfl, hM, hIv, hF, hw, he⟩ := hrel
      by_cases hlt : j < keys.length
      · have he2 := he.out
        rw [List.drop_eq_getElem_cons hlt, onceL_cons] at he2
        have hkr := hrg.out _ (List.getElem_mem hlt)
        have hkey := hc3.out m S.made.length st keys[j] wr F hkr.1 (by omega) hIv.out hM.out
        have hIv2 := hinv.out st keys[j] hIv.out
        obtain ⟨b, o, rfl, hbb, y⟩ := hx.out.at (below_up' hb.out hB hw.out) (Nat.le_trans hB hw.out.size) j hlt
        generalize keys[j] = k at *
        obtain ⟨r, hr⟩ : ∃ r, onceP S S.made.length st k = r := ⟨_, rfl⟩
        rw [hr] at he2 hkey hIv2
        replace hkey := Lib.hid hkey
        replace hr := Lib.hid hr
        replace he2 := Lib.hid he2
        replace hkr := Lib.hid hkr
        replace hIv2 := Lib.hid hIv2
        clear he
        go_wp2_with fail
        refine hkey.out.mono ?_
        rintro e w5 ⟨rfl, v1, v2, F5, hM5, t5⟩
        have hF5 : ∀ i, F5 i → w.heap.size ≤ i := fun i hi => (t5.fresh i hi).elim (hF.out i) (fun hge => Nat.le_trans hw.out.size hge)
        have hw5 := hw.out.trans (t5.below (B := w.heap.size) hw.out.size (fun i hi => hF.out i hi))
        replace hM5 := Lib.hid hM5
        replace hF5 := Lib.hid hF5
        replace hw5 := Lib.hid hw5
        clear t5 y
        cases hok : r.1.2 with
        | false =>
          rw [hok] at he2
          go_wp2_with fail
          go_ret2
          have := he2.out
          simp at this
          rw [← hP.out, this]
          exact ⟨_, rfl, by simpa [ints] using World.ownsRow_made (base := w.heap.size) w5 #[] 0 hw5.out.size (by simp [maxLen]) rfl, below_al' hw5.out _ hw5.out.size⟩
        | true =>
          rw [hok] at he2
          simp only [if_true] at he2
          go_wp2_with fail
          go_roundw
          case rel => exact ⟨j + 1, r.2, F5, by omega, by go_num, hM5, hIv2, hF5, hw5, he2⟩
          case measure => simp [intOf]; omega
      · have hd : keys.drop j = [] := List.drop_eq_nil_of_le (by omega)
        have he2 := he.out
        rw [hd, onceL_nil] at he2
        obtain ⟨vv, vd, vu, hA, -⟩ := hM.out
        have hod := hA.done
        obtain ⟨z0, z1, z2, z3, -⟩ := hA.cells
        obtain ⟨Ad, cd, rfl, hd1, hd2, hd3⟩ := ownsRow_ints hod
        have hdl : st.done.length ≤ 10 := Nat.le_trans hIv.out.done hten
        have hwz : w.heap.size ≤ wr.heap.size := hw.out.size
        have hzm : m < wr.heap.size := hA.lt
        replace he2 := Lib.hid he2
        replace hod := Lib.hid hod
        replace hd := Lib.hid hd
        replace hd3 := Lib.hid hd3
        clear he hA z0 z1 z2 hd1 hd2
        go_wp2_with (at_builtin; go_loud (with_reducible refine wpList_appI (base := w.heap.size) (v := .slice (some ⟨wr.heap.size, 0, none⟩) 0 0) (n := 0) (xs := []) (B := wr.heap.size) (w0 := wr) (by rfl) (.tmp 47) (.tmp 51) (by rfl) intTy (by with_unfolding_all rfl) ?_ (by with_unfolding_all rfl) hd3.out ?_ ?_ ?_ ?_ ?_ ?_))
        · exact World.ownsRow_made (base := w.heap.size) wr #[] 0 hwz (by simp [maxLen]) rfl
        · exact below_al (Below.refl _ _) _
        · simp
        · simp [maxLen]; omega
        · omega
        · simp; omega
        intro v9 w9 hown9 hgrow9 hat9
        have hw9 : Below w.heap.size w w9 := (below_al' hw.out _ hwz).grown hgrow9 (by simp; omega) (fun k hk => by cases hk; exact hwz)
        have hown9' : w9.ownsRow w.heap.size 3 1 v9 st.done.length (ints st.done) := by simpa using hown9
        replace hw9 := Lib.hid hw9
        replace hown9' := Lib.hid hown9'
        clear hown9 hgrow9 hat9
        go_wp2_with fail
        go_ret2
        rw [← hP.out, he2.out]
        exact ⟨_, rfl, hown9'.out, hw9.out⟩

set_option maxHeartbeats 1000000 in
theorem specOrderSuspend_bad (Am At Ai Ak : Option Addr) (cm ct ci ck : Nat) (made : List Bool) (tasks : List Task) (inputs keys : List Int) (B : Nat) (w0 : World) (w : World) (hs : SheetAt B w0 Am cm At ct made tasks) (hnod : ∀ T ∈ tasks, nodes T ≤ 1000000000) (hml : (made.length : Int) ≤ 9223372036854775807) (hi : IntsAt B w0 Ai inputs) (hli : inputs.length ≤ maxLen) (hx : IntsAt B w0 Ak keys) (hm : keys.length ≤ maxLen)
    (hb : Below B w0 w) (hB : B ≤ w.heap.size) (hbad : inputsOk made tasks inputs = true → keysOk made.length keys = false) :
    Calls Try.prog 26 #[.agg #[.slice Am made.length cm, .slice At tasks.length ct], .slice Ai inputs.length ci, .slice Ak keys.length ck] w fun e w' =>
      GivesOwn w.heap.size ([], false) e w w' := by
  have hc1 := fun w1 (hw : Below w.heap.size w w1) => l3Inputs_calls Am At Ai cm ct ci made tasks inputs B w0 w1 (below_up' hb hB hw) (Nat.le_trans hB hw.size) hs hnod hli hi
  have hc2 := fun w1 (hw : Below w.heap.size w w1) => l4Keys_calls Am At Ak cm ct ck made tasks keys B w0 w1 (below_up' hb hB hw) (Nat.le_trans hB hw.size) hs hnod hml hm hx
  generalize inputsOk made tasks inputs = d1 at *
  generalize sheetOk made tasks = d2 at *
  generalize keysOk made.length keys = d3 at *
  replace hb := Lib.hid hb
  replace hs := Lib.hid hs
  replace hi := Lib.hid hi
  replace hx := Lib.hid hx
  cases d1 with
  | false =>
    replace hc1 := Lib.hid hc1
    clear hc2 hbad
    go_enter Try.func26, Try.ntmps26
    go_wp2_with fail
    refine (hc1.out _ (below_al (Below.refl _ _) _)).mono ?_
    rintro e w1 ⟨rfl, h1⟩
    have b1 := below_from h1
    replace b1 := Lib.hid b1
    clear h1
    go_wp2_with fail
    go_ret2
    exact ⟨_, rfl, by simpa [ints] using World.ownsRow_made (base := w.heap.size) w1 #[] 0 b1.out.size (by simp [maxLen]) rfl, below_al' b1.out _ b1.out.size⟩
  | true =>
    have h3 := hbad rfl
    subst h3
    simp only [Bool.false_and] at hc2
    replace hc1 := Lib.hid hc1
    replace hc2 := Lib.hid hc2
    clear hbad
    go_enter Try.func26, Try.ntmps26
    go_wp2_with fail
    refine (hc1.out _ (below_al (Below.refl _ _) _)).mono ?_
    rintro e w1 ⟨rfl, h1⟩
    have x0 : w1.cell? ⟨w.heap.size, 0, none⟩ = some (.slice Am made.length cm) := (h1.cell (p := ⟨w.heap.size, 0, none⟩) (by simp)).trans (by simp)
    have x1 : w1.cell? ⟨w.heap.size, 1, none⟩ = some (.slice At tasks.length ct) := (h1.cell (p := ⟨w.heap.size, 1, none⟩) (by simp)).trans (by simp)
    have b1 := below_from h1
    replace b1 := Lib.hid b1
    clear h1
    go_wp2_with fail
    refine (hc2.out _ b1.out).mono ?_
    rintro e w2 ⟨rfl, h2⟩
    have b2 := below_up b1.out h2
    replace b2 := Lib.hid b2
    clear h2 x0 x1
    go_wp2_with fail
    go_ret2
    exact ⟨_, rfl, by simpa [ints] using World.ownsRow_made (base := w.heap.size) w2 #[] 0 b2.out.size (by simp [maxLen]) rfl, below_al' b2.out _ b2.out.size⟩
end Go.Proofs.Ytpccgdkidnkppaa
