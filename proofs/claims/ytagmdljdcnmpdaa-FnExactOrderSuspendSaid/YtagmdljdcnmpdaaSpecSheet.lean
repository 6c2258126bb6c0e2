import Derived.Test.YtagmdljdcnmpdaaSheet
import Derived.Test.YtagmdljdcnmpdaaSpecTask
set_option linter.unusedVariables false
set_option linter.unusedSimpArgs false
namespace Go.Proofs.Ytagmdljdcnmpdaa
open Go Go.RowKit

theorem vals_cons (x : Int) (xs : List Int) : vals (x :: xs) = (decide (0 ≤ x ∧ x ≤ 96) && vals xs) := by simp [vals]

set_option maxHeartbeats 1000000 in
theorem l2Values_calls (A : Option Addr) (c : Nat) (xs : List Int) (B : Nat) (w0 w : World) (hb : Below B w0 w) (hB : B ≤ w.heap.size) (hm : xs.length ≤ maxLen) (hx : IntsAt B w0 A xs) :
    Calls Try.prog 78 #[.slice A xs.length c] w fun e w' => e = .returned (.bool (valsOk xs)) ∧ Below w.heap.size w w' := by
  unfold maxLen at hm
  by_cases hl : xs.length ≤ 10
  case neg =>
    have hr : valsOk xs = false := by simp [valsOk, hl]
    replace hr := Lib.hid hr
    clear hb hx
    go_enter Try.func78, Try.ntmps78
    go_wp2_with fail
    go_ret
    exact ⟨by rw [hr.out]; rfl, Below.refl _ _⟩
  have hr : valsOk xs = vals xs := by simp [valsOk, hl]
  have hx' := fun j (hj : j < xs.length) => hx.at hb hB j hj
  have hin := fun n => l6In_calls n 0 96
  replace hx' := Lib.hid hx'
  replace hin := Lib.hid hin
  replace hr := Lib.hid hr
  clear hb hx
  go_enter Try.func78, Try.ntmps78
  go_wp2_with fail
  go_loopw [3] (fun i wr => ∃ (j : Nat), j ≤ xs.length ∧ i = .int .i64 j ∧ wr = w ∧ Hid (vals xs = vals (xs.drop j))) (fun i _ => xs.length - (intOf i).toNat)
  case atStart => exact ⟨0, Nat.zero_le _, rfl, rfl, Lib.hid rfl⟩
  case round =>
    obtain ⟨j, hj, rfl, rfl, he⟩ := hrel
    by_cases hlt : j < xs.length
    · obtain ⟨b, o, rfl, hbl, hc⟩ := hx'.out j hlt
      have he2 := he.out
      rw [List.drop_eq_getElem_cons hlt, vals_cons] at he2
      have hcall := hin.out xs[j] wr
      cases hd : decide (0 ≤ xs[j] ∧ xs[j] ≤ 96) with
      | false =>
        rw [hd] at he2 hcall
        replace he2 := Lib.hid he2
        replace hcall := Lib.hid hcall
        clear hd he
        go_wp2_with fail
        refine hcall.out.mono ?_
        rintro e w1 ⟨rfl, rfl⟩
        go_wp2_with fail
        go_ret
        exact ⟨by rw [hr.out, he2.out]; rfl, Below.refl _ _⟩
      | true =>
        rw [hd, Bool.true_and] at he2
        rw [hd] at hcall
        replace he2 := Lib.hid he2
        replace hcall := Lib.hid hcall
        clear hd he
        go_wp2_with fail
        refine hcall.out.mono ?_
        rintro e w1 ⟨rfl, rfl⟩
        go_wp2_with fail
        go_roundw
        case rel => exact ⟨j + 1, by omega, by go_num, by first | rfl | trivial, he2⟩
        case measure => simp [intOf]; omega
    · have he2 := he.out
      rw [List.drop_eq_nil_of_le (by omega)] at he2
      replace he2 := Lib.hid he2
      clear he
      go_wp2_with fail
      go_ret
      exact ⟨by rw [hr.out, he2.out]; rfl, Below.refl _ _⟩

set_option maxHeartbeats 2000000 in
theorem specSheetOk_calls (Am At : Option Addr) (cm ct : Nat) (made : List Bool) (tasks : List Task) (B : Nat) (w0 w : World) (hb : Below B w0 w) (hB : B ≤ w.heap.size) (hs : SheetAt B w0 Am cm At ct made tasks) (hnod : ∀ T ∈ tasks, nodes T ≤ 1000000000) :
    Calls Try.prog 55 #[.agg #[.slice Am made.length cm, .slice At tasks.length ct]] w fun e w' => e = .returned (.bool (sheetOk made tasks)) ∧ Below w.heap.size w w' := by
  obtain ⟨lm, mm, lt, mt, hm, ht⟩ := hs
  unfold maxLen at mm mt
  replace hb := Lib.hid hb
  replace hm := Lib.hid hm
  replace ht := Lib.hid ht
  replace hnod := Lib.hid hnod
  by_cases h1 : made.length = tasks.length
  case neg =>
    have hr : sheetOk made tasks = false := by simp [sheetOk, h1]
    replace hr := Lib.hid hr
    have h1' : ((made.length : Int) != (tasks.length : Int)) = true := by simp; omega
    replace h1 := Lib.hid h1
    go_enter Try.func55, Try.ntmps55
    go_wp2_with fail
    go_ret
    exact ⟨by rw [hr.out]; rfl, below_al (Below.refl _ _) _⟩
  have h1' : ((made.length : Int) != (tasks.length : Int)) = false := by simp; omega
  replace h1 := Lib.hid h1
  by_cases h2 : made.length ≤ 10
  case neg =>
    have hr : sheetOk made tasks = false := by simp [sheetOk, h2]
    replace hr := Lib.hid hr
    go_enter Try.func55, Try.ntmps55
    go_wp2_with fail
    go_ret
    exact ⟨by rw [hr.out]; rfl, below_al (Below.refl _ _) _⟩
  have hr : sheetOk made tasks = sheetOkL made tasks := by simp [sheetOk, h1.out, h1.out ▸ h2]
  replace hr := Lib.hid hr
  go_enter Try.func55, Try.ntmps55
  go_wp2_with fail
  go_loopw [3] (fun i wr => ∃ (j : Nat), j ≤ made.length ∧ i = .int .i64 j ∧ w.heap.size < wr.heap.size ∧ wr.cell? ⟨w.heap.size, 0, none⟩ = some (.slice Am made.length cm) ∧ wr.cell? ⟨w.heap.size, 1, none⟩ = some (.slice At tasks.length ct) ∧ Hid (Below w.heap.size w wr) ∧ Hid (sheetOkL made tasks = sheetOkL (made.drop j) (tasks.drop j))) (fun i _ => made.length - (intOf i).toNat)
  case atStart => exact ⟨0, Nat.zero_le _, rfl, by simp, by simp, by simp, Lib.hid (below_al (Below.refl _ _) _), Lib.hid rfl⟩
  case round =>
    obtain ⟨j, hj, rfl, hz, hbox, hbox1, hw, he⟩ := hrel
    by_cases hltm : j < made.length
    · have hlt : j < tasks.length := by have := h1.out; omega
      obtain ⟨b, o, A', c', rfl, hbl, y0, y1, y2, hc', hm', hp'⟩ := ht.out.at (below_up' hb.out hB hw.out) j hlt
      have hbl' : b < wr.heap.size := by have := hw.out.size; omega
      have hd : tasks.drop j = tasks[j] :: tasks.drop (j + 1) := List.drop_eq_getElem_cons hlt
      have hdm : made.drop j = made[j] :: made.drop (j + 1) := List.drop_eq_getElem_cons hltm
      rw [hd, hdm] at he
      have he2 := he.out
      rw [sheetOkL_cons] at he2
      replace hd := Lib.hid hd
      replace hdm := Lib.hid hdm
      clear he
      have hcall := specTaskOk_calls tasks[j] A' c' B w0 wr (hnod.out _ (List.getElem_mem _)) (below_up' hb.out hB hw.out) (by have := hw.out.size; omega) hc' hm' hp'
      replace hcall := Lib.hid hcall
      cases hok : okT tasks[j] with
      | false =>
        rw [hok] at he2 hcall
        replace he2 := Lib.hid he2
        replace hok := Lib.hid hok
        go_wp2_with fail
        refine hcall.out.mono ?_
        rintro e w2 ⟨rfl, h5⟩
        replace h5 := Lib.hid h5
        go_wp2_with fail
        go_ret
        exact ⟨by rw [hr.out, he2.out]; rfl, below_up hw.out h5.out⟩
      | true =>
        rw [hok, Bool.true_and] at he2
        rw [hok] at hcall
        obtain ⟨bm, om, eqm, hbm, cmj⟩ := hm.out.at (below_up' hb.out hB hw.out) (by have := hw.out.size; omega) j hltm
        replace hok := Lib.hid hok
        subst eqm
        cases hmj : made[j] with
        | true =>
          rw [hmj, Bool.true_or, Bool.true_and] at he2
          rw [hmj] at cmj
          replace he2 := Lib.hid he2
          replace hmj := Lib.hid hmj
          go_wp2_with fail
          refine hcall.out.mono ?_
          rintro e w2 ⟨rfl, h5⟩
          have z0 := kept_cell h5 hz hbox
          have z1 := kept_cell h5 hz hbox1
          have z2 := kept_cell h5 hbm cmj
          have z3 := kept_cell h5 hbl' y0
          have z4 := kept_cell h5 hbl' y1
          have hz2 : w.heap.size < w2.heap.size := by have := h5.size; omega
          replace h5 := Lib.hid h5
          clear y0 y1 y2 hbox hbox1 cmj
          go_wp2_with fail
          go_roundw
          case rel => exact ⟨j + 1, by omega, by go_num, hz2, z0, z1, Lib.hid (below_up hw.out h5.out), he2⟩
          case measure => simp [intOf]; omega
        | false =>
          rw [hmj, Bool.false_or] at he2
          rw [hmj] at cmj
          replace hmj := Lib.hid hmj
          by_cases hk : tasks[j].kind = 0
          · have hk' : (tasks[j].kind != 0) = false := by simp [hk]
            have hk2 : (tasks[j].kind == 0) = true := by simp [hk]
            rw [hk2, Bool.true_and] at he2
            replace hk := Lib.hid hk
            replace hk2 := Lib.hid hk2
            by_cases hn : tasks[j].n = 0
            · have hn' : (tasks[j].n != 0) = false := by simp [hn]
              have hn2 : (tasks[j].n == 0) = true := by simp [hn]
              rw [hn2, Bool.true_and] at he2
              replace he2 := Lib.hid he2
              replace hn := Lib.hid hn
              replace hn2 := Lib.hid hn2
              go_wp2_with fail
              refine hcall.out.mono ?_
              rintro e w2 ⟨rfl, h5⟩
              have z0 := kept_cell h5 hz hbox
              have z1 := kept_cell h5 hz hbox1
              have z2 := kept_cell h5 hbm cmj
              have z3 := kept_cell h5 hbl' y0
              have z4 := kept_cell h5 hbl' y1
              have hz2 : w.heap.size < w2.heap.size := by have := h5.size; omega
              replace h5 := Lib.hid h5
              clear y0 y1 y2 hbox hbox1 cmj
              go_wp2_with fail
              go_roundw
              case rel => exact ⟨j + 1, by omega, by go_num, hz2, z0, z1, Lib.hid (below_up hw.out h5.out), he2⟩
              case measure => simp [intOf]; omega
            · have hn' : (tasks[j].n != 0) = true := by simp [hn]
              have hn2 : (tasks[j].n == 0) = false := by simp [hn]
              rw [hn2, Bool.false_and] at he2
              replace he2 := Lib.hid he2
              replace hn := Lib.hid hn
              replace hn2 := Lib.hid hn2
              go_wp2_with fail
              refine hcall.out.mono ?_
              rintro e w2 ⟨rfl, h5⟩
              have z0 := kept_cell h5 hz hbox
              have z1 := kept_cell h5 hz hbox1
              have z2 := kept_cell h5 hbm cmj
              have z3 := kept_cell h5 hbl' y0
              have z4 := kept_cell h5 hbl' y1
              have hz2 : w.heap.size < w2.heap.size := by have := h5.size; omega
              replace h5 := Lib.hid h5
              clear y0 y1 y2 hbox hbox1 cmj
              go_wp2_with fail
              go_ret
              exact ⟨by rw [hr.out, he2.out]; rfl, below_up hw.out h5.out⟩
          · have hk' : (tasks[j].kind != 0) = true := by simp [hk]
            have hk2 : (tasks[j].kind == 0) = false := by simp [hk]
            rw [hk2, Bool.false_and, Bool.false_and] at he2
            replace he2 := Lib.hid he2
            replace hk := Lib.hid hk
            replace hk2 := Lib.hid hk2
            go_wp2_with fail
            refine hcall.out.mono ?_
            rintro e w2 ⟨rfl, h5⟩
            have z0 := kept_cell h5 hz hbox
            have z1 := kept_cell h5 hz hbox1
            have z2 := kept_cell h5 hbm cmj
            have z3 := kept_cell h5 hbl' y0
            have z4 := kept_cell h5 hbl' y1
            have hz2 : w.heap.size < w2.heap.size := by have := h5.size; omega
            replace h5 := Lib.hid h5
            clear y0 y1 y2 hbox hbox1 cmj
            go_wp2_with fail
            go_ret
            exact ⟨by rw [hr.out, he2.out]; rfl, below_up hw.out h5.out⟩
    · have hd : tasks.drop j = [] := List.drop_eq_nil_of_le (by have := h1.out; omega)
      have hdm : made.drop j = [] := List.drop_eq_nil_of_le (by omega)
      rw [hd, hdm, sheetOkL_nil] at he
      replace hd := Lib.hid hd
      replace hdm := Lib.hid hdm
      go_wp2_with fail
      go_ret
      exact ⟨by rw [hr.out, he.out]; rfl, hw.out⟩

def inputsOk (made : List Bool) (tasks : List Task) (xs : List Int) : Bool := sheetOk made tasks && takesOk made.length xs
set_option maxHeartbeats 1000000 in
theorem l3Inputs_calls (Am At Ai : Option Addr) (cm ct ci : Nat) (made : List Bool) (tasks : List Task) (xs : List Int) (B : Nat) (w0 w : World) (hb : Below B w0 w) (hB : B ≤ w.heap.size) (hs : SheetAt B w0 Am cm At ct made tasks) (hnod : ∀ T ∈ tasks, nodes T ≤ 1000000000) (hm : xs.length ≤ maxLen) (hx : IntsAt B w0 Ai xs) :
    Calls Try.prog 45 #[.agg #[.slice Am made.length cm, .slice At tasks.length ct], .slice Ai xs.length ci] w fun e w' => e = .returned (.bool (inputsOk made tasks xs)) ∧ Below w.heap.size w w' := by
  have hc1 := fun w1 (hw : Below w.heap.size w w1) => specSheetOk_calls Am At cm ct made tasks B w0 w1 (below_up' hb hB hw) (Nat.le_trans hB hw.size) hs hnod
  have hc2 := fun w1 (hw : Below w.heap.size w w1) => l2Values_calls Ai ci xs B w0 w1 (below_up' hb hB hw) (Nat.le_trans hB hw.size) hm hx
  have hr : inputsOk made tasks xs = (sheetOk made tasks && takesOk made.length xs) := rfl
  have hten : sheetOk made tasks = true → made.length ≤ 10 := fun h => by simp [sheetOk] at h; exact h.1.2
  have hv : xs.length ≤ 10 → valsOk xs = vals xs := fun h => by simp [valsOk, h]
  replace hc2 := Lib.hid hc2
  replace hv := Lib.hid hv
  clear hb hs hnod hx
  cases h1 : sheetOk made tasks with
  | false =>
    rw [h1] at hc1 hr
    replace hc1 := Lib.hid hc1
    replace hr := Lib.hid hr
    clear h1 hten
    go_enter Try.func45, Try.ntmps45
    go_wp2_with fail
    refine (hc1.out _ (below_al (Below.refl _ _) _)).mono ?_
    rintro e w1 ⟨rfl, h3⟩
    go_wp2_with fail
    go_ret
    exact ⟨by rw [hr.out]; rfl, below_from h3⟩
  | true =>
    have hten := hten h1
    rw [h1] at hc1 hr
    replace hc1 := Lib.hid hc1
    clear h1
    by_cases hl : xs.length = made.length
    · have hr2 : inputsOk made tasks xs = valsOk xs := by rw [hr, hv.out (by omega)]; simp [takesOk, hl]
      have hl' : ((xs.length : Int) == (made.length : Int)) = true := by simp; omega
      replace hl := Lib.hid hl
      generalize valsOk xs = b at *
      replace hr2 := Lib.hid hr2
      clear hr
      go_enter Try.func45, Try.ntmps45
      go_wp2_with fail
      refine (hc1.out _ (below_al (Below.refl _ _) _)).mono ?_
      rintro e w1 ⟨rfl, h3⟩
      have x0 : w1.cell? ⟨w.heap.size, 0, none⟩ = some (.slice Am made.length cm) := (h3.cell (p := ⟨w.heap.size, 0, none⟩) (by simp)).trans (by simp)
      have b1 := below_from h3
      replace b1 := Lib.hid b1
      clear h3
      go_wp2_with fail
      refine (hc2.out _ b1.out).mono ?_
      rintro e w2 ⟨rfl, h3⟩
      have b2 := below_up b1.out h3
      replace b2 := Lib.hid b2
      clear h3
      go_wp2_with fail
      go_ret
      exact ⟨by rw [hr2.out]; simp, b2.out⟩
    · have hr2 : inputsOk made tasks xs = false := by rw [hr]; simp [takesOk, hl]
      have hl' : ((xs.length : Int) == (made.length : Int)) = false := by simp; omega
      replace hl := Lib.hid hl
      replace hr2 := Lib.hid hr2
      clear hr
      go_enter Try.func45, Try.ntmps45
      go_wp2_with fail
      refine (hc1.out _ (below_al (Below.refl _ _) _)).mono ?_
      rintro e w1 ⟨rfl, h3⟩
      have x0 : w1.cell? ⟨w.heap.size, 0, none⟩ = some (.slice Am made.length cm) := (h3.cell (p := ⟨w.heap.size, 0, none⟩) (by simp)).trans (by simp)
      have b1 := below_from h3
      replace b1 := Lib.hid b1
      clear h3
      go_wp2_with fail
      go_ret
      exact ⟨by rw [hr2.out]; rfl, b1.out⟩
end Go.Proofs.Ytagmdljdcnmpdaa
