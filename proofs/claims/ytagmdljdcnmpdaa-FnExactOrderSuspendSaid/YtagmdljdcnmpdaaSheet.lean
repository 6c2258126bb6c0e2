import Derived.Test.YtagmdljdcnmpdaaTaskOk
import Derived.Test.YtagmdljdcnmpdaaRun
import Derived.Test.YtagmdljdcnmpdaaMakerP
set_option linter.unusedVariables false
set_option linter.unusedSimpArgs false
namespace Go.Proofs.Ytagmdljdcnmpdaa
open Go Go.RowKit

/-- a sheet's value: all that it leads to in blocks below B -/
structure SheetAt (B : Nat) (w : World) (Am : Option Addr) (cm : Nat) (At : Option Addr) (ct : Nat) (made : List Bool) (tasks : List Task) : Prop where
  lm : made.length ≤ cm
  mm : cm ≤ maxLen
  lt : tasks.length ≤ ct
  mt : ct ≤ maxLen
  made : BoolsAt B w Am made
  tasks : PartsIs B w At 0 tasks

set_option maxHeartbeats 1000000 in
theorem sheetOk_calls (Am At : Option Addr) (cm ct : Nat) (made : List Bool) (tasks : List Task) (B : Nat) (w0 w : World) (hb : Below B w0 w) (hB : B ≤ w.heap.size) (hs : SheetAt B w0 Am cm At ct made tasks) :
    Calls Try.prog 40 #[.agg #[.slice Am made.length cm, .slice At tasks.length ct]] w fun e w' => e = .returned (.bool (sheetOk made tasks)) ∧ Below w.heap.size w w' := by
  obtain ⟨lm, mm, lt, mt, hm, ht⟩ := hs
  unfold maxLen at mm mt
  replace hb := Lib.hid hb
  replace hm := Lib.hid hm
  replace ht := Lib.hid ht
  by_cases h1 : made.length = tasks.length
  case neg =>
    have hr : sheetOk made tasks = false := by simp [sheetOk, h1]
    replace hr := Lib.hid hr
    have h1' : ((made.length : Int) != (tasks.length : Int)) = true := by simp; omega
    replace h1 := Lib.hid h1
    go_enter Try.func40, Try.ntmps40
    go_wp2_with fail
    go_ret
    exact ⟨by rw [hr.out]; rfl, below_al (Below.refl _ _) _⟩
  have h1' : ((made.length : Int) != (tasks.length : Int)) = false := by simp; omega
  replace h1 := Lib.hid h1
  by_cases h2 : made.length ≤ 10
  case neg =>
    have hr : sheetOk made tasks = false := by simp [sheetOk, h2]
    replace hr := Lib.hid hr
    go_enter Try.func40, Try.ntmps40
    go_wp2_with fail
    go_ret
    exact ⟨by rw [hr.out]; rfl, below_al (Below.refl _ _) _⟩
  have hr : sheetOk made tasks = sheetOkL made tasks := by simp [sheetOk, h1.out, h1.out ▸ h2]
  replace hr := Lib.hid hr
  go_enter Try.func40, Try.ntmps40
  go_wp2_with fail
  go_loopw [3, 21] (fun _ i wr => ∃ (j : Nat), j ≤ tasks.length ∧ i = .int .i64 j ∧ w.heap.size < wr.heap.size ∧ wr.cell? ⟨w.heap.size, 0, none⟩ = some (.slice Am made.length cm) ∧ Hid (Below w.heap.size w wr) ∧ Hid (sheetOkL made tasks = sheetOkL (made.drop j) (tasks.drop j))) (fun _ i _ => tasks.length - (intOf i).toNat)
  case atStart => exact ⟨0, Nat.zero_le _, rfl, by simp, by simp, Lib.hid (below_al (Below.refl _ _) _), Lib.hid rfl⟩
  case round =>
    obtain ⟨j, hj, rfl, hz, hbox, hw, he⟩ := hrel
    by_cases hlt : j < tasks.length
    · obtain ⟨b, o, A', c', rfl, hbl, y0, y1, y2, hc', hm', hp'⟩ := ht.out.at (below_up' hb.out hB hw.out) j hlt
      have hbl' : b < wr.heap.size := by have := hw.out.size; omega
      have hltm : j < made.length := by have := h1.out; omega
      have hd : tasks.drop j = tasks[j] :: tasks.drop (j + 1) := List.drop_eq_getElem_cons hlt
      have hdm : made.drop j = made[j] :: made.drop (j + 1) := List.drop_eq_getElem_cons hltm
      rw [hd, hdm] at he
      have he2 := he.out
      rw [sheetOkL_cons] at he2
      replace hd := Lib.hid hd
      replace hdm := Lib.hid hdm
      clear he
      have hcall := fun w1 (hb1 : Below B w0 w1) (hB1 : B ≤ w1.heap.size) => taskOk_calls tasks[j] A' c' B w0 w1 hb1 hB1 hc' hm' hp'
      replace hcall := Lib.hid hcall
      cases hok : okT tasks[j] with
      | false =>
        rw [hok] at he2
        replace he2 := Lib.hid he2
        replace hok := Lib.hid hok
        go_wp2_with fail
        refine (hcall.out _ (below_al' (below_up' hb.out hB hw.out) _ (by have := hw.out.size; omega)) (by have := hw.out.size; simp; omega)).mono ?_
        rintro e w2 ⟨rfl, h5⟩
        replace h5 := Lib.hid h5
        rw [hok.out]
        go_wp2_with fail
        go_ret
        exact ⟨by rw [hr.out, he2.out]; rfl, below_up hw.out (below_from h5.out)⟩
      | true =>
        rw [hok, Bool.true_and] at he2
        obtain ⟨bm, om, eqm, hbm, cmj⟩ := hm.out.at (below_up' hb.out hB hw.out) (by have := hw.out.size; omega) j hltm
        replace hok := Lib.hid hok
        have hk1 : (tasks[j].kind == 0) = true ∨ (tasks[j].kind == 0) = false := by cases (tasks[j].kind == 0) <;> simp
        have hk2 : (tasks[j].n == 0) = true ∨ (tasks[j].n == 0) = false := by cases (tasks[j].n == 0) <;> simp
        subst eqm
        cases hmj : made[j] with
        | true =>
          rw [hmj, Bool.true_or, Bool.true_and] at he2
          rw [hmj] at cmj
          replace he2 := Lib.hid he2
          replace hmj := Lib.hid hmj
          clear hk1 hk2
          go_wp2_with fail
          refine (hcall.out _ (below_al' (below_up' hb.out hB hw.out) _ (by have := hw.out.size; omega)) (by have := hw.out.size; simp; omega)).mono ?_
          rintro e w2 ⟨rfl, h5⟩
          rw [hok.out]
          have hh := bcell h5
          simp at hh
          have z0 : w2.cell? ⟨w.heap.size, 0, none⟩ = some (.slice (some ⟨bm, om, none⟩) made.length cm) := (hh _ _ (by omega)).trans ((cell_al hz).trans hbox)
          have z1 : w2.cell? ⟨bm, om + j, none⟩ = some (.bool true) := (hh _ _ (by omega)).trans ((cell_al hbm).trans cmj)
          have hz2 : w.heap.size < w2.heap.size := by have := h5.size; simp at this; omega
          clear hh
          replace h5 := Lib.hid h5
          clear y0 y1 y2 hbox cmj
          go_wp2_with fail
          go_roundw
          case rel => exact ⟨j + 1, by omega, by go_num, hz2, z0, Lib.hid (below_up hw.out (below_from h5.out)), he2⟩
          case measure => simp [intOf]; omega
        | false =>
          rw [hmj, Bool.false_or] at he2
          rw [hmj] at cmj
          replace hmj := Lib.hid hmj
          by_cases hk : tasks[j].kind = 0
          · have hk' : (tasks[j].kind != 0) = false := by simp [hk]
            have hk2 : (tasks[j].kind == 0) = true := by simp [hk]
            rw [hk2, Bool.true_and] at he2
            replace hk := Lib.hid hk
            replace hk2 := Lib.hid hk2
            by_cases hn : tasks[j].n = 0
            · have hn' : (tasks[j].n != 0) = false := by simp [hn]
              have hn2 : (tasks[j].n == 0) = true := by simp [hn]
              rw [hn2, Bool.true_and] at he2
              replace he2 := Lib.hid he2
              replace hn := Lib.hid hn
              replace hn2 := Lib.hid hn2
              go_wp2_with fail
              refine (hcall.out _ (below_al' (below_up' hb.out hB hw.out) _ (by have := hw.out.size; omega)) (by have := hw.out.size; simp; omega)).mono ?_
              rintro e w2 ⟨rfl, h5⟩
              rw [hok.out]
              have hh := bcell h5
              simp at hh
              have z0 : w2.cell? ⟨w.heap.size, 0, none⟩ = some (.slice (some ⟨bm, om, none⟩) made.length cm) := (hh _ _ (by omega)).trans ((cell_al hz).trans hbox)
              have z1 : w2.cell? ⟨bm, om + j, none⟩ = some (.bool false) := (hh _ _ (by omega)).trans ((cell_al hbm).trans cmj)
              have z2 : w2.cell? ⟨wr.heap.size, 0, none⟩ = some (.int .i64 tasks[j].kind) := (hh _ _ (by omega)).trans (by simp)
              have z3 : w2.cell? ⟨wr.heap.size, 1, none⟩ = some (.int .i64 tasks[j].n) := (hh _ _ (by omega)).trans (by simp)
              have hz2 : w.heap.size < w2.heap.size := by have := h5.size; simp at this; omega
              clear hh
              replace h5 := Lib.hid h5
              clear y0 y1 y2 hbox cmj
              go_wp2_with fail
              go_roundw
              case rel => exact ⟨j + 1, by omega, by go_num, hz2, z0, Lib.hid (below_up hw.out (below_from h5.out)), he2⟩
              case measure => simp [intOf]; omega
            · have hn' : (tasks[j].n != 0) = true := by simp [hn]
              have hn2 : (tasks[j].n == 0) = false := by simp [hn]
              rw [hn2, Bool.false_and] at he2
              replace he2 := Lib.hid he2
              replace hn := Lib.hid hn
              replace hn2 := Lib.hid hn2
              go_wp2_with fail
              refine (hcall.out _ (below_al' (below_up' hb.out hB hw.out) _ (by have := hw.out.size; omega)) (by have := hw.out.size; simp; omega)).mono ?_
              rintro e w2 ⟨rfl, h5⟩
              rw [hok.out]
              have hh := bcell h5
              simp at hh
              have z0 : w2.cell? ⟨w.heap.size, 0, none⟩ = some (.slice (some ⟨bm, om, none⟩) made.length cm) := (hh _ _ (by omega)).trans ((cell_al hz).trans hbox)
              have z1 : w2.cell? ⟨bm, om + j, none⟩ = some (.bool false) := (hh _ _ (by omega)).trans ((cell_al hbm).trans cmj)
              have z2 : w2.cell? ⟨wr.heap.size, 0, none⟩ = some (.int .i64 tasks[j].kind) := (hh _ _ (by omega)).trans (by simp)
              have z3 : w2.cell? ⟨wr.heap.size, 1, none⟩ = some (.int .i64 tasks[j].n) := (hh _ _ (by omega)).trans (by simp)
              have hz2 : w.heap.size < w2.heap.size := by have := h5.size; simp at this; omega
              clear hh
              replace h5 := Lib.hid h5
              clear y0 y1 y2 hbox cmj
              go_wp2_with fail
              go_ret
              exact ⟨by rw [hr.out, he2.out]; rfl, below_up hw.out (below_from h5.out)⟩
          · have hk' : (tasks[j].kind != 0) = true := by simp [hk]
            have hk2 : (tasks[j].kind == 0) = false := by simp [hk]
            rw [hk2, Bool.false_and, Bool.false_and] at he2
            replace he2 := Lib.hid he2
            replace hk := Lib.hid hk
            replace hk2 := Lib.hid hk2
            go_wp2_with fail
            refine (hcall.out _ (below_al' (below_up' hb.out hB hw.out) _ (by have := hw.out.size; omega)) (by have := hw.out.size; simp; omega)).mono ?_
            rintro e w2 ⟨rfl, h5⟩
            rw [hok.out]
            have hh := bcell h5
            simp at hh
            have z0 : w2.cell? ⟨w.heap.size, 0, none⟩ = some (.slice (some ⟨bm, om, none⟩) made.length cm) := (hh _ _ (by omega)).trans ((cell_al hz).trans hbox)
            have z1 : w2.cell? ⟨bm, om + j, none⟩ = some (.bool false) := (hh _ _ (by omega)).trans ((cell_al hbm).trans cmj)
            have z2 : w2.cell? ⟨wr.heap.size, 0, none⟩ = some (.int .i64 tasks[j].kind) := (hh _ _ (by omega)).trans (by simp)
            have z3 : w2.cell? ⟨wr.heap.size, 1, none⟩ = some (.int .i64 tasks[j].n) := (hh _ _ (by omega)).trans (by simp)
            have hz2 : w.heap.size < w2.heap.size := by have := h5.size; simp at this; omega
            clear hh
            replace h5 := Lib.hid h5
            clear y0 y1 y2 hbox cmj
            go_wp2_with fail
            go_ret
            exact ⟨by rw [hr.out, he2.out]; rfl, below_up hw.out (below_from h5.out)⟩
    · have hd : tasks.drop j = [] := List.drop_eq_nil_of_le (by omega)
      have hdm : made.drop j = [] := List.drop_eq_nil_of_le (by have := h1.out; omega)
      rw [hd, hdm, sheetOkL_nil] at he
      replace hd := Lib.hid hd
      replace hdm := Lib.hid hdm
      go_wp2_with fail
      go_ret
      exact ⟨by rw [hr.out, he.out]; rfl, hw.out⟩
end Go.Proofs.Ytagmdljdcnmpdaa
