import Derived.Test.YtagmdljdcnmpdaaExSusp
import Derived.Test.YtagmdljdcnmpdaaFrameS
import Derived.Test.YtagmdljdcnmpdaaSuspI
import Derived.Test.YtagmdljdcnmpdaaSuspS2
set_option linter.unusedVariables false
set_option linter.unusedSimpArgs false
namespace Go.Proofs.Ytagmdljdcnmpdaa
open Go Go.RowKit

theorem nodes_le3 {tasks : List Task} (h : nodesL tasks ≤ 1048576) : ∀ T ∈ tasks, nodes T ≤ 1000000000 := by
  intro T hT
  obtain ⟨i, hi, rfl⟩ := List.getElem_of_mem hT
  have := nodesL_at hi
  omega
theorem susp_both (made : List Bool) (tasks : List Task) (x1 x2 : List Int) : (made.length : Int) + nodesL tasks ≤ 1048576 → x1.length ≤ 1048576 → x2.length ≤ 1048576 → ∃ r, r.1.length ≤ 1000000 ∧ BothOrderSuspend made tasks x1 x2 r := by
  intro hsz _ _
  have hnn : 0 ≤ nodesL tasks := nodesL_pos tasks
  have hnod := nodes_le3 (tasks := tasks) (by omega)
  have hml : (made.length : Int) ≤ 9223372036854775807 := by omega
  by_cases hgood : sheetOk made tasks = true ∧ takesOk made.length x1 = true ∧ keysOk made.length x2 = true
  · obtain ⟨h1, h2, h3⟩ := hgood
    obtain ⟨tks, rfl, hS⟩ := ok_sh h1 h2
    refine ⟨suspP ⟨made, tks, x1⟩ x2, ?_, fun w Am At cm ct A1 c1 A2 c2 hs hi hl hc hi2 hl2 hc2 => ?_, fun w Am At cm ct A1 c1 A2 c2 hs hi hl hc hi2 hl2 hc2 => ?_⟩
    · have := suspL_length hS x2 st0 (inv0 _)
      unfold suspP
      omega
    · have := orderSuspend_good ⟨Am, cm, At, ct, A1, c1, w.heap.size, w⟩ ⟨made, tks, x1⟩ ⟨hs, hi, hl, hc, hS⟩ A2 c2 x2 w (Below.refl _ _) (Nat.le_refl _) h3 hi2 (Nat.le_trans hl2 hc2)
      simp only [List.length_map]
      exact this
    · have := specOrderSuspend_good ⟨Am, cm, At, ct, A1, c1, w.heap.size, w⟩ ⟨made, tks, x1⟩ ⟨hs, hi, hl, hc, hS⟩ hnod A2 c2 x2 w (Below.refl _ _) (Nat.le_refl _) h3 hi2 (Nat.le_trans hl2 hc2)
      simp only [List.length_map]
      exact this.mono fun _ _ h => h.list
  · refine ⟨([], false), by simp, fun w Am At cm ct A1 c1 A2 c2 hs hi hl hc hi2 hl2 hc2 => ?_, fun w Am At cm ct A1 c1 A2 c2 hs hi hl hc hi2 hl2 hc2 => ?_⟩
    · refine (orderSuspend_bad Am At A1 A2 cm ct c1 c2 made tasks x1 x2 w.heap.size w w hs hi (Nat.le_trans hl hc) hi2 (Nat.le_trans hl2 hc2) (Below.refl _ _) (Nat.le_refl _) (fun a b => ?_)).mono ?_
      · cases h : keysOk made.length x2 with
        | false => rfl
        | true => exact (hgood ⟨a, b, h⟩).elim
      · rintro e w' ⟨rfl, hb⟩
        exact ⟨_, rfl, World.ownsRow_nil _ _ _ _, hb⟩
    · refine (specOrderSuspend_bad Am At A1 A2 cm ct c1 c2 made tasks x1 x2 w.heap.size w w hs hnod hml hi (Nat.le_trans hl hc) hi2 (Nat.le_trans hl2 hc2) (Below.refl _ _) (Nat.le_refl _) (fun a => ?_)).mono fun _ _ h => h.list
      unfold inputsOk at a
      rw [Bool.and_eq_true] at a
      cases h : keysOk made.length x2 with
      | false => rfl
      | true => exact (hgood ⟨a.1, a.2, h⟩).elim
theorem fnExactOrderSuspend_row (Am At : Option Addr) (cm ct : Nat) (made : List Bool) (tasks : List Task) (A1 : Option Addr) (c1 : Nat) (x1 : List Int) (A2 : Option Addr) (c2 : Nat) (x2 : List Int) (w : World) (hs : SheetAt w.heap.size w Am cm At ct made tasks) (hi1 : IntsAt w.heap.size w A1 x1) (hl1 : x1.length ≤ c1) (hc1 : c1 ≤ maxLen) (hi2 : IntsAt w.heap.size w A2 x2) (hl2 : x2.length ≤ c2) (hc2 : c2 ≤ maxLen) :
    Calls Try.prog 9 #[.agg #[.slice Am made.length cm, .slice At tasks.length ct], .slice A1 x1.length c1, .slice A2 x2.length c2] w fun e w' => e = .returned (.bool true) ∧ Below w.heap.size w w' :=
  fnExactOrderSuspend_calls Am At cm ct made tasks A1 c1 x1 A2 c2 x2 w hs hi1 hl1 hc1 hi2 hl2 hc2 (susp_both made tasks x1 x2)
end Go.Proofs.Ytagmdljdcnmpdaa
