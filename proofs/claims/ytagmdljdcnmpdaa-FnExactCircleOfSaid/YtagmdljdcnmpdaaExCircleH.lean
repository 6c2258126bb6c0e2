import Derived.Test.YtagmdljdcnmpdaaExCircle
import Derived.Test.YtagmdljdcnmpdaaFrameS
set_option linter.unusedVariables false
set_option linter.unusedSimpArgs false
namespace Go.Proofs.Ytagmdljdcnmpdaa
open Go Go.RowKit

/-- the circle that is kept is no longer than the sheet -/
theorem keyP_circle {S : Sh} (hS : S.Ok) : ∀ (n : Nat) (st : MkSt) (k : Int), Inv S n st → st.circle.length ≤ S.made.length → (keyP S n st k).2.circle.length ≤ S.made.length := by
  intro n
  induction n with
  | zero =>
    intro st k hi hc
    unfold keyP
    split
    · exact hc
    · split
      · exact hc
      · split
        · have := inv_open hi
          simp only [List.length_drop]; omega
        · exact hc
  | succ n ih =>
    intro st k hi hc
    unfold keyP
    split
    · exact hc
    · rename_i hm
      split
      · exact hc
      · rename_i hk
        split
        · have := inv_open hi
          simp only [List.length_drop]; omega
        · rename_i ho
          have hi1 := inv_push hi (mkK_range hm) hk (not_open ho)
          have r1 := Tk.run_keeps (J := fun s => Inv S n s ∧ s.circle.length ≤ S.made.length) (fun s k h _ _ => ⟨(keyP_inv hS n s k h.1).1, ih s k h.1 h.2⟩) (S.tk k) _ (tk_ok hS k) ⟨hi1, hc⟩
          dsimp only at r1 ⊢
          generalize (S.tk k).run (keyP S n) { st with open_ := st.open_ ++ [k] } = r at *
          split <;> exact r1.2
theorem circleP_length {S : Sh} (hS : S.Ok) (k : Int) : (circleP S k).1.length ≤ 10 := by
  have h := keyP_circle hS S.made.length st0 k (inv0 S) (by simp [st0])
  have := hS.ten
  unfold circleP
  split
  · simp
  · simp only []; omega
theorem nodes_le {tasks : List Task} (h : nodesL tasks ≤ 1048576) : ∀ T ∈ tasks, nodes T ≤ 1000000000 := by
  intro T hT
  obtain ⟨i, hi, rfl⟩ := List.getElem_of_mem hT
  have := nodesL_at hi
  omega
theorem circle_both (made : List Bool) (tasks : List Task) (x1 : List Int) (n2 : Int) : (made.length : Int) + nodesL tasks ≤ 1048576 → x1.length ≤ 1048576 → ∃ r, r.1.length ≤ 1000000 ∧ BothCircleOf made tasks x1 n2 r := by
  intro hsz _
  have hnod := nodes_le (tasks := tasks) (by omega)
  by_cases hgood : sheetOk made tasks = true ∧ takesOk made.length x1 = true ∧ 0 ≤ n2 ∧ n2 < made.length
  · obtain ⟨h1, h2, h3, h4⟩ := hgood
    obtain ⟨tks, rfl, hS⟩ := ok_sh h1 h2
    refine ⟨circleP ⟨made, tks, x1⟩ n2, by have := circleP_length hS n2; omega, fun w Am At cm ct A1 c1 hs hi hl hc => ?_, fun w Am At cm ct A1 c1 hs hi hl hc => ?_⟩
    · have := circleOf_own ⟨Am, cm, At, ct, A1, c1, w.heap.size, w⟩ ⟨made, tks, x1⟩ ⟨hs, hi, hl, hc, hS⟩ n2 w (Below.refl _ _) (Nat.le_refl _) h3 h4
      simp only [List.length_map]
      exact this
    · have := specCircleOf_good ⟨Am, cm, At, ct, A1, c1, w.heap.size, w⟩ ⟨made, tks, x1⟩ ⟨hs, hi, hl, hc, hS⟩ hnod n2 w (Below.refl _ _) (Nat.le_refl _) h3 h4
      rw [← circle_same hS] at this
      simp only [List.length_map]
      exact this
  · have hbad : sheetOk made tasks = true → takesOk made.length x1 = true → ¬ (0 ≤ n2 ∧ n2 < made.length) := fun a b c => hgood ⟨a, b, c⟩
    refine ⟨([], false), by simp, fun w Am At cm ct A1 c1 hs hi hl hc => ?_, fun w Am At cm ct A1 c1 hs hi hl hc => ?_⟩
    · refine (circleOf_bad Am At A1 cm ct c1 made tasks x1 w.heap.size w n2 w hs hi (Nat.le_trans hl hc) (Below.refl _ _) (Nat.le_refl _) hbad).mono ?_
      rintro e w' ⟨rfl, hb⟩
      exact ⟨_, rfl, World.ownsRow_nil _ _ _ _, hb⟩
    · exact specCircleOf_bad Am At A1 cm ct c1 made tasks x1 w.heap.size w n2 w hs hi (Nat.le_trans hl hc) hnod (Below.refl _ _) (Nat.le_refl _) hbad
theorem fnExactCircleOf_row (Am At : Option Addr) (cm ct : Nat) (made : List Bool) (tasks : List Task) (A1 : Option Addr) (c1 : Nat) (x1 : List Int) (n2 : Int) (w : World) (hs : SheetAt w.heap.size w Am cm At ct made tasks) (hi1 : IntsAt w.heap.size w A1 x1) (hl1 : x1.length ≤ c1) (hc1 : c1 ≤ maxLen) :
    Calls Try.prog 7 #[.agg #[.slice Am made.length cm, .slice At tasks.length ct], .slice A1 x1.length c1, .int .i64 n2] w fun e w' => e = .returned (.bool true) ∧ Below w.heap.size w w' :=
  fnExactCircleOf_calls Am At cm ct made tasks A1 c1 x1 n2 w hs hi1 hl1 hc1 (circle_both made tasks x1 n2)
end Go.Proofs.Ytagmdljdcnmpdaa
