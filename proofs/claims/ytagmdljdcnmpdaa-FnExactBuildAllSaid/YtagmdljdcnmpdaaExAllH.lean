import Derived.Test.YtagmdljdcnmpdaaExAll
import Derived.Test.YtagmdljdcnmpdaaFrameS
import Derived.Test.YtagmdljdcnmpdaaPlainAll
set_option linter.unusedVariables false
set_option linter.unusedSimpArgs false
namespace Go.Proofs.Ytagmdljdcnmpdaa
open Go Go.RowKit

theorem nodes_le {tasks : List Task} (h : nodesL tasks ≤ 1048576) : ∀ T ∈ tasks, nodes T ≤ 1000000000 := by
  intro T hT
  obtain ⟨i, hi, rfl⟩ := List.getElem_of_mem hT
  have := nodesL_at hi
  omega
theorem GivesRow.own {r : List Int × Bool} {e : Ending} {w w' : World} (h : GivesRow r e w w') : GivesOwn w.heap.size r e w w' := h
theorem allL_length {S : Sh} : ∀ (ks : List Int) (st : MkSt) (out : List Int), (allL S ks st out).1.length ≤ out.length + ks.length := by
  intro ks
  induction ks with
  | nil => intro st out; simp [allL]
  | cons k ks ih =>
    intro st out
    rw [allL]
    split
    · have := ih (keyP S S.made.length st k).2 (out ++ [(keyP S S.made.length st k).1.1])
      simp at this ⊢; omega
    · simp
theorem all_both (made : List Bool) (tasks : List Task) (x1 : List Int) : (made.length : Int) + nodesL tasks ≤ 1048576 → x1.length ≤ 1048576 → ∃ r, r.1.length ≤ 1000000 ∧ BothBuildAll made tasks x1 r := by
  intro hsz _
  have hnod := nodes_le (tasks := tasks) (by omega)
  by_cases hgood : sheetOk made tasks = true ∧ takesOk made.length x1 = true
  · obtain ⟨h1, h2⟩ := hgood
    obtain ⟨tks, rfl, hS⟩ := ok_sh h1 h2
    refine ⟨buildAllP ⟨made, tks, x1⟩, ?_, fun w Am At cm ct A1 c1 hs hi hl hc => ?_, fun w Am At cm ct A1 c1 hs hi hl hc => ?_⟩
    · have := allL_length (S := ⟨made, tks, x1⟩) (keysN made.length) st0 []
      have h10 := hS.ten
      rw [keysN_length] at this
      unfold buildAllP
      simp at this h10 ⊢; omega
    · have := buildAll_good ⟨Am, cm, At, ct, A1, c1, w.heap.size, w⟩ ⟨made, tks, x1⟩ ⟨hs, hi, hl, hc, hS⟩ w (Below.refl _ _) (Nat.le_refl _)
      simp only [List.length_map]
      exact this
    · have := specBuildAll_good ⟨Am, cm, At, ct, A1, c1, w.heap.size, w⟩ ⟨made, tks, x1⟩ ⟨hs, hi, hl, hc, hS⟩ hnod w (Below.refl _ _) (Nat.le_refl _)
      rw [← all_same hS] at this
      simp only [List.length_map]
      exact this.mono fun _ _ h => h.own.list
  · have hbad : sheetOk made tasks = true → takesOk made.length x1 = false := fun a => by
      cases h : takesOk made.length x1 with
      | false => rfl
      | true => exact (hgood ⟨a, h⟩).elim
    refine ⟨([], false), by simp, fun w Am At cm ct A1 c1 hs hi hl hc => ?_, fun w Am At cm ct A1 c1 hs hi hl hc => ?_⟩
    · refine (buildAll_bad Am At A1 cm ct c1 made tasks x1 w.heap.size w w hs hi (Nat.le_trans hl hc) (Below.refl _ _) (Nat.le_refl _) hbad).mono ?_
      rintro e w' ⟨rfl, hb⟩
      exact ⟨_, rfl, World.ownsRow_nil _ _ _ _, hb⟩
    · refine (specBuildAll_bad Am At A1 cm ct c1 made tasks x1 w.heap.size w w hs hi (Nat.le_trans hl hc) hnod (Below.refl _ _) (Nat.le_refl _) ?_).mono fun _ _ h => h.own.list
      unfold inputsOk
      cases h : sheetOk made tasks with
      | false => rfl
      | true => rw [hbad h]; rfl
theorem fnExactBuildAll_row (Am At : Option Addr) (cm ct : Nat) (made : List Bool) (tasks : List Task) (A1 : Option Addr) (c1 : Nat) (x1 : List Int) (w : World) (hs : SheetAt w.heap.size w Am cm At ct made tasks) (hi1 : IntsAt w.heap.size w A1 x1) (hl1 : x1.length ≤ c1) (hc1 : c1 ≤ maxLen) :
    Calls Try.prog 8 #[.agg #[.slice Am made.length cm, .slice At tasks.length ct], .slice A1 x1.length c1] w fun e w' => e = .returned (.bool true) ∧ Below w.heap.size w w' :=
  fnExactBuildAll_calls Am At cm ct made tasks A1 c1 x1 w hs hi1 hl1 hc1 (all_both made tasks x1)
end Go.Proofs.Ytagmdljdcnmpdaa
