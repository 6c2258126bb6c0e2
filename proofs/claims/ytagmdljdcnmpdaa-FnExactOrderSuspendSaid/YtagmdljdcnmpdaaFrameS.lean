import Derived.Test.YtagmdljdcnmpdaaFrame
import Derived.Test.YtagmdljdcnmpdaaSheet
import Derived.ProofKit
set_option linter.unusedVariables false
set_option linter.unusedSimpArgs false
namespace Go.Proofs.Ytagmdljdcnmpdaa
open Go Go.RowKit Go.ChangeShapes Go.WideShapes Go.Deep
section
variable {H : Type} {enc : TypeId × Value → H} {w : World} {base : Nat} {spare : Nat → Bool} {held : Bool}
theorem cell1_bool : Try.prog.cellsOf 4 = 1 := by kernel_rfl
theorem cell1_int : Try.prog.cellsOf 3 = 1 := by kernel_rfl
set_option maxRecDepth 100000 in
theorem ints_came {d : DataW H} {p : List MemPlace} {A : Option Addr} {len c : Nat} (h : DataW.Trod enc Try.prog w base spare held 27 (.slice A len c) d p) :
    ∃ xs, xs.length = len ∧ len ≤ c ∧ c ≤ maxLen ∧ IntsAt w.heap.size w A xs := by
  obtain ⟨fuel, hf⟩ := h
  obtain ⟨A', len', c', xs, e, h1, h2, h3, h4⟩ := ints_open Try.underlying27 Try.underlying3 cell1_int (c := .slice A len c) (by simpa [Value.cells] using hf)
  cases e
  exact ⟨xs, h1, h2, h3, h4⟩

set_option maxRecDepth 100000 in
theorem sheet_came {r : Reach} {b0 : Nat} {v : Value} {d : DataW H} {p : List MemPlace} (hv : Value.okWide Try.prog w r b0 48 v) (h : DataW.Trod enc Try.prog w base spare held 48 v d p) :
    ∃ Am cm At ct made tasks, v = .agg #[.slice Am made.length cm, .slice At tasks.length ct] ∧ SheetAt w.heap.size w Am cm At ct made tasks := by
  obtain ⟨cs, rfl, hsz⟩ := okWide_struct Try.underlying48 hv
  have hC : Try.prog.cellsOf 48 = 2 := by kernel_rfl
  obtain ⟨l⟩ := cs
  match l, hsz.trans hC with
  | [c0, c1], _ =>
    obtain ⟨fuel, hf⟩ := h
    obtain ⟨xs, n, _, hx, _, hlen, hg⟩ := DataW.trod_struct Try.underlying48 hf
    have q0 := hg 0 _ rfl
    have q1 := hg 1 _ rfl
    have k0 : Try.prog.cellsOf 23 = 1 := by kernel_rfl
    have k1 : Try.prog.cellsOf 46 = 1 := by kernel_rfl
    have hl2 : xs.length = 2 := hlen
    simp only [Value.cells, k0, k1, List.drop_zero, List.drop_succ_cons, List.take_succ_cons, List.take_zero] at q0 q1
    rw [List.getElem?_eq_getElem (by omega)] at q0 q1
    obtain ⟨Am, nm, cm, made, rfl, rfl, h2, h3, h4⟩ := bools_open Try.underlying23 Try.underlying4 cell1_bool q0
    obtain ⟨At, nt, ct, tasks, rfl, rfl, g2, g3, g4⟩ := tasks_open Try.underlying46 Try.underlying115 (by kernel_rfl) Try.underlying3 cell1_int k1 ⟨_, rfl, rfl, rfl⟩ ⟨_, rfl, rfl, rfl⟩ ⟨_, rfl, rfl, rfl⟩ n c1 _ q1
    exact ⟨Am, cm, At, ct, made, tasks, rfl, ⟨h2, h3, g2, g3, h4, g4⟩⟩
end
end Go.Proofs.Ytagmdljdcnmpdaa
