import Derived.Test.YtagmdljdcnmpdaaBase
import Derived.OpenShut
set_option linter.unusedVariables false
namespace Go.Proofs.Ytagmdljdcnmpdaa
open Go Go.RowKit

theorem byte_row {w : World} {x : Addr} {zs : List Int} (len : Nat) (hcell : ∀ i, i < zs.length → w.cell? (x.add i) = some (.int .u8 (zs.getD i 0))) : RowAt (fun b : Int => Value.int .u8 b) w.heap.size w (some x) (zs.take len) := by
  intro i hi
  have hl : i < zs.length := by simp at hi; omega
  obtain ⟨b, off, rfl, h⟩ := ints_at hcell (by omega)
  have h1 := h i hl
  refine ⟨b, off, rfl, ?_, ?_⟩
  · by_cases hb : b < w.heap.size
    · exact hb
    · exfalso
      have h2 : w.heap[b]? = none := by simp; omega
      simp [World.cell?, h2] at h1
  · rw [h1]; simp [hl]
theorem byte_vals {zs : List Int} (len : Nat) (h : ∀ n ∈ zs, (Lit.int .u8 n).wf = true) : ∀ b ∈ zs.take len, 0 ≤ b ∧ b ≤ 255 :=
  fun b hb => bounds_u8 (h b (List.mem_of_mem_take hb))
end Go.Proofs.Ytagmdljdcnmpdaa
