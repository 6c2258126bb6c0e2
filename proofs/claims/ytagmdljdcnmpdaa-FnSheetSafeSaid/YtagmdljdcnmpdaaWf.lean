import Derived.Test.YtagmdljdcnmpdaaL3May
set_option linter.unusedVariables false
set_option linter.unusedSimpArgs false
namespace Go.Proofs.Ytagmdljdcnmpdaa
open Go Go.RowKit

/-- a key that leads to no circle -/
inductive Wf (may : Int → List Int) : Int → Prop
  | mk (k : Int) : (∀ j, j ∈ may k → Wf may j) → Wf may k

/-- no key of a circle is one -/
theorem wf_no_cycle {may : Int → List Int} {l : List Int} (hn : l ≠ []) (hc : ∀ i (h : i < l.length), l[(i + 1) % l.length]'(Nat.mod_lt _ (by omega)) ∈ may l[i]) : ∀ k, Wf may k → k ∉ l := by
  intro k h
  induction h with
  | mk k _ ih =>
    intro hk
    obtain ⟨i, hi, rfl⟩ := List.getElem_of_mem hk
    exact ih _ (hc i hi) (List.getElem_mem _)

/-! the reference's passes -/
def passKs (may : Int → List Int) : List Int → (Int → Bool) → (Int → Bool)
  | [], d => d
  | k :: ks, d => passKs may ks (fun i => if i = k then (may k).all d else d i)
theorem passKs_wf {may : Int → List Int} : ∀ (ks : List Int) (d : Int → Bool), (∀ i, d i = true → Wf may i) → ∀ i, passKs may ks d i = true → Wf may i := by
  intro ks
  induction ks with
  | nil => intro d h i hi; exact h i hi
  | cons k ks ih =>
    intro d h i hi
    refine ih _ (fun j hj => ?_) i hi
    by_cases e : j = k
    · subst e
      simp only [if_true] at hj
      rw [List.all_eq_true] at hj
      exact .mk _ (fun m hm => h m (hj m hm))
    · simp only [e, if_false] at hj
      exact h j hj

/-- what is done stays done -/
theorem passKs_mono {may : Int → List Int} : ∀ (ks : List Int) (d : Int → Bool), (∀ i, d i = true → ∀ j ∈ may i, d j = true) → (∀ i, d i = true → passKs may ks d i = true) ∧ (∀ i, passKs may ks d i = true → ∀ j ∈ may i, passKs may ks d j = true) := by
  intro ks
  induction ks with
  | nil => intro d h; exact ⟨fun i hi => hi, h⟩
  | cons k ks ih =>
    intro d h
    have h1 : ∀ i, d i = true → (if i = k then (may k).all d else d i) = true := fun i hi => by
      by_cases e : i = k
      · subst e; rw [if_pos rfl, List.all_eq_true]; exact h i hi
      · rw [if_neg e]; exact hi
    have h2 : ∀ i, (if i = k then (may k).all d else d i) = true → ∀ j ∈ may i, (if j = k then (may k).all d else d j) = true := fun i hi j hj => by
      by_cases e : i = k
      · subst e
        rw [if_pos rfl, List.all_eq_true] at hi
        exact h1 j (hi j hj)
      · rw [if_neg e] at hi
        exact h1 j (h i hi j hj)
    obtain ⟨a, b⟩ := ih _ h2
    exact ⟨fun i hi => a i (h1 i hi), b⟩

/-- a key all of whose keys are done is done behind a pass -/
theorem passKs_adds {may : Int → List Int} : ∀ (ks : List Int) (d : Int → Bool), (∀ i, d i = true → ∀ j ∈ may i, d j = true) → ∀ k ∈ ks, (∀ j ∈ may k, d j = true) → passKs may ks d k = true := by
  intro ks
  induction ks with
  | nil => intro d _ k hk; cases hk
  | cons q ks ih =>
    intro d h k hk hm
    have h1 : ∀ i, d i = true → (if i = q then (may q).all d else d i) = true := fun i hi => by
      by_cases e : i = q
      · subst e; rw [if_pos rfl, List.all_eq_true]; exact h i hi
      · rw [if_neg e]; exact hi
    have h2 : ∀ i, (if i = q then (may q).all d else d i) = true → ∀ j ∈ may i, (if j = q then (may q).all d else d j) = true := fun i hi j hj => by
      by_cases e : i = q
      · subst e
        rw [if_pos rfl, List.all_eq_true] at hi
        exact h1 j (hi j hj)
      · rw [if_neg e] at hi
        exact h1 j (h i hi j hj)
    rcases List.mem_cons.1 hk with rfl | hk
    · exact (passKs_mono ks _ h2).1 k (by rw [if_pos rfl, List.all_eq_true]; exact hm)
    · exact ih _ h2 k hk (fun j hj => h1 j (hm j hj))
end Go.Proofs.Ytagmdljdcnmpdaa
