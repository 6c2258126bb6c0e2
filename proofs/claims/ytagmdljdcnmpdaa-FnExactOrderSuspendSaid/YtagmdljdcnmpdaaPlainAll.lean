import Derived.Test.YtagmdljdcnmpdaaSpecBuild
import Derived.Test.YtagmdljdcnmpdaaBuildAll
import Derived.Test.YtagmdljdcnmpdaaFetched
set_option linter.unusedVariables false
set_option linter.unusedSimpArgs false
namespace Go.Proofs.Ytagmdljdcnmpdaa
open Go Go.RowKit

/-- building all keys: what is kept behind it -/
theorem allL_spec {S : Sh} (hS : S.Ok) : ∀ (ks : List Int) (st : MkSt) (out all : List Int), Inv S S.made.length st → st.open_ = [] → KnE S st.known → allL S ks st out = (all, true) →
    ∃ kn, KnE S kn ∧ KLe st.known kn ∧ all = out ++ ks.map (fun k => (specKeyP S k).1) ∧ ∀ k ∈ ks, (specKeyP S k).2 = true ∧ Ans S kn k (specKeyP S k).1 := by
  intro ks
  induction ks with
  | nil => intro st out all _ _ hK h; cases h; exact ⟨st.known, hK, fun _ _ h => h, by simp, fun k hk => by cases hk⟩
  | cons k ks ih =>
    intro st out all hi ho hK h
    rw [allL] at h
    have hs := keyP_spec hS S.made.length st [] k hi hK
    rw [ho] at hs
    obtain ⟨⟨h1, h2, h3⟩, h4⟩ := hs
    have hv := keyP_inv hS S.made.length st k hi
    by_cases hok : (keyP S S.made.length st k).1.2 = true
    · rw [if_pos hok] at h
      obtain ⟨h21, h22, h23⟩ := h2 hok
      obtain ⟨kn, a1, a2, a3, a4⟩ := ih _ _ _ hv.1 ((hv.2.1 hok).trans ho) h22 h
      have e : (keyP S S.made.length st k).1 = specKeyP S k := h1
      rw [e] at a3 h4
      have hA := h4 (by rw [← e]; exact hok)
      refine ⟨kn, a1, fun x y hx => a2 x y (h23 x y hx), by simpa using a3, fun j hj => ?_⟩
      rcases List.mem_cons.1 hj with rfl | hj
      · exact ⟨by rw [← e]; exact hok, hA.up a2⟩
      · exact a4 j hj
    · rw [if_neg hok] at h; cases h
theorem Itr.run_sim {τ : Type} {g : Unit → Int → (Int × Bool) × Unit} {f : τ → Int → (Int × Bool) × τ} (h : ∀ d y s, (g () d).1 = (y, true) → (f s d).1 = (y, true)) :
    ∀ (m : Itr) (v : Int) (s : τ), (m.run g ()).1 = (v, true) → (m.run f s).1 = (v, true) := by
  intro m
  induction m with
  | done w => intro v s e; simp only [Itr.run] at e ⊢; exact e
  | ask k ct ih =>
    intro v s e
    by_cases h1 : (g () k).1.2 = true
    · rw [Itr.run_yes h1] at e
      have h2 := h k (g () k).1.1 s (by rw [← h1])
      rw [Itr.run_yes (by rw [h2]), h2]
      exact ih _ v _ e
    · rw [Itr.run_no h1] at e; cases e
theorem specKeyP_unmade {S : Sh} {k : Int} (h : mkK S.made k = false) : specKeyP S k = (atK S.inputs k, true) := by
  rw [specKeyP, specP_unmade h]
theorem atK_in {xs : List Int} {q : Nat} (h : q < xs.length) : atK xs q = xs[q] := by
  unfold atK
  rw [if_neg (by omega), Int.toNat_natCast, getD_at _ h]
theorem atK_out {xs : List Int} {k : Int} (h : k < 0 ∨ (xs.length : Int) ≤ k) : atK xs k = 0 := by
  unfold atK
  by_cases h0 : k < 0
  · rw [if_pos h0]
  · rw [if_neg h0, getD_out _ (by omega)]
theorem buildAll_facts {S : Sh} (hS : S.Ok) {all : List Int} (hall : buildAllP S = (all, true)) :
    all = (keysN S.made.length).map (fun k => (specKeyP S k).1) ∧ ∃ kn, KnE S kn ∧ ∀ q, q < S.made.length → (specKeyP S q).2 = true ∧ Ans S kn q (specKeyP S q).1 := by
  obtain ⟨kn, a1, a2, a3, a4⟩ := allL_spec hS _ st0 [] all (inv0 S) rfl (knE0 S) hall
  refine ⟨by simpa using a3, kn, a1, fun q hq => a4 q ?_⟩
  exact List.mem_map.2 ⟨q, List.mem_range.2 hq, rfl⟩
/-- all values: each key has its value, and the value of its task with all values -/
theorem all_law {S : Sh} (hS : S.Ok) {all : List Int} (hall : buildAllP S = (all, true)) :
    all.length = S.made.length ∧ (∀ x ∈ all, 0 ≤ x ∧ x ≤ 96) ∧ (∀ q (h : q < all.length), all[q] = (specKeyP S q).1) ∧
      (∀ q (h : q < S.tks.length), mkK S.made q = true → (fetchedP S.tks[q] all).1.1 = (specKeyP S q).1) := by
  obtain ⟨e, kn, ⟨rank, M, hK⟩, hk⟩ := buildAll_facts hS hall
  have hlen : all.length = S.made.length := by rw [e]; simp [keysN]
  have hget : ∀ q (h : q < all.length), all[q] = (specKeyP S q).1 := by
    intro q h
    have h2 : q < S.made.length := by omega
    subst e
    simp [keysN]
  have hat : ∀ d : Int, mkK S.made d = false → atK all d = atK S.inputs d := by
    intro d hd
    by_cases hr : 0 ≤ d ∧ d < S.made.length
    · obtain ⟨q, rfl⟩ := Int.eq_ofNat_of_zero_le hr.1
      rw [atK_in (by omega), hget q (by omega), specKeyP_unmade hd]
    · rw [atK_out (by omega), atK_out (by have := hS.ins; omega)]
  refine ⟨hlen, ?_, hget, ?_⟩
  · intro x hx
    obtain ⟨q, hq, rfl⟩ := List.getElem_of_mem hx
    rw [hget q hq]
    have h1 := build_spec hS q
    have h2 := keyP_inv hS S.made.length st0 q (inv0 S)
    rw [← h1.1]
    exact h2.2.2
  · intro q hq hm
    have hql : q < S.made.length := by have := hS.len; omega
    obtain ⟨h1, h2⟩ := hk q hql
    rcases h2 with ⟨h2, _⟩ | h2
    · rw [hm] at h2; cases h2
    obtain ⟨_, _, hrun⟩ := hK q _ h2
    rw [tk_at hq] at hrun
    have hf : ∀ (s : List (Int × Int)) (k : Int), (fetF all s k).1.2 = false → (fetF all s k).1.1 = 0 := fun s k h => by simp [fetF] at h
    have h3 := Itr.run_sim (f := fetF all) (fun d y s hd => ?_) S.tks[q].itr (specKeyP S q).1 [] (by rw [hrun])
    · rw [fetchedP, Tk.run_itr _ hf, h3]
    · rcases knF_yes hd with ⟨g1, rfl⟩ | ⟨g1, g2, _⟩
      · simp only [fetF]; rw [hat d g1]
      · have hr := mkK_range (show mkK S.made d ≠ false by rw [g1]; simp)
        obtain ⟨j, rfl⟩ := Int.eq_ofNat_of_zero_le hr.1
        obtain ⟨_, h5⟩ := hk j (by omega)
        rcases h5 with ⟨h5, _⟩ | h5
        · rw [g1] at h5; cases h5
        · rw [g2] at h5
          cases h5
          simp only [fetF]
          rw [atK_in (by omega), hget j (by omega)]
end Go.Proofs.Ytagmdljdcnmpdaa
