import Derived.Test.YtagmdljdcnmpdaaHeap
set_option linter.unusedVariables false
set_option linter.unusedSimpArgs false
namespace Go.Proofs.Ytagmdljdcnmpdaa
open Go Go.RowKit

theorem intTy : ElemTy Try.prog 27 3 (.int .i64 0) 1 8 := ⟨Try.underlying27, by kernel_rfl, rfl, by omega⟩
theorem mapTy : MapTy Try.prog 84 3 3 := ⟨Try.underlying84, Try.underlying3, Try.underlying3, fun w => by kernel_rfl⟩

theorem clone_calls (A : Option Addr) (c : Nat) (xs : List Int) (B : Nat) (w0 w : World) (hb : Below B w0 w) (hB : B ≤ w.heap.size) (hm : xs.length ≤ 1099511627776) (hx : IntsAt B w0 A xs) :
    Calls Try.prog 76 #[.slice A xs.length c] w fun e w' => ∃ v, e = .returned v ∧ w'.ownsRow w.heap.size 3 1 v xs.length (ints xs) ∧ Below w.heap.size w w' := by
  cases A with
  | none =>
    have h0 : xs = [] := by
      cases xs with
      | nil => rfl
      | cons x xs => obtain ⟨b, o, e, _⟩ := hx 0 (by simp); cases e
    subst h0
    have he := Lib.run_eql_slice_nil (P := Try.prog) w 27 3 none 0 c 0 0 Try.underlying27
    go_enter Try.func76, Try.ntmps76
    go_wp2
    go_ret
    exact ⟨_, rfl, World.ownsRow_nil _ _ _ _, Below.refl _ _⟩
  | some ad =>
    have he := Lib.run_eql_slice_nil (P := Try.prog) w 27 3 (some ad) xs.length c 0 0 Try.underlying27
    replace hx := Lib.hid hx
    replace hb := Lib.hid hb
    go_enter Try.func76, Try.ntmps76
    go_wp2_with ((with_reducible refine wpList_appN (by rfl) (.tmp 5) (.tmp 6) 27 (by rfl) intTy w.heap.size (.slice (some ⟨w.heap.size, 0, none⟩) 0 0) 0 [] (by with_unfolding_all rfl) ?_ ad xs.length c (ints xs) (by with_unfolding_all rfl) (by simp [ints]) ?_ ?_ ?_ ?_ ?_ ?_))
    · exact World.ownsRow_made w #[] 0 (Nat.le_refl _) (by simp [maxLen]) rfl
    · intro j u hu
      have hj : j < xs.length := by
        have := (List.getElem?_eq_some_iff.1 hu).1
        simpa [ints] using this
      obtain ⟨b, o, e, hlt, hc⟩ := hx.out.at hb.out hB j hj
      cases e
      rw [Addr.add_lit, cell_al hlt, hc]
      simpa [ints, hj] using hu
    · intro u hu
      simp only [ints, List.mem_map] at hu
      obtain ⟨x, _, rfl⟩ := hu
      rfl
    · simp [maxLen]; omega
    · omega
    · simp
    · intro v' w' h1 h2 h4
      replace h1 := Lib.hid h1
      replace h2 := Lib.hid h2
      clear h4
      go_wp2_with fail
      go_ret
      have h5 := h1.out
      exact ⟨_, rfl, by simpa using h5, (below_al (Below.refl _ _) _).grown h2.out (by simp) (fun k hk => by cases hk; simp)⟩
end Go.Proofs.Ytagmdljdcnmpdaa
