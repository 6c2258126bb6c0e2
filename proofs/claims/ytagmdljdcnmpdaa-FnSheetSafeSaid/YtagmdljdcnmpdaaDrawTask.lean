import Derived.Test.YtagmdljdcnmpdaaDraw
set_option linter.unusedVariables false
set_option linter.unusedSimpArgs false
namespace Go.Proofs.Ytagmdljdcnmpdaa
open Go Go.RowKit

set_option maxHeartbeats 1000000 in
theorem task_zero (R : RdEnv) (hR : R.Good) (G : Rows) (p : Nat) (hp : p + 3 ≤ 1000000) (below : Int) (w : World) (h : RdAt R p w) (hG : TyH R.g R.B G w) :
    Calls Try.prog 93 #[.pointer (some ⟨R.g, 0, none⟩), .int .i64 below, .int .i64 0] w (DrawT R G p 3 0 w) := by
  have hs := DSt.start h hG
  have h1 := pick_calls R hR p (by omega) 9 _ hs.rd
  replace h1 := Lib.hid h1
  replace hs := Lib.hid hs
  clear h hG
  go_enter Try.func93, Try.ntmps93
  go_wp2_with fail
  refine h1.out.mono ?_
  rintro e w1 ⟨k, rfl, hk0, hk1, hr, ht⟩
  have hk1 : k < 9 := by omega
  have hs1 := hs.out.step hr ht
  have h2 := pick_calls R hR (p + 1) (by omega) 97 w1 hr
  have h3 := l91Key_calls R hR (p + 1) (by omega) below w1 hr
  replace hs1 := Lib.hid hs1
  replace h2 := Lib.hid h2
  replace h3 := Lib.hid h3
  clear hs h1 hr ht
  by_cases c1 : k % 2 = 0 ∨ below = 0
  · have arm : ∀ (K : Prop), ((k % 2 == 0) = true → K) → ((k % 2 == 0) = false → (below == 0) = true → K) → K := by
      intro K a b
      by_cases c2 : k % 2 = 0
      · exact a (by simp [c2])
      · exact b (by simp [c2]) (by simp; omega)
    refine arm _ (fun e1 => ?_) (fun e1 e2 => ?_) <;>
    · go_wp2_with fail
      refine h2.out.mono ?_
      rintro e w2 ⟨n, rfl, _, _, hr2, ht2⟩
      have hs2 := hs1.out.step hr2 ht2
      obtain ⟨x0, x1, x2, f0, f1, f2⟩ := hs2.cells
      have z2 := hs2.lt
      replace hs2 := Lib.hid hs2
      clear h2 h3 hr2 ht2
      go_wp2_with fail
      exact hs2.out.done rfl rfl (tyv_leaf _ _ _ _ (by omega)) ⟨by omega, by omega⟩
  · have e1 : (k % 2 == 0) = false := by simp; omega
    have e2 : (below == 0) = false := by simp; omega
    go_wp2_with fail
    refine h3.out.mono ?_
    rintro e w2 ⟨p2, n, rfl, hp1, hp2, hr2, ht2⟩
    have hs2 := hs1.out.step hr2 ht2
    obtain ⟨x0, x1, x2, f0, f1, f2⟩ := hs2.cells
    have z2 := hs2.lt
    replace hs2 := Lib.hid hs2
    clear h2 h3 hr2 ht2
    go_wp2_with fail
    exact hs2.out.done rfl rfl (tyv_leaf _ _ _ _ (by omega)) ⟨by omega, by omega⟩

/-- draws of tasks, so deep -/
def TaskDraws (R : RdEnv) (D : Int) (c r : Nat) : Prop := ∀ (G : Rows) (p : Nat) (below : Int) (w : World), p + c ≤ 1000000 → RdAt R p w → TyH R.g R.B G w →
    Calls Try.prog 93 #[.pointer (some ⟨R.g, 0, none⟩), .int .i64 below, .int .i64 D] w (DrawT R G p c r w)

set_option maxHeartbeats 2000000 in
theorem task_succ (R : RdEnv) (hR : R.Good) (D : Int) (c r : Nat) (hD : 1 ≤ D) (hD3 : D ≤ 3) (hc : 3 ≤ c) (ih : TaskDraws R (D - 1) c r) : TaskDraws R D (3 * c + 3) (r + 1) := by
  intro G p below w hp h hG
  have hs := DSt.start h hG
  have h1 := pick_calls R hR p (by omega) 9 _ hs.rd
  have e0 : (D == 0) = false := by simp; omega
  replace h1 := Lib.hid h1
  replace hs := Lib.hid hs
  replace ih := Lib.hid ih
  clear h hG
  go_enter Try.func93, Try.ntmps93
  go_wp2_with fail
  refine h1.out.mono ?_
  rintro e w1 ⟨k, rfl, hk0, hk1, hr, ht⟩
  have hk1 : k < 9 := by omega
  have hs1 := hs.out.step hr ht
  replace hs1 := Lib.hid hs1
  clear hs h1 hr ht
  by_cases c1 : k < 3
  · have h2 := pick_calls R hR (p + 1) (by omega) 97 w1 hs1.out.rd
    have h3 := l91Key_calls R hR (p + 1) (by omega) below w1 hs1.out.rd
    replace h2 := Lib.hid h2
    replace h3 := Lib.hid h3
    by_cases c1 : k % 2 = 0 ∨ below = 0
    · have arm : ∀ (K : Prop), ((k % 2 == 0) = true → K) → ((k % 2 == 0) = false → (below == 0) = true → K) → K := by
        intro K a b
        by_cases c2 : k % 2 = 0
        · exact a (by simp [c2])
        · exact b (by simp [c2]) (by simp; omega)
      refine arm _ (fun e1 => ?_) (fun e1 e2 => ?_) <;>
      · go_wp2_with fail
        refine h2.out.mono ?_
        rintro e w2 ⟨n, rfl, _, _, hr2, ht2⟩
        have hs2 := hs1.out.step hr2 ht2
        obtain ⟨x0, x1, x2, f0, f1, f2⟩ := hs2.cells
        have z2 := hs2.lt
        replace hs2 := Lib.hid hs2
        clear h2 h3 hr2 ht2
        go_wp2_with fail
        exact hs2.out.done rfl rfl (tyv_leaf _ _ _ _ (by omega)) ⟨by omega, by omega⟩
    · have e1 : (k % 2 == 0) = false := by simp; omega
      have e2 : (below == 0) = false := by simp; omega
      go_wp2_with fail
      refine h3.out.mono ?_
      rintro e w2 ⟨p2, n, rfl, hp1, hp2, hr2, ht2⟩
      have hs2 := hs1.out.step hr2 ht2
      obtain ⟨x0, x1, x2, f0, f1, f2⟩ := hs2.cells
      have z2 := hs2.lt
      replace hs2 := Lib.hid hs2
      clear h2 h3 hr2 ht2
      go_wp2_with fail
      exact hs2.out.done rfl rfl (tyv_leaf _ _ _ _ (by omega)) ⟨by omega, by omega⟩
  by_cases c2 : k < 5
  · have hd1 := ih.out G (p + 1) below w1 (by omega) hs1.out.rd hs1.out.ty
    replace hd1 := Lib.hid hd1
    go_wp2_with fail
    refine hd1.out.mono ?_
    rintro e W1 ⟨q1, G1, v1, rfl, hv1, hq1, hQ1, hr1, ht1, he1, hy1⟩
    have hs2 := hs1.out.draw hr1 ht1 he1 hy1
    replace hs2 := Lib.hid hs2
    have hv1' := hv1
    obtain ⟨a1, b1, A1, m1, d1, rfl, _⟩ := hv1'
    clear hr1 ht1 hy1 hd1
    replace hv1 := Lib.hid hv1
    replace he1 := Lib.hid he1
    have hd2 := ih.out G1 (q1) below W1 (by omega) hs2.out.rd hs2.out.ty
    replace hd2 := Lib.hid hd2
    go_wp2_with fail
    refine hd2.out.mono ?_
    rintro e W2 ⟨q2, G2, v2, rfl, hv2, hq2, hQ2, hr2, ht2, he2, hy2⟩
    have hs3 := hs2.out.draw hr2 ht2 he2 hy2
    replace hs3 := Lib.hid hs3
    have hv2' := hv2
    obtain ⟨a2, b2, A2, m2, d2, rfl, _⟩ := hv2'
    clear hr2 ht2 hy2 hd2
    replace hv2 := Lib.hid hv2
    replace he2 := Lib.hid he2
    have hs' := hs3.out.row r 2 #[.int .i64 a1, .int .i64 b1, .slice A1 m1 d1, .int .i64 a2, .int .i64 b2, .slice A2 m2 d2] (row2 (hv1.out.ext he2.out (Nat.le_refl _)) hv2.out)
    obtain ⟨x0, x1, x2, f0, f1, f2⟩ := hs3.out.cells
    have z2 := hs3.out.lt
    replace hs' := Lib.hid hs'
    clear hs2 hs3 hv1 he1 hv2 he2 ih
    go_wp2_with fail
    exact hs'.out.done' z2 rfl rfl (tyv_row _ _ _ 2 2 _ (by omega) (by omega)) ⟨by omega, by omega⟩
  by_cases c3 : k = 5
  · subst c3
    have hd1 := ih.out G (p + 1) below w1 (by omega) hs1.out.rd hs1.out.ty
    replace hd1 := Lib.hid hd1
    go_wp2_with fail
    refine hd1.out.mono ?_
    rintro e W1 ⟨q1, G1, v1, rfl, hv1, hq1, hQ1, hr1, ht1, he1, hy1⟩
    have hs2 := hs1.out.draw hr1 ht1 he1 hy1
    replace hs2 := Lib.hid hs2
    have hv1' := hv1
    obtain ⟨a1, b1, A1, m1, d1, rfl, _⟩ := hv1'
    clear hr1 ht1 hy1 hd1
    replace hv1 := Lib.hid hv1
    replace he1 := Lib.hid he1
    have hd2 := ih.out G1 (q1) below W1 (by omega) hs2.out.rd hs2.out.ty
    replace hd2 := Lib.hid hd2
    go_wp2_with fail
    refine hd2.out.mono ?_
    rintro e W2 ⟨q2, G2, v2, rfl, hv2, hq2, hQ2, hr2, ht2, he2, hy2⟩
    have hs3 := hs2.out.draw hr2 ht2 he2 hy2
    replace hs3 := Lib.hid hs3
    have hv2' := hv2
    obtain ⟨a2, b2, A2, m2, d2, rfl, _⟩ := hv2'
    clear hr2 ht2 hy2 hd2
    replace hv2 := Lib.hid hv2
    replace he2 := Lib.hid he2
    have hs' := hs3.out.row r 2 #[.int .i64 a1, .int .i64 b1, .slice A1 m1 d1, .int .i64 a2, .int .i64 b2, .slice A2 m2 d2] (row2 (hv1.out.ext he2.out (Nat.le_refl _)) hv2.out)
    obtain ⟨x0, x1, x2, f0, f1, f2⟩ := hs3.out.cells
    have z2 := hs3.out.lt
    replace hs' := Lib.hid hs'
    clear hs2 hs3 hv1 he1 hv2 he2 ih
    go_wp2_with fail
    exact hs'.out.done' z2 rfl rfl (tyv_row _ _ _ 2 3 _ (by omega) (by omega)) ⟨by omega, by omega⟩
  have e3 : (k == 5) = false := by simp [c3]
  by_cases c4 : k < 8
  · have hd1 := ih.out G (p + 1) below w1 (by omega) hs1.out.rd hs1.out.ty
    replace hd1 := Lib.hid hd1
    go_wp2_with fail
    refine hd1.out.mono ?_
    rintro e W1 ⟨q1, G1, v1, rfl, hv1, hq1, hQ1, hr1, ht1, he1, hy1⟩
    have hs2 := hs1.out.draw hr1 ht1 he1 hy1
    replace hs2 := Lib.hid hs2
    have hv1' := hv1
    obtain ⟨a1, b1, A1, m1, d1, rfl, _⟩ := hv1'
    clear hr1 ht1 hy1 hd1
    replace hv1 := Lib.hid hv1
    replace he1 := Lib.hid he1
    have hd2 := ih.out G1 (q1) below W1 (by omega) hs2.out.rd hs2.out.ty
    replace hd2 := Lib.hid hd2
    go_wp2_with fail
    refine hd2.out.mono ?_
    rintro e W2 ⟨q2, G2, v2, rfl, hv2, hq2, hQ2, hr2, ht2, he2, hy2⟩
    have hs3 := hs2.out.draw hr2 ht2 he2 hy2
    have hsz2 := ht2.size
    replace hs3 := Lib.hid hs3
    have hv2' := hv2
    obtain ⟨a2, b2, A2, m2, d2, rfl, _⟩ := hv2'
    clear hr2 ht2 hy2 hd2
    replace hv2 := Lib.hid hv2
    replace he2 := Lib.hid he2
    have hd3 := ih.out G2 (q2) below W2 (by omega) hs3.out.rd hs3.out.ty
    replace hd3 := Lib.hid hd3
    go_wp2_with fail
    refine hd3.out.mono ?_
    rintro e W3 ⟨q3, G3, v3, rfl, hv3, hq3, hQ3, hr3, ht3, he3, hy3⟩
    have hs4 := hs3.out.draw hr3 ht3 he3 hy3
    replace hs4 := Lib.hid hs4
    have hv3' := hv3
    obtain ⟨a3, b3, A3, m3, d3, rfl, _⟩ := hv3'
    clear hr3 ht3 hy3 hd3
    replace hv3 := Lib.hid hv3
    replace he3 := Lib.hid he3
    have hr_le1 : W1.heap.size ≤ W2.heap.size := hsz2
    have hs' := hs4.out.row r 3 #[.int .i64 a1, .int .i64 b1, .slice A1 m1 d1, .int .i64 a2, .int .i64 b2, .slice A2 m2 d2, .int .i64 a3, .int .i64 b3, .slice A3 m3 d3] (row3 (hv1.out.ext (he2.out.trans he3.out (by have := hr_le1; omega)) (Nat.le_refl _)) (hv2.out.ext he3.out (Nat.le_refl _)) hv3.out)
    obtain ⟨x0, x1, x2, f0, f1, f2⟩ := hs4.out.cells
    have z2 := hs4.out.lt
    replace hs' := Lib.hid hs'
    clear hs2 hs3 hs4 hv1 he1 hv2 he2 hv3 he3 ih
    go_wp2_with fail
    exact hs'.out.done' z2 rfl rfl (tyv_row _ _ _ 3 4 _ (by omega) (by omega)) ⟨by omega, by omega⟩
  have hpk := pick_calls R hR (p + 1) (by omega) 3 w1 hs1.out.rd
  replace hpk := Lib.hid hpk
  go_wp2_with fail
  refine hpk.out.mono ?_
  rintro e w2 ⟨k2, rfl, hk2, _, hr2, ht2⟩
  have hs0 := hs1.out.step hr2 ht2
  replace hs0 := Lib.hid hs0
  clear hpk hr2 ht2 hs1
  by_cases c5 : 0 < k2
  · have hd1 := ih.out G (p + 1 + 1) below w2 (by omega) hs0.out.rd hs0.out.ty
    replace hd1 := Lib.hid hd1
    go_wp2_with fail
    refine hd1.out.mono ?_
    rintro e W1 ⟨q1, G1, v1, rfl, hv1, hq1, hQ1, hr1, ht1, he1, hy1⟩
    have hs2 := hs0.out.draw hr1 ht1 he1 hy1
    replace hs2 := Lib.hid hs2
    have hv1' := hv1
    obtain ⟨a1, b1, A1, m1, d1, rfl, _⟩ := hv1'
    clear hr1 ht1 hy1 hd1
    replace hv1 := Lib.hid hv1
    replace he1 := Lib.hid he1
    have hd2 := ih.out G1 (q1) below W1 (by omega) hs2.out.rd hs2.out.ty
    replace hd2 := Lib.hid hd2
    go_wp2_with fail
    refine hd2.out.mono ?_
    rintro e W2 ⟨q2, G2, v2, rfl, hv2, hq2, hQ2, hr2, ht2, he2, hy2⟩
    have hs3 := hs2.out.draw hr2 ht2 he2 hy2
    have hsz2 := ht2.size
    replace hs3 := Lib.hid hs3
    have hv2' := hv2
    obtain ⟨a2, b2, A2, m2, d2, rfl, _⟩ := hv2'
    clear hr2 ht2 hy2 hd2
    replace hv2 := Lib.hid hv2
    replace he2 := Lib.hid he2
    have hd3 := ih.out G2 (q2) below W2 (by omega) hs3.out.rd hs3.out.ty
    replace hd3 := Lib.hid hd3
    go_wp2_with fail
    refine hd3.out.mono ?_
    rintro e W3 ⟨q3, G3, v3, rfl, hv3, hq3, hQ3, hr3, ht3, he3, hy3⟩
    have hs4 := hs3.out.draw hr3 ht3 he3 hy3
    replace hs4 := Lib.hid hs4
    have hv3' := hv3
    obtain ⟨a3, b3, A3, m3, d3, rfl, _⟩ := hv3'
    clear hr3 ht3 hy3 hd3
    replace hv3 := Lib.hid hv3
    replace he3 := Lib.hid he3
    have hr_le1 : W1.heap.size ≤ W2.heap.size := hsz2
    have hs' := hs4.out.row r 3 #[.int .i64 a1, .int .i64 b1, .slice A1 m1 d1, .int .i64 a2, .int .i64 b2, .slice A2 m2 d2, .int .i64 a3, .int .i64 b3, .slice A3 m3 d3] (row3 (hv1.out.ext (he2.out.trans he3.out (by have := hr_le1; omega)) (Nat.le_refl _)) (hv2.out.ext he3.out (Nat.le_refl _)) hv3.out)
    obtain ⟨x0, x1, x2, f0, f1, f2⟩ := hs4.out.cells
    have z2 := hs4.out.lt
    replace hs' := Lib.hid hs'
    clear hs2 hs3 hs4 hv1 he1 hv2 he2 hv3 he3 ih
    go_wp2_with fail
    exact hs'.out.done' z2 rfl rfl (tyv_row _ _ _ 3 4 _ (by omega) (by omega)) ⟨by omega, by omega⟩
  · have hpk := pick_calls R hR (p + 1 + 1) (by omega) 10 w2 hs0.out.rd
    replace hpk := Lib.hid hpk
    go_wp2_with fail
    refine hpk.out.mono ?_
    rintro e w3 ⟨k3, rfl, hk3, _, hr2, ht2⟩
    have hs1 := hs0.out.step hr2 ht2
    replace hs1 := Lib.hid hs1
    clear hpk hr2 ht2 hs0
    have hd1 := ih.out G (p + 1 + 1 + 1) below w3 (by omega) hs1.out.rd hs1.out.ty
    replace hd1 := Lib.hid hd1
    go_wp2_with fail
    refine hd1.out.mono ?_
    rintro e W1 ⟨q1, G1, v1, rfl, hv1, hq1, hQ1, hr1, ht1, he1, hy1⟩
    have hs2 := hs1.out.draw hr1 ht1 he1 hy1
    replace hs2 := Lib.hid hs2
    have hv1' := hv1
    obtain ⟨a1, b1, A1, m1, d1, rfl, _⟩ := hv1'
    clear hr1 ht1 hy1 hd1
    replace hv1 := Lib.hid hv1
    replace he1 := Lib.hid he1
    have hs' := hs2.out.row r 1 #[.int .i64 a1, .int .i64 b1, .slice A1 m1 d1] (row1 hv1.out)
    obtain ⟨x0, x1, x2, f0, f1, f2⟩ := hs2.out.cells
    have z2 := hs2.out.lt
    replace hs' := Lib.hid hs'
    clear hs2 hv1 he1 ih
    go_wp2_with fail
    exact hs'.out.done' z2 rfl rfl (tyv_row _ _ _ 1 5 _ (by omega) (by omega)) ⟨by omega, by omega⟩
end Go.Proofs.Ytagmdljdcnmpdaa
