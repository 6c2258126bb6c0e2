import Derived.Test.YtkbblekengdhaaaPk2Told
import Derived.Test.YtkbblekengdhaaaPk3Told
import Derived.Test.YtkbblekengdhaaaPk4Told
import Derived.Test.YtkbblekengdhaaaPk8Told
set_option linter.unusedVariables false
set_option linter.unusedSimpArgs false
namespace Go.Proofs.Ytkbblekengdhaaa
open Go Go.RowKit

set_option maxHeartbeats 1000000 in
theorem task_zero (R : RdEnv) (hR : R.Good) (G : Rows) (p : Nat) (hp : p + 3 ≤ 1000000) (below : Int) (w : World) (h : RdAt R p w) (hG : TyH R.g R.B G w) :
    Calls Try.prog 110 #[.pointer (some ⟨R.g, 0, none⟩), .int .i64 below, .int .i64 0] w (DrawT R G p 3 0 w) := by
  have hs := DSt.start h hG
  have h1 := pick_calls R hR p (by omega) 9 _ hs.rd
  replace h1 := Lib.hid h1
  replace hs := Lib.hid hs
  clear h hG
  go_enter Try.func110, Try.ntmps110
  go_wp2_with fail
  refine h1.out.mono ?_
  rintro e w1 ⟨k, rfl, hk0, hk1, hr, ht⟩
  have hk1 : k < 9 := by omega
  have hs1 := hs.out.step hr ht
  have h2 := pick_calls R hR (p + 1) (by omega) 97 w1 hr
  have h3 := l91Key_calls R hR (p + 1) (by omega) below w1 hr
  replace hs1 := Lib.hid hs1
  replace h2 := Lib.hid h2
  replace h3 := Lib.hid h3
  clear hs h1 hr ht
  by_cases c1 : k % 2 = 0 ∨ below = 0
  · have arm : ∀ (K : Prop), ((k % 2 == 0) = true → K) → ((k % 2 == 0) = false → (below == 0) = true → K) → K := by
      intro K a b
      by_cases c2 : k % 2 = 0
      · exact a (by simp [c2])
      · exact b (by simp [c2]) (by simp; omega)
    refine arm _ (fun e1 => ?_) (fun e1 e2 => ?_) <;>
    · go_wp2_with fail
      refine h2.out.mono ?_
      rintro e w2 ⟨n, rfl, _, _, hr2, ht2⟩
      have hs2 := hs1.out.step hr2 ht2
      obtain ⟨x0, x1, x2, f0, f1, f2⟩ := hs2.cells
      have z2 := hs2.lt
      replace hs2 := Lib.hid hs2
      clear h2 h3 hr2 ht2
      go_wp2_with fail
      exact hs2.out.done rfl rfl (tyv_leaf _ _ _ _ (by omega)) ⟨by omega, by omega⟩
  · have e1 : (k % 2 == 0) = false := by simp; omega
    have e2 : (below == 0) = false := by simp; omega
    go_wp2_with fail
    refine h3.out.mono ?_
    rintro e w2 ⟨p2, n, rfl, hp1, hp2, hr2, ht2⟩
    have hs2 := hs1.out.step hr2 ht2
    obtain ⟨x0, x1, x2, f0, f1, f2⟩ := hs2.cells
    have z2 := hs2.lt
    replace hs2 := Lib.hid hs2
    clear h2 h3 hr2 ht2
    go_wp2_with fail
    exact hs2.out.done rfl rfl (tyv_leaf _ _ _ _ (by omega)) ⟨by omega, by omega⟩

/-- draws of tasks, so deep -/
def TaskDraws (R : RdEnv) (D : Int) (c r : Nat) : Prop := ∀ (G : Rows) (p : Nat) (below : Int) (w : World), p + c ≤ 1000000 → RdAt R p w → TyH R.g R.B G w →
    Calls Try.prog 110 #[.pointer (some ⟨R.g, 0, none⟩), .int .i64 below, .int .i64 D] w (DrawT R G p c r w)

set_option maxHeartbeats 2000000 in
theorem task_succ (R : RdEnv) (hR : R.Good) (D : Int) (c r : Nat) (hD : 1 ≤ D) (hD3 : D ≤ 3) (hc : 3 ≤ c) (ih : TaskDraws R (D - 1) c r) : TaskDraws R D (3 * c + 3) (r + 1) := by
  intro G p below w hp h hG
  have hs := DSt.start h hG
  have h1 := pick_calls R hR p (by omega) 9 _ hs.rd
  have e0 : (D == 0) = false := by simp; omega
  replace h1 := Lib.hid h1
  replace hs := Lib.hid hs
  replace ih := Lib.hid ih
  clear h hG
  go_enter Try.func110, Try.ntmps110
  go_wp2_with fail
  refine h1.out.mono ?_
  rintro e w1 ⟨k, rfl, hk0, hk1, hr, ht⟩
  have hk1 : k < 9 := by omega
  have hs1 := hs.out.step hr ht
  replace hs1 := Lib.hid hs1
  clear hs h1 hr ht
  by_cases c1 : k < 3
  · have h2 := pick_calls R hR (p + 1) (by omega) 97 w1 hs1.out.rd
    have h3 := l91Key_calls R hR (p + 1) (by omega) below w1 hs1.out.rd
    replace h2 := Lib.hid h2
    replace h3 := Lib.hid h3
    by_cases c1 : k % 2 = 0 ∨ below = 0
    · have arm : ∀ (K : Prop), ((k % 2 == 0) = true → K) → ((k % 2 == 0) = false → (below == 0) = true → K) → K := by
        intro K a b
        by_cases c2 : k % 2 = 0
        · exact a (by simp [c2])
        · exact b (by simp [c2]) (by simp; omega)
      refine arm _ (fun e1 => ?_) (fun e1 e2 => ?_) <;>
      · go_wp2_with fail
        refine h2.out.mono ?_
        rintro e w2 ⟨n, rfl, _, _, hr2, ht2⟩
        have hs2 := hs1.out.step hr2 ht2
        obtain ⟨x0, x1, x2, f0, f1, f2⟩ := hs2.cells
        have z2 := hs2.lt
        replace hs2 := Lib.hid hs2
        clear h2 h3 hr2 ht2
        go_wp2_with fail
        exact hs2.out.done rfl rfl (tyv_leaf _ _ _ _ (by omega)) ⟨by omega, by omega⟩
    · have e1 : (k % 2 == 0) = false := by simp; omega
      have e2 : (below == 0) = false := by simp; omega
      go_wp2_with fail
      refine h3.out.mono ?_
      rintro e w2 ⟨p2, n, rfl, hp1, hp2, hr2, ht2⟩
      have hs2 := hs1.out.step hr2 ht2
      obtain ⟨x0, x1, x2, f0, f1, f2⟩ := hs2.cells
      have z2 := hs2.lt
      replace hs2 := Lib.hid hs2
      clear h2 h3 hr2 ht2
      go_wp2_with fail
      exact hs2.out.done rfl rfl (tyv_leaf _ _ _ _ (by omega)) ⟨by omega, by omega⟩
  by_cases c2 : k < 5
  · have hd1 := ih.out G (p + 1) below w1 (by omega) hs1.out.rd hs1.out.ty
    replace hd1 := Lib.hid hd1
    go_wp2_with fail
    refine hd1.out.mono ?_
    rintro e W1 ⟨q1, G1, v1, rfl, hv1, hq1, hQ1, hr1, ht1, he1, hy1⟩
    have hs2 := hs1.out.draw hr1 ht1 he1 hy1
    replace hs2 := Lib.hid hs2
    have hv1' := hv1
    obtain ⟨a1, b1, A1, m1, d1, rfl, _⟩ := hv1'
    clear hr1 ht1 hy1 hd1
    replace hv1 := Lib.hid hv1
    replace he1 := Lib.hid he1
    have hd2 := ih.out G1 (q1) below W1 (by omega) hs2.out.rd hs2.out.ty
    replace hd2 := Lib.hid hd2
    go_wp2_with fail
    refine hd2.out.mono ?_
    rintro e W2 ⟨q2, G2, v2, rfl, hv2, hq2, hQ2, hr2, ht2, he2, hy2⟩
    have hs3 := hs2.out.draw hr2 ht2 he2 hy2
    replace hs3 := Lib.hid hs3
    have hv2' := hv2
    obtain ⟨a2, b2, A2, m2, d2, rfl, _⟩ := hv2'
    clear hr2 ht2 hy2 hd2
    replace hv2 := Lib.hid hv2
    replace he2 := Lib.hid he2
    have hs' := hs3.out.row r 2 #[.int .i64 a1, .int .i64 b1, .slice A1 m1 d1, .int .i64 a2, .int .i64 b2, .slice A2 m2 d2] (row2 (hv1.out.ext he2.out (Nat.le_refl _)) hv2.out)
    obtain ⟨x0, x1, x2, f0, f1, f2⟩ := hs3.out.cells
    have z2 := hs3.out.lt
    replace hs' := Lib.hid hs'
    clear hs2 hs3 hv1 he1 hv2 he2 ih
    go_wp2_with fail
    exact hs'.out.done' z2 rfl rfl (tyv_row _ _ _ 2 2 _ (by omega) (by omega)) ⟨by omega, by omega⟩
  by_cases c3 : k = 5
  · subst c3
    have hd1 := ih.out G (p + 1) below w1 (by omega) hs1.out.rd hs1.out.ty
    replace hd1 := Lib.hid hd1
    go_wp2_with fail
    refine hd1.out.mono ?_
    rintro e W1 ⟨q1, G1, v1, rfl, hv1, hq1, hQ1, hr1, ht1, he1, hy1⟩
    have hs2 := hs1.out.draw hr1 ht1 he1 hy1
    replace hs2 := Lib.hid hs2
    have hv1' := hv1
    obtain ⟨a1, b1, A1, m1, d1, rfl, _⟩ := hv1'
    clear hr1 ht1 hy1 hd1
    replace hv1 := Lib.hid hv1
    replace he1 := Lib.hid he1
    have hd2 := ih.out G1 (q1) below W1 (by omega) hs2.out.rd hs2.out.ty
    replace hd2 := Lib.hid hd2
    go_wp2_with fail
    refine hd2.out.mono ?_
    rintro e W2 ⟨q2, G2, v2, rfl, hv2, hq2, hQ2, hr2, ht2, he2, hy2⟩
    have hs3 := hs2.out.draw hr2 ht2 he2 hy2
    replace hs3 := Lib.hid hs3
    have hv2' := hv2
    obtain ⟨a2, b2, A2, m2, d2, rfl, _⟩ := hv2'
    clear hr2 ht2 hy2 hd2
    replace hv2 := Lib.hid hv2
    replace he2 := Lib.hid he2
    have hs' := hs3.out.row r 2 #[.int .i64 a1, .int .i64 b1, .slice A1 m1 d1, .int .i64 a2, .int .i64 b2, .slice A2 m2 d2] (row2 (hv1.out.ext he2.out (Nat.le_refl _)) hv2.out)
    obtain ⟨x0, x1, x2, f0, f1, f2⟩ := hs3.out.cells
    have z2 := hs3.out.lt
    replace hs' := Lib.hid hs'
    clear hs2 hs3 hv1 he1 hv2 he2 ih
    go_wp2_with fail
    exact hs'.out.done' z2 rfl rfl (tyv_row _ _ _ 2 3 _ (by omega) (by omega)) ⟨by omega, by omega⟩
  have e3 : (k == 5) = false := by simp [c3]
  by_cases c4 : k < 8
  · have hd1 := ih.out G (p + 1) below w1 (by omega) hs1.out.rd hs1.out.ty
    replace hd1 := Lib.hid hd1
    go_wp2_with fail
    refine hd1.out.mono ?_
    rintro e W1 ⟨q1, G1, v1, rfl, hv1, hq1, hQ1, hr1, ht1, he1, hy1⟩
    have hs2 := hs1.out.draw hr1 ht1 he1 hy1
    replace hs2 := Lib.hid hs2
    have hv1' := hv1
    obtain ⟨a1, b1, A1, m1, d1, rfl, _⟩ := hv1'
    clear hr1 ht1 hy1 hd1
    replace hv1 := Lib.hid hv1
    replace he1 := Lib.hid he1
    have hd2 := ih.out G1 (q1) below W1 (by omega) hs2.out.rd hs2.out.ty
    replace hd2 := Lib.hid hd2
    go_wp2_with fail
    refine hd2.out.mono ?_
    rintro e W2 ⟨q2, G2, v2, rfl, hv2, hq2, hQ2, hr2, ht2, he2, hy2⟩
    have hs3 := hs2.out.draw hr2 ht2 he2 hy2
    have hsz2 := ht2.size
    replace hs3 := Lib.hid hs3
    have hv2' := hv2
    obtain ⟨a2, b2, A2, m2, d2, rfl, _⟩ := hv2'
    clear hr2 ht2 hy2 hd2
    replace hv2 := Lib.hid hv2
    replace he2 := Lib.hid he2
    have hd3 := ih.out G2 (q2) below W2 (by omega) hs3.out.rd hs3.out.ty
    replace hd3 := Lib.hid hd3
    go_wp2_with fail
    refine hd3.out.mono ?_
    rintro e W3 ⟨q3, G3, v3, rfl, hv3, hq3, hQ3, hr3, ht3, he3, hy3⟩
    have hs4 := hs3.out.draw hr3 ht3 he3 hy3
    replace hs4 := Lib.hid hs4
    have hv3' := hv3
    obtain ⟨a3, b3, A3, m3, d3, rfl, _⟩ := hv3'
    clear hr3 ht3 hy3 hd3
    replace hv3 := Lib.hid hv3
    replace he3 := Lib.hid he3
    have hr_le1 : W1.heap.size ≤ W2.heap.size := hsz2
    have hs' := hs4.out.row r 3 #[.int .i64 a1, .int .i64 b1, .slice A1 m1 d1, .int .i64 a2, .int .i64 b2, .slice A2 m2 d2, .int .i64 a3, .int .i64 b3, .slice A3 m3 d3] (row3 (hv1.out.ext (he2.out.trans he3.out (by have := hr_le1; omega)) (Nat.le_refl _)) (hv2.out.ext he3.out (Nat.le_refl _)) hv3.out)
    obtain ⟨x0, x1, x2, f0, f1, f2⟩ := hs4.out.cells
    have z2 := hs4.out.lt
    replace hs' := Lib.hid hs'
    clear hs2 hs3 hs4 hv1 he1 hv2 he2 hv3 he3 ih
    go_wp2_with fail
    exact hs'.out.done' z2 rfl rfl (tyv_row _ _ _ 3 4 _ (by omega) (by omega)) ⟨by omega, by omega⟩
  have hpk := pick_calls R hR (p + 1) (by omega) 3 w1 hs1.out.rd
  replace hpk := Lib.hid hpk
  go_wp2_with fail
  refine hpk.out.mono ?_
  rintro e w2 ⟨k2, rfl, hk2, _, hr2, ht2⟩
  have hs0 := hs1.out.step hr2 ht2
  replace hs0 := Lib.hid hs0
  clear hpk hr2 ht2 hs1
  by_cases c5 : 0 < k2
  · have hd1 := ih.out G (p + 1 + 1) below w2 (by omega) hs0.out.rd hs0.out.ty
    replace hd1 := Lib.hid hd1
    go_wp2_with fail
    refine hd1.out.mono ?_
    rintro e W1 ⟨q1, G1, v1, rfl, hv1, hq1, hQ1, hr1, ht1, he1, hy1⟩
    have hs2 := hs0.out.draw hr1 ht1 he1 hy1
    replace hs2 := Lib.hid hs2
    have hv1' := hv1
    obtain ⟨a1, b1, A1, m1, d1, rfl, _⟩ := hv1'
    clear hr1 ht1 hy1 hd1
    replace hv1 := Lib.hid hv1
    replace he1 := Lib.hid he1
    have hd2 := ih.out G1 (q1) below W1 (by omega) hs2.out.rd hs2.out.ty
    replace hd2 := Lib.hid hd2
    go_wp2_with fail
    refine hd2.out.mono ?_
    rintro e W2 ⟨q2, G2, v2, rfl, hv2, hq2, hQ2, hr2, ht2, he2, hy2⟩
    have hs3 := hs2.out.draw hr2 ht2 he2 hy2
    have hsz2 := ht2.size
    replace hs3 := Lib.hid hs3
    have hv2' := hv2
    obtain ⟨a2, b2, A2, m2, d2, rfl, _⟩ := hv2'
    clear hr2 ht2 hy2 hd2
    replace hv2 := Lib.hid hv2
    replace he2 := Lib.hid he2
    have hd3 := ih.out G2 (q2) below W2 (by omega) hs3.out.rd hs3.out.ty
    replace hd3 := Lib.hid hd3
    go_wp2_with fail
    refine hd3.out.mono ?_
    rintro e W3 ⟨q3, G3, v3, rfl, hv3, hq3, hQ3, hr3, ht3, he3, hy3⟩
    have hs4 := hs3.out.draw hr3 ht3 he3 hy3
    replace hs4 := Lib.hid hs4
    have hv3' := hv3
    obtain ⟨a3, b3, A3, m3, d3, rfl, _⟩ := hv3'
    clear hr3 ht3 hy3 hd3
    replace hv3 := Lib.hid hv3
    replace he3 := Lib.hid he3
    have hr_le1 : W1.heap.size ≤ W2.heap.size := hsz2
    have hs' := hs4.out.row r 3 #[.int .i64 a1, .int .i64 b1, .slice A1 m1 d1, .int .i64 a2, .int .i64 b2, .slice A2 m2 d2, .int .i64 a3, .int .i64 b3, .slice A3 m3 d3] (row3 (hv1.out.ext (he2.out.trans he3.out (by have := hr_le1; omega)) (Nat.le_refl _)) (hv2.out.ext he3.out (Nat.le_refl _)) hv3.out)
    obtain ⟨x0, x1, x2, f0, f1, f2⟩ := hs4.out.cells
    have z2 := hs4.out.lt
    replace hs' := Lib.hid hs'
    clear hs2 hs3 hs4 hv1 he1 hv2 he2 hv3 he3 ih
    go_wp2_with fail
    exact hs'.out.done' z2 rfl rfl (tyv_row _ _ _ 3 4 _ (by omega) (by omega)) ⟨by omega, by omega⟩
  · have hpk := pick_calls R hR (p + 1 + 1) (by omega) 10 w2 hs0.out.rd
    replace hpk := Lib.hid hpk
    go_wp2_with fail
    refine hpk.out.mono ?_
    rintro e w3 ⟨k3, rfl, hk3, _, hr2, ht2⟩
    have hs1 := hs0.out.step hr2 ht2
    replace hs1 := Lib.hid hs1
    clear hpk hr2 ht2 hs0
    have hd1 := ih.out G (p + 1 + 1 + 1) below w3 (by omega) hs1.out.rd hs1.out.ty
    replace hd1 := Lib.hid hd1
    go_wp2_with fail
    refine hd1.out.mono ?_
    rintro e W1 ⟨q1, G1, v1, rfl, hv1, hq1, hQ1, hr1, ht1, he1, hy1⟩
    have hs2 := hs1.out.draw hr1 ht1 he1 hy1
    replace hs2 := Lib.hid hs2
    have hv1' := hv1
    obtain ⟨a1, b1, A1, m1, d1, rfl, _⟩ := hv1'
    clear hr1 ht1 hy1 hd1
    replace hv1 := Lib.hid hv1
    replace he1 := Lib.hid he1
    have hs' := hs2.out.row r 1 #[.int .i64 a1, .int .i64 b1, .slice A1 m1 d1] (row1 hv1.out)
    obtain ⟨x0, x1, x2, f0, f1, f2⟩ := hs2.out.cells
    have z2 := hs2.out.lt
    replace hs' := Lib.hid hs'
    clear hs2 hv1 he1 ih
    go_wp2_with fail
    exact hs'.out.done' z2 rfl rfl (tyv_row _ _ _ 1 5 _ (by omega) (by omega)) ⟨by omega, by omega⟩
end Go.Proofs.Ytkbblekengdhaaa

set_option linter.unusedVariables false
set_option linter.unusedSimpArgs false
namespace Go.Proofs.Ytkbblekengdhaaa
open Go Go.RowKit

def dom (G : Rows) (b : Nat) : Prop := ∃ x, G b = some x
theorem TyH.put {g B : Nat} {G : Rows} {w : World} (h : TyH g B G w) {b r m i : Nat} {x y z : Value} (hb : G b = some (r, m)) (hi : i < m) (hv : TyV G r (.agg #[x, y, z])) :
    TyH g B G (((w.setCell ⟨b, i * 3, none⟩ x).setCell ⟨b, i * 3 + 1, none⟩ y).setCell ⟨b, i * 3 + 2, none⟩ z) := by
  intro b' r' m' hb'
  obtain ⟨h1, h2, cs, h3, h4⟩ := h b' r' m' hb'
  by_cases e : b' = b
  · subst e
    rw [hb] at hb'; cases hb'
    refine ⟨h1, h2, _, setCell_block (setCell_block (setCell_block h3 _ x) _ y) _ z, fun j hj => ?_⟩
    by_cases e : j = i
    · subst e
      obtain ⟨a, b, c, k1, k2, k3, _⟩ := h4 j hi
      have l1 := (Array.getElem?_eq_some_iff.1 k1).1
      have l2 := (Array.getElem?_eq_some_iff.1 k2).1
      have l3 := (Array.getElem?_eq_some_iff.1 k3).1
      exact ⟨x, y, z, by simp [Array.getElem?_setIfInBounds, l1], by simp [Array.getElem?_setIfInBounds, l2], by simp [Array.getElem?_setIfInBounds, l3], hv⟩
    · obtain ⟨a, b, c, k1, k2, k3, k4⟩ := h4 j hj
      refine ⟨a, b, c, ?_, ?_, ?_, k4⟩
      · rw [Array.getElem?_setIfInBounds_ne (by omega), Array.getElem?_setIfInBounds_ne (by omega), Array.getElem?_setIfInBounds_ne (by omega)]; exact k1
      · rw [Array.getElem?_setIfInBounds_ne (by omega), Array.getElem?_setIfInBounds_ne (by omega), Array.getElem?_setIfInBounds_ne (by omega)]; exact k2
      · rw [Array.getElem?_setIfInBounds_ne (by omega), Array.getElem?_setIfInBounds_ne (by omega), Array.getElem?_setIfInBounds_ne (by omega)]; exact k3
  · exact ⟨h1, h2, cs, (setCell_far e).trans ((setCell_far e).trans ((setCell_far e).trans h3)), h4⟩

/-- the worlds in a run of l91Lower: the task's box and the result's block are the next ones -/
structure LSt (g B : Nat) (G : Rows) (w : World) (a b c : Value) (wr : World) : Prop where
  ty : TyH g B G wr
  turn : Turn (dom G) (dom G) w wr
  box : wr.heap[w.heap.size]? = some (.cells #[a, b, c] 39 (0, 0))
  res : wr.heap[w.heap.size + 1]? = some (.cells #[.int .i64 0, .int .i64 0, .slice none 0 0] 39 (0, 0))
  old : ∀ i, dom G i → i < w.heap.size
section
variable {g B : Nat} {G : Rows} {w w1 w2 : World} {a b c : Value}
theorem LSt.start (h : TyH g B G w) (a b c : Value) : LSt g B G w a b c ((w.alloc (.cells #[a, b, c] 39 (0, 0))).alloc (.cells #[.int .i64 0, .int .i64 0, .slice none 0 0] 39 (0, 0))) :=
  ⟨(h.alloc _).alloc _, ((Turn.refl _ _).alloc _).alloc _, (heap_old (by simp)).trans (heap_new rfl), heap_new (by simp), fun i ⟨x, hx⟩ => h.lt hx⟩
theorem LSt.step (h : LSt g B G w a b c w1) (ty : TyH g B G w2) (t : Turn (dom G) (dom G) w1 w2) : LSt g B G w a b c w2 :=
  ⟨ty, h.turn.trans t, (t.block _ (block_lt h.box) (fun hd => by have := h.old _ hd; omega)).trans h.box, (t.block _ (block_lt h.res) (fun hd => by have := h.old _ hd; omega)).trans h.res, h.old⟩
theorem LSt.drew (h : LSt g B G w a b c w1) : LSt g B G w a b c w1.drew := h.step h.ty ((Turn.refl _ _).drew)
theorem LSt.put (h : LSt g B G w a b c w1) {p r m i : Nat} {x y z : Value} (hb : G p = some (r, m)) (hi : i < m) (hv : TyV G r (.agg #[x, y, z])) :
    LSt g B G w a b c (((w1.setCell ⟨p, i * 3, none⟩ x).setCell ⟨p, i * 3 + 1, none⟩ y).setCell ⟨p, i * 3 + 2, none⟩ z) :=
  h.step (h.ty.put hb hi hv) (((setCell_turn (F := dom G) ⟨_, hb⟩ x).trans (setCell_turn (F := dom G) ⟨_, hb⟩ y)).trans (setCell_turn (F := dom G) ⟨_, hb⟩ z))
theorem LSt.cells (h : LSt g B G w a b c w1) : w1.cell? ⟨w.heap.size, 0, none⟩ = some a ∧ w1.cell? ⟨w.heap.size, 1, none⟩ = some b ∧ w1.cell? ⟨w.heap.size, 2, none⟩ = some c ∧
    w1.cell? ⟨w.heap.size + 1, 0, none⟩ = some (.int .i64 0) ∧ w1.cell? ⟨w.heap.size + 1, 1, none⟩ = some (.int .i64 0) ∧ w1.cell? ⟨w.heap.size + 1, 2, none⟩ = some (.slice none 0 0) ∧
    w1.frozen? ⟨w.heap.size + 1, 0, none⟩ = false ∧ w1.frozen? ⟨w.heap.size + 1, 1, none⟩ = false ∧ w1.frozen? ⟨w.heap.size + 1, 2, none⟩ = false ∧ w.heap.size + 1 < w1.heap.size :=
  ⟨cellm h.box 0, cellm h.box 1, cellm h.box 2, cellm h.res 0, cellm h.res 1, cellm h.res 2, frozenm h.res 0, frozenm h.res 1, frozenm h.res 2, block_lt h.res⟩
/-- what a run of l91Lower brings -/
def Lowers (g B : Nat) (G : Rows) (r : Nat) (w : World) (e : Ending) (w' : World) : Prop := ∃ v', e = .returned v' ∧ TyV G r v' ∧ TyH g B G w' ∧ Turn (dom G) (dom G) w w'
theorem LSt.done (h : LSt g B G w a b c w1) {r : Nat} {x y z : Value} {fn : Func} {t : Nat} {tmps : Array Value} (hr : fn.results = #[.cell t 39])
    (ht : tmps.getD t undef = .pointer (some ⟨w.heap.size + 1, 0, none⟩)) (hv : TyV G r (.agg #[x, y, z])) :
    bodyPost Try.prog fn (Lowers g B G r w) .ret ⟨tmps, []⟩ (((w1.setCell ⟨w.heap.size + 1, 0, none⟩ x).setCell ⟨w.heap.size + 1, 1, none⟩ y).setCell ⟨w.heap.size + 1, 2, none⟩ z) := by
  have t3 : Turn (· = w.heap.size + 1) (· = w.heap.size + 1) w1 (((w1.setCell ⟨w.heap.size + 1, 0, none⟩ x).setCell ⟨w.heap.size + 1, 1, none⟩ y).setCell ⟨w.heap.size + 1, 2, none⟩ z) :=
    ((setCell_turn (F := (· = w.heap.size + 1)) rfl x).trans (setCell_turn (F := (· = w.heap.size + 1)) rfl y)).trans (setCell_turn (F := (· = w.heap.size + 1)) rfl z)
  refine ret_task hr ht ((setCell_block (setCell_block (setCell_block h.res 0 x) 1 y) 2 z).trans rfl) ⟨_, rfl, hv, h.ty.turn t3 (fun b q hq e => ?_), ?_⟩
  · cases e; have := h.old _ ⟨_, hq⟩; omega
  · exact ⟨t3.os.trans h.turn.os, t3.tape.trans h.turn.tape, t3.output.trans h.turn.output, Nat.le_trans h.turn.size t3.size, fun i hi hF => (t3.block i (Nat.lt_of_lt_of_le hi h.turn.size) (by intro e; omega)).trans (h.turn.block i hi hF), h.turn.fresh⟩
end

set_option maxHeartbeats 2000000 in
theorem l91Lower_calls (g B : Nat) (G : Rows) (k : Int) : ∀ (r : Nat) (v : Value) (w : World), TyV G r v → TyH g B G w →
    Calls Try.prog 72 #[v, .int .i64 k] w (Lowers g B G r w) := by
  intro r
  induction r using Nat.strongRecOn with
  | ind r ih =>
  intro v w hv h
  have hv' := hv
  obtain ⟨kd, n, A, m, c, rfl, hm3, hmc, hcm, hk5, hrow⟩ := hv'
  have hs := LSt.start h (.int .i64 kd) (.int .i64 n) (.slice A m c)
  unfold maxLen at hcm
  replace ih := Lib.hid ih
  replace hs := Lib.hid hs
  replace hv := Lib.hid hv
  clear h
  by_cases e5 : kd = 5
  · subst e5
    have hm1 := hk5 rfl
    obtain ⟨b, r', rfl, hG, hr'⟩ := hrow.resolve_left (by omega)
    obtain ⟨_, _, cs, hb, hi⟩ := hs.out.ty b r' m hG
    obtain ⟨x, y, z, c0, c1, c2, hx⟩ := hi 0 (by omega)
    have hcall := ih.out r' hr' _ _ hx hs.out.ty
    have hx' := hx
    obtain ⟨xk, xn, xA, xm, xc, ex, _⟩ := hx'
    simp only [Value.agg.injEq, Array.mk.injEq, List.cons.injEq, and_true] at ex
    obtain ⟨rfl, rfl, rfl⟩ := ex
    have y0 := (cellm hb 0).trans c0
    have y1 := (cellm hb 1).trans c1
    have y2 := (cellm hb 2).trans c2
    have hbl := hs.out.old _ ⟨_, hG⟩
    rw [cell_al (by simp; omega), cell_al hbl] at y0 y1 y2
    replace hcall := Lib.hid hcall
    replace hG := Lib.hid hG
    clear hb hi hx c0 c1 c2
    go_enter Try.func72, Try.ntmps72
    go_wp2_with fail
    refine hcall.out.mono ?_
    rintro e w1 ⟨v', rfl, hv1, hy1, ht1⟩
    have hs1 := hs.out.step hy1 ht1
    have hv2 := hv1.ext (Ext.refl G 0) (Nat.le_of_lt hr')
    obtain ⟨xk, xn, xA, xm, xc, rfl, _⟩ := hv1
    obtain ⟨-, -, -, x0, x1, x2, f0, f1, f2, z1⟩ := hs1.cells
    replace hs1 := Lib.hid hs1
    replace hv2 := Lib.hid hv2
    clear hcall hs hv hrow y0 y1 y2 hy1 ht1
    go_wp2_with fail
    exact hs1.out.done rfl rfl hv2.out
  · have e1 : (kd == 5) = false := by simp [e5]
    go_enter Try.func72, Try.ntmps72
    go_wp2_with fail
    go_loopw [5] (fun i wr => ∃ (j : Nat), j ≤ m ∧ i = .int .i64 j ∧ Hid (LSt g B G w (.int .i64 kd) (.int .i64 n) (.slice A m c) wr)) (fun i _ => m - (intOf i).toNat)
    case atStart => exact ⟨0, Nat.zero_le _, rfl, hs⟩
    case round =>
      obtain ⟨j, hj, rfl, hL⟩ := hrel
      obtain ⟨b0, b1, b2, x0, x1, x2, f0, f1, f2, z1⟩ := hL.out.cells
      by_cases hlt : j < m
      · obtain ⟨b, r', rfl, hG, hr'⟩ := hrow.resolve_left (by omega)
        obtain ⟨_, _, cs, hb, hi⟩ := hL.out.ty b r' m hG
        obtain ⟨x, y, z, c0, c1, c2, hx⟩ := hi j hlt
        have hx' := hx
        obtain ⟨xk, xn, xA, xm, xc, ex, _⟩ := hx'
        simp only [Value.agg.injEq, Array.mk.injEq, List.cons.injEq, and_true] at ex
        obtain ⟨rfl, rfl, rfl⟩ := ex
        have hcall := ih.out r' hr' _ _ hx hL.out.drew.ty
        have y0 := (cellm hb (j * 3)).trans c0
        have y1 := (cellm hb (j * 3 + 1)).trans c1
        have y2 := (cellm hb (j * 3 + 2)).trans c2
        have hbl := block_lt hb
        replace hcall := Lib.hid hcall
        replace hG := Lib.hid hG
        clear hb hi hx c0 c1 c2
        go_wp2_with fail
        go_region_law (go_simp; go_at_call 72; refine hcall.out.mono ?_; rintro e w2 ⟨v', rfl, hv1, hy1, ht1⟩; have hL2 := hL.out.drew.step hy1 ht1; have b2' := hL2.cells.2.2.1; have hst := fun x y z hv => hL2.put (i := j) (x := x) (y := y) (z := z) hG.out hlt hv; obtain ⟨_, _, cs2, hb2, hi2⟩ := hy1 b r' m hG.out; obtain ⟨x', y', z', c0, c1, c2, _⟩ := hi2 j hlt; have g0 := (cellm hb2 (j * 3)).trans c0; have g1 := (cellm hb2 (j * 3 + 1)).trans c1; have g2 := (cellm hb2 (j * 3 + 2)).trans c2; have k0 := frozenm hb2 (j * 3); have k1 := frozenm hb2 (j * 3 + 1); have k2 := frozenm hb2 (j * 3 + 2); have hv2 := hv1; obtain ⟨nk, nn, nA, nm, nc, rfl, _⟩ := hv2; have hst2 := hst _ _ _ hv1; replace hst2 := Lib.hid hst2; clear hst hL2 hb2 hi2 c0 c1 c2 hv1 hy1 ht1 y0 y1 y2)
        all_goals
          go_wp2_with fail
          go_roundw
          case rel => exact ⟨j + 1, by omega, by go_num, hst2⟩
          case measure => simp [intOf]; omega
      · have ej : j = m := by omega
        subst ej
        go_wp2_with fail
        exact hL.out.done rfl rfl hv.out
end Go.Proofs.Ytkbblekengdhaaa

set_option linter.unusedVariables false
set_option linter.unusedSimpArgs false
namespace Go.Proofs.Ytkbblekengdhaaa
open Go Go.RowKit

def nb : Nat → Int
  | 0 => 1
  | r + 1 => 1 + 3 * nb r
theorem nb_pos : ∀ r, 1 ≤ nb r
  | 0 => by simp [nb]
  | r + 1 => by have := nb_pos r; simp only [nb]; omega
theorem nb_le : ∀ {a b : Nat}, a ≤ b → nb a ≤ nb b := by
  intro a b h
  induction h with
  | refl => exact Int.le_refl _
  | step _ ih => simp only [nb]; have := nb_pos a; rename_i m _; have := nb_pos m; omega
theorem nodesL_le {x : Int} : ∀ {ps : List Task}, (∀ t ∈ ps, nodes t ≤ x) → nodesL ps ≤ ps.length * x := by
  intro ps
  induction ps with
  | nil => intro _; simp [nodesL]
  | cons t ts ih =>
    intro h
    rw [nodesL]
    have h1 := h t (by simp)
    have h2 := ih (fun u hu => h u (by simp [hu]))
    simp only [List.length_cons, Int.natCast_add, Int.add_mul]
    omega
theorem TyV.reads {g B : Nat} {G : Rows} {w : World} (h : TyH g B G w) : ∀ (r : Nat) (v : Value), TyV G r v → ∃ T, TaskIs w.heap.size w v T ∧ nodes T ≤ nb r := by
  intro r
  induction r using Nat.strongRecOn with
  | ind r ih =>
  intro v hv
  obtain ⟨k, n, A, m, c, rfl, hm3, hmc, hcm, hk5, hrow⟩ := hv
  rcases hrow with rfl | ⟨b, r', rfl, hG, hr'⟩
  · refine ⟨.mk k n [], ?_, ?_⟩
    · rw [TaskIs]
      exact ⟨A, c, rfl, by simp, hcm, by rw [PartsIs]; trivial⟩
    · have := nb_pos r
      simp [nodes, nodesL]; omega
  · obtain ⟨_, _, cs, hb, hi⟩ := h b r' m hG
    have h1 : ∀ i, ∃ T, i < m → ∃ x y z, cs[i * 3]? = some x ∧ cs[i * 3 + 1]? = some y ∧ cs[i * 3 + 2]? = some z ∧ TaskIs w.heap.size w (.agg #[x, y, z]) T ∧ nodes T ≤ nb r' := by
      intro i
      by_cases hlt : i < m
      · obtain ⟨x, y, z, c0, c1, c2, hx⟩ := hi i hlt
        obtain ⟨T, hT⟩ := ih r' hr' _ hx
        exact ⟨T, fun _ => ⟨x, y, z, c0, c1, c2, hT⟩⟩
      · exact ⟨default, fun hh => (hlt hh).elim⟩
    obtain ⟨f, hf⟩ := Classical.axiomOfChoice h1
    refine ⟨.mk k n ((List.range m).map f), ?_, ?_⟩
    · rw [TaskIs]
      refine ⟨some ⟨b, 0, none⟩, c, by simp, by simpa using hmc, hcm, PartsIs.of_get (fun i hl => ?_)⟩
      have hl' : i < m := by simpa using hl
      obtain ⟨x, y, z, c0, c1, c2, hT, _⟩ := hf i hl'
      exact ⟨b, 0, x, y, z, rfl, block_lt hb, by rw [cellm hb]; simpa using c0, by rw [cellm hb]; simpa using c1, by rw [cellm hb]; simpa using c2, by simpa using hT⟩
    · obtain ⟨q, rfl⟩ : ∃ q, r = q + 1 := ⟨r - 1, by omega⟩
      have h2 : ∀ t ∈ (List.range m).map f, nodes t ≤ nb q := by
        intro t ht
        obtain ⟨i, hi, rfl⟩ := List.mem_map.1 ht
        obtain ⟨_, _, _, _, _, _, _, hn⟩ := hf i (by simpa using hi)
        have := nb_le (show r' ≤ q by omega)
        omega
      have h3 := nodesL_le h2
      have h4 := nb_pos q
      have h5 : (m : Int) * nb q ≤ 3 * nb q := Int.mul_le_mul_of_nonneg_right (by omega) (by omega)
      simp only [List.length_map, List.length_range] at h3
      simp only [nodes, nb]
      omega

theorem task0 (R : RdEnv) (hR : R.Good) : TaskDraws R 0 3 0 := fun G p below w hp h hG => task_zero R hR G p hp below w h hG
theorem task1 (R : RdEnv) (hR : R.Good) : TaskDraws R 1 12 1 := task_succ R hR 1 3 0 (by omega) (by omega) (by omega) (task0 R hR)
theorem task2 (R : RdEnv) (hR : R.Good) : TaskDraws R 2 39 2 := task_succ R hR 2 12 1 (by omega) (by omega) (by omega) (task1 R hR)
theorem task3 (R : RdEnv) (hR : R.Good) : TaskDraws R 3 120 3 := task_succ R hR 3 39 2 (by omega) (by omega) (by omega) (task2 R hR)

theorem DSt.up {R : RdEnv} {G G1 : Rows} {w w1 w2 : World} {p1 : Nat} (h : DSt R G w G1 p1 w1) (hb : Below w1.heap.size w1 w2) : DSt R G w G1 p1 w2 :=
  h.step (h.rd.up hb) (below_turn hb)

set_option maxHeartbeats 1000000 in
theorem l91Fit_calls (R : RdEnv) (hR : R.Good) (G : Rows) (p : Nat) (hp : p + 40 ≤ 1000000) (below : Int) (w : World) (h : RdAt R p w) (hG : TyH R.g R.B G w) :
    Calls Try.prog 71 #[.pointer (some ⟨R.g, 0, none⟩), .int .i64 below] w (DrawT R G p 40 2 w) := by
  have hs := DSt.start h hG
  have h1 := task2 R hR G p below _ (by omega) hs.rd hs.ty
  replace h1 := Lib.hid h1
  replace hs := Lib.hid hs
  clear h hG
  go_enter Try.func71, Try.ntmps71
  go_wp2_with fail
  refine h1.out.mono ?_
  rintro e w1 ⟨q, G1, v, rfl, hv, hq, hQ, hr, ht, he, hy⟩
  have hs1 := hs.out.draw hr ht he hy
  have hv' := hv
  obtain ⟨a, b, A, m, d, rfl, _⟩ := hv'
  have hs2 := hs1.up (below_al (Below.refl _ _) (.cells #[.int .i64 a, .int .i64 b, .slice A m d] 39 (0, 0)))
  obtain ⟨T, hT, hn⟩ := TyV.reads hs2.ty 2 _ hv
  cases T with
  | mk k' n' ps =>
  rw [TaskIs] at hT
  obtain ⟨A', c', e, hc, hcm, hps⟩ := hT
  simp only [Value.agg.injEq, Array.mk.injEq, List.cons.injEq, and_true, Value.int.injEq, true_and, Value.slice.injEq] at e
  obtain ⟨rfl, rfl, rfl, rfl, rfl⟩ := e
  have hok := specTaskOk_calls (.mk a b ps) A d _ _ _ (by simp [nb] at hn; omega) (Below.refl _ _) (Nat.le_refl _) hc hcm hps
  simp only [Task.kind, Task.n, Task.parts] at hok
  generalize okT (.mk a b ps) = ok at hok
  have hz := hs1.lt
  replace hok := Lib.hid hok
  replace hs1 := Lib.hid hs1
  replace hs2 := Lib.hid hs2
  replace hv := Lib.hid hv
  clear hr ht he hy h1 hs hps hn hc
  go_wp2_with fail
  refine hok.out.mono ?_
  rintro e w2 ⟨rfl, hb⟩
  have hs3 := hs2.out.up hb
  have y0 : w2.cell? ⟨w1.heap.size, 0, none⟩ = some (.int .i64 a) := (hb.cell (p := ⟨w1.heap.size, 0, none⟩) (by simp)).trans (by simp)
  have y1 : w2.cell? ⟨w1.heap.size, 1, none⟩ = some (.int .i64 b) := (hb.cell (p := ⟨w1.heap.size, 1, none⟩) (by simp)).trans (by simp)
  have y2 : w2.cell? ⟨w1.heap.size, 2, none⟩ = some (.slice A ps.length d) := (hb.cell (p := ⟨w1.heap.size, 2, none⟩) (by simp)).trans (by simp)
  have hpk := pick_calls R hR q (by omega) 10 w2 hs3.rd
  obtain ⟨x0, x1, x2, f0, f1, f2⟩ := hs3.cells
  have z2 := hs3.lt
  replace hs3 := Lib.hid hs3
  replace hpk := Lib.hid hpk
  clear hb hok hs1 hs2
  cases ok with
  | true =>
    go_wp2_with fail
    exact hs3.out.done rfl rfl hv.out ⟨by omega, by omega⟩
  | false =>
    go_wp2_with fail
    refine hpk.out.mono ?_
    rintro e w3 ⟨n3, rfl, _, _, hr2, ht2⟩
    have hs4 := hs3.out.step hr2 ht2
    obtain ⟨x0, x1, x2, f0, f1, f2⟩ := hs4.cells
    have z3 := hs4.lt
    replace hs4 := Lib.hid hs4
    clear hr2 ht2 hs3 hpk y0 y1 y2
    go_wp2_with fail
    exact hs4.out.done rfl rfl (tyv_leaf _ _ _ _ (by omega)) ⟨by omega, by omega⟩
end Go.Proofs.Ytkbblekengdhaaa

set_option linter.unusedVariables false
set_option linter.unusedSimpArgs false
namespace Go.Proofs.Ytkbblekengdhaaa
open Go Go.RowKit

set_option maxHeartbeats 1000000 in
theorem l91Num_calls (R : RdEnv) (hR : R.Good) (p : Nat) (hp : p + 1 ≤ 1000000) (b c : Nat) (xs : List Int) (w : World) (h : RdAt R p w) (h1 : 1 ≤ xs.length) (hc : xs.length ≤ c) (hm : c ≤ 1000) (hb : b < w.heap.size) (hg : b ≠ R.g)
    (hx : ∀ i (hi : i < xs.length), w.cell? ⟨b, i, none⟩ = some (.int .i64 xs[i])) :
    Calls Try.prog 74 #[.pointer (some ⟨R.g, 0, none⟩), .slice (some ⟨b, 0, none⟩) xs.length c] w fun e w' => ∃ v, e = .returned (.int .i64 v) ∧ v ∈ xs ∧ RdAt R (p + 1) w' ∧ Turn (· = R.g) (· = R.g) w w' := by
  have hk := pick_calls R hR p (by omega) xs.length w h
  replace hk := Lib.hid hk
  replace hx := Lib.hid hx
  replace h := Lib.hid h
  go_enter Try.func74, Try.ntmps74
  go_wp2_with fail
  refine hk.out.mono ?_
  rintro e w1 ⟨v, rfl, hv0, hv1, hr, ht⟩
  obtain ⟨q, rfl⟩ := Int.eq_ofNat_of_zero_le hv0
  have hq : q < xs.length := by omega
  have y := (ht.cell q hb hg).trans (hx.out q hq)
  have hz : b < w1.heap.size := by have := ht.size; omega
  replace hr := Lib.hid hr
  replace ht := Lib.hid ht
  go_wp2_with fail
  go_ret
  exact ⟨xs[q], rfl, List.getElem_mem _, hr.out, ht.out⟩

/-- a row of numbers that grows while bytes are read; the sheet's box is the first new block -/
structure InSt (R : RdEnv) (w : World) (s1 s2 : Value) (p : Nat) (xs : List Int) (v : Value) (wr : World) : Prop where
  rd : RdAt R p wr
  turn : Turn (· = R.g) (· = R.g) w wr
  own : wr.ownsRow w.heap.size 3 1 v xs.length (ints xs)
  box : wr.heap[w.heap.size]? = some (.cells #[s1, s2] 26 (0, 0))
  glt : R.g < w.heap.size
  bw : R.B ≤ w.heap.size
section
variable {R : RdEnv} {w wr w2 : World} {s1 s2 v : Value} {p : Nat} {xs : List Int}
theorem InSt.step (h : InSt R w s1 s2 p xs v wr) {p2 : Nat} (rd : RdAt R p2 w2) (t : Turn (· = R.g) (· = R.g) wr w2) : InSt R w s1 s2 p2 xs v w2 :=
  ⟨rd, h.turn.trans t, ownsRow_block h.own (fun i hi => t.block i (h.own.lt i hi).2 (fun e => by have := (h.own.lt i hi).1; have := h.glt; omega)), (t.block _ (block_lt h.box) (fun e => by have := h.glt; omega)).trans h.box, h.glt, h.bw⟩
theorem InSt.alloc (h : InSt R w s1 s2 p xs v wr) (o : Obj) : InSt R w s1 s2 p xs v (wr.alloc o) :=
  h.step (h.rd.up (below_al (Below.refl _ _) o)) ((Turn.refl _ _).alloc o)
theorem InSt.ne (h : InSt R w s1 s2 p xs v wr) : v.ownBlock ≠ some w.heap.size := ownsRow_ne h.own h.box (fun c e => by cases e)
theorem InSt.app (h : InSt R w s1 s2 p xs v wr) {o : Obj} {x : Int} {v' : Value} (hg : (wr.alloc o).grownBy w2 v.ownBlock) (ho : w2.ownsRow w.heap.size 3 1 v' (xs.length + 1) (ints xs ++ [.int .i64 x])) :
    InSt R w s1 s2 p (xs ++ [x]) v' w2 := by
  have hlt := h.own.lt
  have hz : w.heap.size ≤ wr.heap.size := h.turn.size
  have hb : Below w.heap.size wr w2 := (below_al' (Below.refl _ _) o hz).grown hg (by simp; omega) (fun k hk => (hlt k hk).1)
  refine ⟨⟨(hb.block _ h.glt).trans h.rd.blk, h.rd.below.trans (hb.mono h.bw), Nat.le_trans h.rd.size hb.size⟩, ?_, ?_, (far_grown hg (block_lt h.box) h.ne).trans h.box, h.glt, h.bw⟩
  · exact ⟨hb.os.trans h.turn.os, hb.tape.trans h.turn.tape, hb.output.trans h.turn.output, Nat.le_trans hz hb.size, fun i hi hF => (hb.block i hi).trans (h.turn.block i hi hF), h.turn.fresh⟩
  · simpa [ints_append, ints] using ho
end
/-- what a draw of inputs brings -/
def DrawIn (R : RdEnv) (p c m : Nat) (w : World) (e : Ending) (w' : World) : Prop :=
  ∃ p' xs v, e = .returned v ∧ xs.length ≤ m ∧ p ≤ p' ∧ p' ≤ p + c ∧ RdAt R p' w' ∧ Turn (· = R.g) (· = R.g) w w' ∧ w'.ownsRow w.heap.size 3 1 v xs.length (ints xs)

set_option maxHeartbeats 2000000 in
theorem l91Inputs_calls (R : RdEnv) (hR : R.Good) (p : Nat) (hp : p + 100 ≤ 1000000) (Am At : Option Addr) (nm cm nt ct : Nat) (w : World) (h : RdAt R p w) (hn : nm ≤ 20) :
    Calls Try.prog 43 #[.pointer (some ⟨R.g, 0, none⟩), .agg #[.slice Am nm cm, .slice At nt ct]] w (DrawIn R p 100 (nm + 1) w) := by
  have hs : InSt R w (.slice Am nm cm) (.slice At nt ct) p [] (.slice (some ⟨w.heap.size + 1, 0, none⟩) 0 0) ((w.alloc (.cells #[.slice Am nm cm, .slice At nt ct] 26 (0, 0))).alloc (.cells #[] 3 (0, 0))) :=
    ⟨h.up (below_al (below_al (Below.refl _ _) _) _), ((Turn.refl _ _).alloc _).alloc _, by simpa [ints] using World.ownsRow_made (base := w.heap.size) (w.alloc (.cells #[.slice Am nm cm, .slice At nt ct] 26 (0, 0))) #[] 0 (by simp) (by simp [maxLen]) rfl, (heap_old (by simp)).trans (heap_new rfl), block_lt h.blk, h.size⟩
  have h1 := pick_calls R hR p (by omega) 2 _ hs.rd
  replace h1 := Lib.hid h1
  replace hs := Lib.hid hs
  clear h
  go_enter Try.func43, Try.ntmps43
  go_wp2_with fail
  refine h1.out.mono ?_
  rintro e w1 ⟨k, rfl, hk0, hk1, hr, ht⟩
  have hs1 := hs.out.step hr ht
  replace hs1 := Lib.hid hs1
  clear h1 hs hr ht
  go_wp2_with fail
  generalize (k == 0) = sm
  go_loopw [5, 7] (fun o i wr => ∃ (j : Nat) (xs : List Int) (p2 : Nat), j ≤ nm ∧ xs.length = j ∧ p2 ≤ p + 1 + 2 * j ∧ p ≤ p2 ∧ i = .int .i64 j ∧ Hid (InSt R w (.slice Am nm cm) (.slice At nt ct) p2 xs o wr)) (fun _ i _ => nm - (intOf i).toNat)
  case atStart => exact ⟨0, [], p + 1, Nat.zero_le _, rfl, by omega, by omega, rfl, hs1⟩
  case round =>
    obtain ⟨j, xs, p2, hj, hlen, hp2, hpp, rfl, hL⟩ := hrel
    have b0 : wr.cell? ⟨w.heap.size, 0, none⟩ = some (.slice Am nm cm) := cellm hL.out.box 0
    have hz := block_lt hL.out.box
    by_cases hlt : j < nm
    · have hc := pick_calls R hR p2 (by omega) 97 wr hL.out.rd
      replace hc := Lib.hid hc
      go_wp2_with fail
      refine hc.out.mono ?_
      rintro e w2 ⟨x, rfl, hx0, hx1, hr2, ht2⟩
      have hL2 := hL.out.step hr2 ht2
      clear hc hr2 ht2 hL b0 hz
      replace hL2 := Lib.hid hL2
      have fin : ∀ (x : Int) (p3 : Nat) (w3 : World), True := fun _ _ _ => trivial
      cases sm with
      | true =>
        have hc := pick_calls R hR (p2 + 1) (by omega) 3 w2 hL2.out.rd
        replace hc := Lib.hid hc
        go_wp2_with fail
        refine hc.out.mono ?_
        rintro e w3 ⟨x3, rfl, hx30, hx31, hr3, ht3⟩
        have hL3 := hL2.out.step hr3 ht3
        clear hc hr3 ht3 hL2
        replace hL3 := Lib.hid hL3
        go_wp2_with (at_builtin; go_loud (with_reducible refine wpList_app1 (by rfl) (.tmp 25) (.tmp 27) 28 (by rfl) intTy w.heap.size u5 xs.length (ints xs) (by with_unfolding_all rfl) (hL3.out.own.alloc _) w3.heap.size 1 [.int .i64 x3] (by with_unfolding_all rfl) (by with_unfolding_all rfl) ⟨_, _, heap_alloc_new w3 _, rfl⟩ (one_int _ _) ?_ ?_ ?_ ?_))
        · unfold maxLen; omega
        · omega
        · have := hL3.out.turn.size; simp; omega
        intro g cap w4 hown hgrow hat
        have hL4 := hL3.out.app (x := x3) (v' := .slice (some ⟨g, 0, none⟩) (j + 1) cap) hgrow (by rw [hlen]; exact hown)
        replace hL4 := Lib.hid hL4
        clear hown hgrow hat hL3
        go_wp2_with fail
        go_roundw
        case rel => exact ⟨j + 1, _, p2 + 1 + 1, by omega, by simp [hlen], by omega, by omega, by go_num, hL4⟩
        case measure => simp [intOf]; omega
      | false =>
        go_wp2_with (at_builtin; go_loud (with_reducible refine wpList_app1 (by rfl) (.tmp 25) (.tmp 27) 28 (by rfl) intTy w.heap.size u5 xs.length (ints xs) (by with_unfolding_all rfl) (hL2.out.own.alloc _) w2.heap.size 1 [.int .i64 x] (by with_unfolding_all rfl) (by with_unfolding_all rfl) ⟨_, _, heap_alloc_new w2 _, rfl⟩ (one_int _ _) ?_ ?_ ?_ ?_))
        · unfold maxLen; omega
        · omega
        · have := hL2.out.turn.size; simp; omega
        intro g cap w4 hown hgrow hat
        have hL4 := hL2.out.app (x := x) (v' := .slice (some ⟨g, 0, none⟩) (j + 1) cap) hgrow (by rw [hlen]; exact hown)
        replace hL4 := Lib.hid hL4
        clear hown hgrow hat hL2
        go_wp2_with fail
        go_roundw
        case rel => exact ⟨j + 1, _, p2 + 1, by omega, by simp [hlen], by omega, by omega, by go_num, hL4⟩
        case measure => simp [intOf]; omega
    · have hc := pick_calls R hR p2 (by omega) 25 wr hL.out.rd
      replace hc := Lib.hid hc
      go_wp2_with fail
      refine hc.out.mono ?_
      rintro e w2 ⟨x, rfl, hx0, hx1, hr2, ht2⟩
      have hL2 := hL.out.step hr2 ht2
      clear hc hr2 ht2 hL b0 hz
      replace hL2 := Lib.hid hL2
      by_cases hx : x = 0
      · subst hx
        have hL3 := hL2.out.alloc (.cells #[.int .i64 0, .int .i64 97, .int .i64 (-1)] 3 (0, 0))
        have hnum := l91Num_calls R hR (p2 + 1) (by omega) w2.heap.size 3 [0, 97, -1] _ hL3.rd (by simp) (by simp) (by omega) (by simp) (by have h1 := hL2.out.glt; have h2 := hL2.out.turn.size; omega)
          (by intro i hi; rw [cellm (heap_new rfl) i]; rcases (show i = 0 ∨ i = 1 ∨ i = 2 by simp at hi; omega) with rfl | rfl | rfl <;> rfl)
        replace hL3 := Lib.hid hL3
        replace hnum := Lib.hid hnum
        clear hL2
        go_wp2_with fail
        refine hnum.out.mono ?_
        rintro e w3 ⟨x3, rfl, _, hr3, ht3⟩
        have hL4 := hL3.out.step hr3 ht3
        replace hL4 := Lib.hid hL4
        clear hL3 hnum hr3 ht3
        go_wp2_with (at_builtin; go_loud (with_reducible refine wpList_app1 (by rfl) (.tmp 32) (.tmp 36) 28 (by rfl) intTy w.heap.size u5 xs.length (ints xs) (by with_unfolding_all rfl) (hL4.out.own.alloc _) w3.heap.size 1 [.int .i64 x3] (by with_unfolding_all rfl) (by with_unfolding_all rfl) ⟨_, _, heap_alloc_new w3 _, rfl⟩ (one_int _ _) ?_ ?_ ?_ ?_))
        · unfold maxLen; omega
        · omega
        · have := hL4.out.turn.size; simp; omega
        intro g cap w4 hown hgrow hat
        have hL5 := hL4.out.app (x := x3) (v' := .slice (some ⟨g, 0, none⟩) (j + 1) cap) hgrow (by rw [hlen]; exact hown)
        replace hL5 := Lib.hid hL5
        clear hown hgrow hat hL4
        go_wp2_with fail
        go_ret
        exact ⟨p2 + 1 + 1, xs ++ [x3], _, rfl, by simp; omega, by omega, by omega, hL5.out.rd, hL5.out.turn, hL5.out.own⟩
      · have hx' : (x == 0) = false := by simp [hx]
        go_wp2_with fail
        go_ret
        exact ⟨p2 + 1, xs, u5, rfl, by omega, by omega, by omega, hL2.out.rd, hL2.out.turn, hL2.out.own⟩
end Go.Proofs.Ytkbblekengdhaaa

set_option linter.unusedVariables false
set_option linter.unusedSimpArgs false
namespace Go.Proofs.Ytkbblekengdhaaa
open Go Go.RowKit

theorem boolTy : ElemTy Try.prog 23 4 (.bool false) 1 1 := ⟨Try.underlying23, by kernel_rfl, rfl, by omega⟩
theorem taskTy : ElemTy Try.prog 24 39 (.agg #[.int .i64 0, .int .i64 0, .slice none 0 0]) 3 40 := ⟨Try.underlying24, by kernel_rfl, rfl, by omega⟩

def bools (l : List Bool) : List Value := l.map fun b => Value.bool b
def cells3 (l : List (Value × Value × Value)) : List Value := l.flatMap fun t => [t.1, t.2.1, t.2.2]
theorem cells3_length (l : List (Value × Value × Value)) : (cells3 l).length = l.length * 3 := by
  induction l with
  | nil => rfl
  | cons t l ih => simp only [cells3, List.flatMap_cons, List.length_append, List.length_cons, List.length_nil] at *; omega
theorem cells3_get : ∀ (l : List (Value × Value × Value)) (i : Nat) (h : i < l.length), (cells3 l)[i * 3]? = some l[i].1 ∧ (cells3 l)[i * 3 + 1]? = some l[i].2.1 ∧ (cells3 l)[i * 3 + 2]? = some l[i].2.2 := by
  intro l
  induction l with
  | nil => intro i h; simp at h
  | cons t l ih =>
    intro i h
    cases i with
    | zero => exact ⟨rfl, rfl, rfl⟩
    | succ i =>
      have := ih i (by simpa using h)
      rw [show (i + 1) * 3 = i * 3 + 3 by omega, show i * 3 + 3 + 1 = i * 3 + 1 + 3 by omega, show i * 3 + 3 + 2 = i * 3 + 2 + 3 by omega]
      exact this

/-- a drawn sheet: two rows, and the rows of parts that G tells of, in blocks from lo on -/
structure Sht (g B lo : Nat) (G : Rows) (made : List Bool) (ts : List (Value × Value × Value)) (vm vt : Value) (w : World) : Prop where
  om : w.ownsRow lo 4 1 vm made.length (bools made)
  ot : w.ownsRow lo 39 3 vt ts.length (cells3 ts)
  ty : TyH g B G w
  tv : ∀ t ∈ ts, TyV G 2 (.agg #[t.1, t.2.1, t.2.2])
  sep : ∀ i x, vt.ownBlock = some i → G i ≠ some x
  new : ∀ b x, G b = some x → lo ≤ b
  glo : g < lo
section
variable {g B lo : Nat} {G G2 : Rows} {made : List Bool} {ts : List (Value × Value × Value)} {vm vt : Value} {w w2 : World}
theorem Sht.mG (h : Sht g B lo G made ts vm vt w) (i : Nat) (x : Nat × Nat) (hi : vm.ownBlock = some i) : G i ≠ some x := by
  intro hx
  obtain ⟨_, _, cs, hb, _⟩ := h.ty i x.1 x.2 hx
  exact ownsRow_ne h.om hb (fun c e => by cases e) hi
theorem Sht.mt (h : Sht g B lo G made ts vm vt w) (i : Nat) (hi : vm.ownBlock = some i) : vt.ownBlock ≠ some i := by
  intro e
  have hlt := (h.ot.lt i e).2
  obtain ⟨ob, hob⟩ : ∃ ob, w.heap[i]? = some ob := ⟨w.heap[i], by simp [hlt]⟩
  by_cases hc : ∃ c, ob = .cells c 4 (0, 0)
  · obtain ⟨c, rfl⟩ := hc
    exact ownsRow_ne h.ot hob (fun c' e' => by cases e') e
  · exact ownsRow_ne h.om hob (fun c' e' => hc ⟨c', e'⟩) hi
theorem Sht.move (h : Sht g B lo G made ts vm vt w) {F F' : Nat → Prop} (t : Turn F F' w w2) (hF : ∀ i, F i → i = g ∨ dom G i) (he : Ext G G2 w.heap.size) (ty : TyH g B G2 w2) (hlo : lo ≤ w.heap.size) : Sht g B lo G2 made ts vm vt w2 :=
  ⟨ownsRow_block h.om (fun i hi => t.block i (h.om.lt i hi).2 (fun hf => (hF i hf).elim (fun e => by have := (h.om.lt i hi).1; have := h.glo; omega) (fun ⟨x, hx⟩ => h.mG i x hi hx))),
   ownsRow_block h.ot (fun i hi => t.block i (h.ot.lt i hi).2 (fun hf => (hF i hf).elim (fun e => by have := (h.ot.lt i hi).1; have := h.glo; omega) (fun ⟨x, hx⟩ => h.sep i x hi hx))),
   ty, fun t ht => (h.tv t ht).ext he (Nat.le_refl _), fun i x hi hx => (he.new i x hx).elim (h.sep i x hi) (fun hn => by have := (h.ot.lt i hi).2; omega),
   fun b x hx => (he.new b x hx).elim (h.new b x) (fun hn => by omega), h.glo⟩
theorem Sht.pick (h : Sht g B lo G made ts vm vt w) {F' : Nat → Prop} (t : Turn (· = g) F' w w2) (hlo : lo ≤ w.heap.size) : Sht g B lo G made ts vm vt w2 :=
  h.move t (fun i e => .inl e) (Ext.refl _ _) (h.ty.turng t) hlo
theorem Sht.set (h : Sht g B lo G made ts vm vt w) {b : Nat} (o : Nat) (v : Value) (h1 : vm.ownBlock ≠ some b) (h2 : vt.ownBlock ≠ some b) (h3 : ∀ x, G b ≠ some x) : Sht g B lo G made ts vm vt (w.setCell ⟨b, o, none⟩ v) :=
  ⟨ownsRow_block h.om (fun i hi => setCell_far (own_far hi h1)), ownsRow_block h.ot (fun i hi => setCell_far (own_far hi h2)), h.ty.set v h3, h.tv, h.sep, h.new, h.glo⟩
theorem Sht.app_made (h : Sht g B lo G made ts vm vt w) {v' : Value} {x : Bool} (hg : w.grownBy w2 vm.ownBlock) (ho : w2.ownsRow lo 4 1 v' (made.length + 1) (bools made ++ [.bool x])) : Sht g B lo G (made ++ [x]) ts v' vt w2 :=
  ⟨by simpa [bools] using ho, ownsRow_block h.ot (fun i hi => hg.block i (h.ot.lt i hi).2 (fun e => h.mt i e.symm hi)),
   fun b r m hb => by
     obtain ⟨h1, h2, cs, h3, h4⟩ := h.ty b r m hb
     exact ⟨h1, h2, cs, (hg.block b (block_lt h3) (fun e => h.mG b _ e.symm hb)).trans h3, h4⟩,
   h.tv, h.sep, h.new, h.glo⟩
theorem Sht.app_task (h : Sht g B lo G made ts vm vt w) {v' : Value} {x y z : Value} (hg : w.grownBy w2 vt.ownBlock) (ho : w2.ownsRow lo 39 3 v' (ts.length + 1) (cells3 ts ++ [x, y, z])) (hv : TyV G 2 (.agg #[x, y, z]))
    (hat : ∀ i, v'.ownBlock = some i → vt.ownBlock = some i ∨ i = w.heap.size) : Sht g B lo G made (ts ++ [(x, y, z)]) vm v' w2 :=
  ⟨ownsRow_block h.om (fun i hi => hg.block i (h.om.lt i hi).2 (fun e => h.mt i hi e.symm)), by simpa [cells3] using ho,
   fun b r m hb => by
     obtain ⟨h1, h2, cs, h3, h4⟩ := h.ty b r m hb
     exact ⟨h1, h2, cs, (hg.block b (block_lt h3) (fun e => h.sep b _ e.symm hb)).trans h3, h4⟩,
   fun t ht => (List.mem_append.1 ht).elim (h.tv t) (fun e => by rw [List.mem_singleton.1 e]; exact hv),
   fun i x hi hx => (hat i hi).elim (fun e => h.sep i x e hx) (fun e => by have := h.ty.lt hx; omega), h.new, h.glo⟩
theorem ownsRow_cells {base : Nat} {e : TypeId} {size : Nat} {v : Value} {n : Nat} {xs : List Value} (h : w.ownsRow base e size v n xs) : ∃ A c, v = .slice A n c ∧ n ≤ c ∧ c ≤ maxLen ∧ ∀ i (hi : i < xs.length), ∃ b, A = some ⟨b, 0, none⟩ ∧ b < w.heap.size ∧ w.cell? ⟨b, i, none⟩ = some xs[i] := by
  obtain ⟨h1, ⟨rfl, rfl⟩ | ⟨g, cap, cur, rfl, hb, hg, hn, hc, hs, ht⟩⟩ := h
  · exact ⟨none, 0, rfl, Nat.le_refl _, by simp [maxLen], fun i hi => by simp at h1; simp [h1] at hi⟩
  · refine ⟨_, cap, rfl, hn, hc, fun i hi => ⟨g, rfl, block_lt hg, ?_⟩⟩
    rw [cellm hg]
    have hxi : xs[i]? = some xs[i] := by simp
    rw [← hxi, ← ht, List.getElem?_take_of_lt (by omega)]
    simp
/-- .. read as a sheet -/
theorem Sht.reads (h : Sht g B lo G made ts vm vt w) : ∃ Am cm At ct tasks, vm = .slice Am made.length cm ∧ vt = .slice At tasks.length ct ∧ tasks.length = ts.length ∧ SheetAt w.heap.size w Am cm At ct made tasks ∧ ∀ T ∈ tasks, nodes T ≤ nb 2 := by
  obtain ⟨Am, cm, rfl, hm1, hm2, hm⟩ := ownsRow_cells h.om
  obtain ⟨At, ct, rfl, ht1, ht2, ht⟩ := ownsRow_cells h.ot
  have h1 : ∀ i, ∃ T, ∀ (hi : i < ts.length), TaskIs w.heap.size w (.agg #[ts[i].1, ts[i].2.1, ts[i].2.2]) T ∧ nodes T ≤ nb 2 := by
    intro i
    by_cases hi : i < ts.length
    · obtain ⟨T, hT⟩ := TyV.reads h.ty 2 _ (h.tv ts[i] (List.getElem_mem _))
      exact ⟨T, fun _ => hT⟩
    · exact ⟨default, fun hh => (hi hh).elim⟩
  obtain ⟨f, hf⟩ := Classical.axiomOfChoice h1
  have hl := cells3_length ts
  refine ⟨Am, cm, At, ct, (List.range ts.length).map f, rfl, by simp, by simp, ⟨hm1, hm2, by simpa using ht1, ht2, fun i hi => ?_, PartsIs.of_get (fun i hi => ?_)⟩, fun T hT => ?_⟩
  · obtain ⟨b, e, hb, hc⟩ := hm i (by simpa [bools] using hi)
    exact ⟨b, 0, e, hb, by rw [Nat.zero_add, hc]; simp [bools]⟩
  · have hi' : i < ts.length := by simpa using hi
    obtain ⟨k0, k1, k2⟩ := cells3_get ts i hi'
    obtain ⟨b, e, hb, c0⟩ := ht (i * 3) (by omega)
    obtain ⟨b1, e1, _, c1⟩ := ht (i * 3 + 1) (by omega)
    obtain ⟨b2, e2, _, c2⟩ := ht (i * 3 + 2) (by omega)
    subst e
    cases e1; cases e2
    refine ⟨b, 0, _, _, _, rfl, hb, ?_, ?_, ?_, by simpa using (hf i hi').1⟩
    · rw [Nat.zero_add, Nat.zero_add, c0, ← k0]; simp
    · rw [Nat.zero_add, Nat.zero_add, c1, ← k1]; simp
    · rw [Nat.zero_add, Nat.zero_add, c2, ← k2]; simp
  · obtain ⟨i, hi, rfl⟩ := List.mem_map.1 hT
    exact (hf i (by simpa using hi)).2
end
end Go.Proofs.Ytkbblekengdhaaa
