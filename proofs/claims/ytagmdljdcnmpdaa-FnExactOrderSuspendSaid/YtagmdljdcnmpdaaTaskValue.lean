import Derived.Test.YtagmdljdcnmpdaaFetched
set_option linter.unusedVariables false
set_option linter.unusedSimpArgs false
namespace Go.Proofs.Ytagmdljdcnmpdaa
open Go Go.RowKit

theorem fets_small {t : Tk} (h : okT t.enc = true) : t.fets ≤ 100 := by
  have h1 := fets_le t
  have h2 := (Bool.and_eq_true_iff.1 h).2
  simp only [decide_eq_true_eq] at h2
  omega

set_option maxHeartbeats 1000000 in
theorem taskValue_good (t : Tk) (A : Option Addr) (c : Nat) (xs : List Int) (Ax : Option Addr) (cx B : Nat) (w0 w : World) (hb : Below B w0 w) (hB : B ≤ w.heap.size) (hok : t.ok) (hokT : okT t.enc = true) (hc : t.enc.parts.length ≤ c) (hcm : c ≤ maxLen) (hp : PartsIs B w0 A 0 t.enc.parts)
    (hm : xs.length ≤ maxLen) (hx : IntsAt B w0 Ax xs) (hv : valsOk xs = true) :
    Calls Try.prog 14 #[.agg #[.int .i64 t.enc.kind, .int .i64 t.enc.n, .slice A t.enc.parts.length c], .slice Ax xs.length cx] w fun e w' =>
      e = .returned (.tuple #[.int .i64 (fetchedP t xs).1.1, .bool true]) ∧ Below w.heap.size w w' := by
  have hc1 := fun w1 (hw : Below w.heap.size w w1) => taskOk_calls t.enc A c B w0 w1 (below_up' hb hB hw) (Nat.le_trans hB hw.size) hc hcm hp
  rw [hokT] at hc1
  have hc2 := fun w1 (hw : Below w.heap.size w w1) => valuesOk_calls Ax cx xs B w0 w1 (below_up' hb hB hw) (Nat.le_trans hB hw.size) hm hx
  rw [hv] at hc2
  have hc3 := fun w1 (hw : Below w.heap.size w w1) => fetched_calls t A c xs Ax cx B w0 w1 (below_up' hb hB hw) (Nat.le_trans hB hw.size) hok (fets_small hokT) hc hp hm hx (vals_iff.1 (Bool.and_eq_true_iff.1 hv).2)
  replace hc1 := Lib.hid hc1
  replace hc2 := Lib.hid hc2
  replace hc3 := Lib.hid hc3
  clear hb hx hp hok hokT hv hcm
  go_enter Try.func14, Try.ntmps14
  go_wp2_with fail
  refine (hc1.out _ (below_al (Below.refl _ _) _)).mono ?_
  rintro e w1 ⟨rfl, h1⟩
  have x0 : w1.cell? ⟨w.heap.size, 0, none⟩ = some (.int .i64 t.enc.kind) := (h1.cell (p := ⟨w.heap.size, 0, none⟩) (by simp)).trans (by simp)
  have x1 : w1.cell? ⟨w.heap.size, 1, none⟩ = some (.int .i64 t.enc.n) := (h1.cell (p := ⟨w.heap.size, 1, none⟩) (by simp)).trans (by simp)
  have x2 : w1.cell? ⟨w.heap.size, 2, none⟩ = some (.slice A t.enc.parts.length c) := (h1.cell (p := ⟨w.heap.size, 2, none⟩) (by simp)).trans (by simp)
  have b1 := below_from h1
  have s1 : w.heap.size < w1.heap.size := by have := h1.size; simp at this; omega
  replace b1 := Lib.hid b1
  clear h1
  go_wp2_with fail
  refine (hc2.out _ b1.out).mono ?_
  rintro e w2 ⟨rfl, h2⟩
  have y0 := kept_cell h2 s1 x0
  have y1 := kept_cell h2 s1 x1
  have y2 := kept_cell h2 s1 x2
  have b2 := below_up b1.out h2
  replace b2 := Lib.hid b2
  clear h2 x0 x1 x2 s1
  go_wp2_with fail
  refine (hc3.out _ b2.out).mono ?_
  rintro e w3 ⟨v, rfl, hown, h3⟩
  have b3 := below_up b2.out h3
  replace b3 := Lib.hid b3
  clear h3 y0 y1 y2 hown
  go_wp2_with fail
  go_ret2
  exact ⟨rfl, b3.out⟩

set_option maxHeartbeats 1000000 in
theorem taskValue_bad (t : Task) (A : Option Addr) (c : Nat) (xs : List Int) (Ax : Option Addr) (cx B : Nat) (w0 w : World) (hb : Below B w0 w) (hB : B ≤ w.heap.size) (hc : t.parts.length ≤ c) (hcm : c ≤ maxLen) (hp : PartsIs B w0 A 0 t.parts)
    (hm : xs.length ≤ maxLen) (hx : IntsAt B w0 Ax xs) (hbad : okT t = true → valsOk xs = false) :
    Calls Try.prog 14 #[.agg #[.int .i64 t.kind, .int .i64 t.n, .slice A t.parts.length c], .slice Ax xs.length cx] w fun e w' =>
      e = .returned (.tuple #[.int .i64 0, .bool false]) ∧ Below w.heap.size w w' := by
  have hc1 := fun w1 (hw : Below w.heap.size w w1) => taskOk_calls t A c B w0 w1 (below_up' hb hB hw) (Nat.le_trans hB hw.size) hc hcm hp
  have hc2 := fun w1 (hw : Below w.heap.size w w1) => valuesOk_calls Ax cx xs B w0 w1 (below_up' hb hB hw) (Nat.le_trans hB hw.size) hm hx
  cases h1 : okT t with
  | false =>
    rw [h1] at hc1
    replace hc1 := Lib.hid hc1
    clear hc2 hb hx hp hcm hbad h1
    go_enter Try.func14, Try.ntmps14
    go_wp2_with fail
    refine (hc1.out _ (below_al (Below.refl _ _) _)).mono ?_
    rintro e w1 ⟨rfl, h1⟩
    replace h1 := Lib.hid h1
    go_wp2_with fail
    go_ret2
    exact ⟨rfl, below_from h1.out⟩
  | true =>
    rw [h1] at hc1
    rw [hbad h1] at hc2
    replace hc1 := Lib.hid hc1
    replace hc2 := Lib.hid hc2
    clear hb hx hp hcm hbad h1
    go_enter Try.func14, Try.ntmps14
    go_wp2_with fail
    refine (hc1.out _ (below_al (Below.refl _ _) _)).mono ?_
    rintro e w1 ⟨rfl, h1⟩
    have b1 := below_from h1
    replace b1 := Lib.hid b1
    clear h1
    go_wp2_with fail
    refine (hc2.out _ b1.out).mono ?_
    rintro e w2 ⟨rfl, h2⟩
    have b2 := below_up b1.out h2
    replace b2 := Lib.hid b2
    clear h2
    go_wp2_with fail
    go_ret2
    exact ⟨rfl, b2.out⟩
end Go.Proofs.Ytagmdljdcnmpdaa
