import Derived.Test.YtagmdljdcnmpdaaSmall
set_option linter.unusedVariables false
set_option linter.unusedSimpArgs false
namespace Go.Proofs.Ytagmdljdcnmpdaa
open Go Go.RowKit

set_option maxHeartbeats 1000000 in
theorem fits_calls (k n : Int) (A : Option Addr) (len c : Nat) (w : World) :
    Calls Try.prog 97 #[.agg #[.int .i64 k, .int .i64 n, .slice A len c]] w fun e w' => e = .returned (.bool (fitsN k n len)) ∧ Below w.heap.size w w' := by
  by_cases k0 : k = 0
  · subst k0
    by_cases hv : 0 ≤ n ∧ n ≤ 96
    · have hd : decide (0 ≤ n ∧ n ≤ 96) = true := by simp [hv]
      replace hd := Lib.hid hd
      by_cases hl : len = 0
      · have hr : fitsN 0 n len = true := by simp [fitsN, hv, hl]
        replace hr := Lib.hid hr
        subst hl
        go_enter Try.func97, Try.ntmps97
        go_wp2_with fail
        refine (isValue_calls _ _).mono ?_
        rintro e w1 ⟨rfl, rfl⟩
        rw [hd.out]
        go_wp2_with fail
        go_ret
        exact ⟨by rw [hr.out]; rfl, below_al (Below.refl _ _) _⟩
      · have hr : fitsN 0 n len = false := by simp [fitsN, hl]
        replace hr := Lib.hid hr
        have hl' : ((len : Int) == 0) = false := by simp; omega
        replace hl := Lib.hid hl
        go_enter Try.func97, Try.ntmps97
        go_wp2_with fail
        refine (isValue_calls _ _).mono ?_
        rintro e w1 ⟨rfl, rfl⟩
        rw [hd.out]
        go_wp2_with fail
        go_ret
        exact ⟨by rw [hr.out]; rfl, below_al (Below.refl _ _) _⟩
    · have hr : fitsN 0 n len = false := by simp [fitsN]; omega
      have hd : decide (0 ≤ n ∧ n ≤ 96) = false := by simp [hv]
      replace hd := Lib.hid hd
      replace hr := Lib.hid hr
      clear hv
      go_enter Try.func97, Try.ntmps97
      go_wp2_with fail
      refine (isValue_calls _ _).mono ?_
      rintro e w1 ⟨rfl, rfl⟩
      rw [hd.out]
      go_wp2_with fail
      go_ret
      exact ⟨by rw [hr.out]; rfl, below_al (Below.refl _ _) _⟩
  by_cases k1 : k = 1
  · subst k1
    by_cases hv : 0 ≤ n ∧ n ≤ 9
    · have hd : decide (0 ≤ n ∧ n ≤ 9) = true := by simp [hv]
      replace hd := Lib.hid hd
      by_cases hl : len = 0
      · have hr : fitsN 1 n len = true := by simp [fitsN, hv, hl]
        replace hr := Lib.hid hr
        subst hl
        go_enter Try.func97, Try.ntmps97
        go_wp2_with fail
        refine (isKey_calls _ _).mono ?_
        rintro e w1 ⟨rfl, rfl⟩
        rw [hd.out]
        go_wp2_with fail
        go_ret
        exact ⟨by rw [hr.out]; rfl, below_al (Below.refl _ _) _⟩
      · have hr : fitsN 1 n len = false := by simp [fitsN, hl]
        replace hr := Lib.hid hr
        have hl' : ((len : Int) == 0) = false := by simp; omega
        replace hl := Lib.hid hl
        go_enter Try.func97, Try.ntmps97
        go_wp2_with fail
        refine (isKey_calls _ _).mono ?_
        rintro e w1 ⟨rfl, rfl⟩
        rw [hd.out]
        go_wp2_with fail
        go_ret
        exact ⟨by rw [hr.out]; rfl, below_al (Below.refl _ _) _⟩
    · have hr : fitsN 1 n len = false := by simp [fitsN]; omega
      have hd : decide (0 ≤ n ∧ n ≤ 9) = false := by simp [hv]
      replace hd := Lib.hid hd
      replace hr := Lib.hid hr
      clear hv
      go_enter Try.func97, Try.ntmps97
      go_wp2_with fail
      refine (isKey_calls _ _).mono ?_
      rintro e w1 ⟨rfl, rfl⟩
      rw [hd.out]
      go_wp2_with fail
      go_ret
      exact ⟨by rw [hr.out]; rfl, below_al (Below.refl _ _) _⟩
  by_cases k5 : k = 5
  · subst k5
    by_cases hv : 0 ≤ n ∧ n ≤ 9
    · have hd : decide (0 ≤ n ∧ n ≤ 9) = true := by simp [hv]
      replace hd := Lib.hid hd
      by_cases hl : len = 1
      · have hr : fitsN 5 n len = true := by simp [fitsN, hv, hl]
        replace hr := Lib.hid hr
        subst hl
        go_enter Try.func97, Try.ntmps97
        go_wp2_with fail
        refine (isKey_calls _ _).mono ?_
        rintro e w1 ⟨rfl, rfl⟩
        rw [hd.out]
        go_wp2_with fail
        go_ret
        exact ⟨by rw [hr.out]; rfl, below_al (Below.refl _ _) _⟩
      · have hr : fitsN 5 n len = false := by simp [fitsN, hl]
        replace hr := Lib.hid hr
        have hl' : ((len : Int) == 1) = false := by simp; omega
        replace hl := Lib.hid hl
        go_enter Try.func97, Try.ntmps97
        go_wp2_with fail
        refine (isKey_calls _ _).mono ?_
        rintro e w1 ⟨rfl, rfl⟩
        rw [hd.out]
        go_wp2_with fail
        go_ret
        exact ⟨by rw [hr.out]; rfl, below_al (Below.refl _ _) _⟩
    · have hr : fitsN 5 n len = false := by simp [fitsN]; omega
      have hd : decide (0 ≤ n ∧ n ≤ 9) = false := by simp [hv]
      replace hd := Lib.hid hd
      replace hr := Lib.hid hr
      clear hv
      go_enter Try.func97, Try.ntmps97
      go_wp2_with fail
      refine (isKey_calls _ _).mono ?_
      rintro e w1 ⟨rfl, rfl⟩
      rw [hd.out]
      go_wp2_with fail
      go_ret
      exact ⟨by rw [hr.out]; rfl, below_al (Below.refl _ _) _⟩
  by_cases k2 : k = 2
  · subst k2
    by_cases hv : n = 0
    · subst hv
      by_cases hl : len = 2
      · have hr : fitsN 2 0 len = true := by simp [fitsN, hl]
        replace hr := Lib.hid hr
        subst hl
        go_enter Try.func97, Try.ntmps97
        go_wp2_with fail
        go_ret
        exact ⟨by rw [hr.out]; rfl, below_al (Below.refl _ _) _⟩
      · have hr : fitsN 2 0 len = false := by simp [fitsN, hl]
        replace hr := Lib.hid hr
        have hl' : ((len : Int) == 2) = false := by simp; omega
        replace hl := Lib.hid hl
        go_enter Try.func97, Try.ntmps97
        go_wp2_with fail
        go_ret
        exact ⟨by rw [hr.out]; rfl, below_al (Below.refl _ _) _⟩
    · have hr : fitsN 2 n len = false := by simp [fitsN, hv]
      have hd : (n == 0) = false := by simp [hv]
      replace hr := Lib.hid hr
      replace hv := Lib.hid hv
      go_enter Try.func97, Try.ntmps97
      go_wp2_with fail
      go_ret
      exact ⟨by rw [hr.out]; rfl, below_al (Below.refl _ _) _⟩
  by_cases k3 : k = 3
  · subst k3
    by_cases hv : n = 0
    · subst hv
      by_cases hl : len = 2
      · have hr : fitsN 3 0 len = true := by simp [fitsN, hl]
        replace hr := Lib.hid hr
        subst hl
        go_enter Try.func97, Try.ntmps97
        go_wp2_with fail
        go_ret
        exact ⟨by rw [hr.out]; rfl, below_al (Below.refl _ _) _⟩
      · have hr : fitsN 3 0 len = false := by simp [fitsN, hl]
        replace hr := Lib.hid hr
        have hl' : ((len : Int) == 2) = false := by simp; omega
        replace hl := Lib.hid hl
        go_enter Try.func97, Try.ntmps97
        go_wp2_with fail
        go_ret
        exact ⟨by rw [hr.out]; rfl, below_al (Below.refl _ _) _⟩
    · have hr : fitsN 3 n len = false := by simp [fitsN, hv]
      have hd : (n == 0) = false := by simp [hv]
      replace hr := Lib.hid hr
      replace hv := Lib.hid hv
      go_enter Try.func97, Try.ntmps97
      go_wp2_with fail
      go_ret
      exact ⟨by rw [hr.out]; rfl, below_al (Below.refl _ _) _⟩
  by_cases k4 : k = 4
  · subst k4
    by_cases hv : n = 0
    · subst hv
      by_cases hl : len = 3
      · have hr : fitsN 4 0 len = true := by simp [fitsN, hl]
        replace hr := Lib.hid hr
        subst hl
        go_enter Try.func97, Try.ntmps97
        go_wp2_with fail
        go_ret
        exact ⟨by rw [hr.out]; rfl, below_al (Below.refl _ _) _⟩
      · have hr : fitsN 4 0 len = false := by simp [fitsN, hl]
        replace hr := Lib.hid hr
        have hl' : ((len : Int) == 3) = false := by simp; omega
        replace hl := Lib.hid hl
        go_enter Try.func97, Try.ntmps97
        go_wp2_with fail
        go_ret
        exact ⟨by rw [hr.out]; rfl, below_al (Below.refl _ _) _⟩
    · have hr : fitsN 4 n len = false := by simp [fitsN, hv]
      have hd : (n == 0) = false := by simp [hv]
      replace hr := Lib.hid hr
      replace hv := Lib.hid hv
      go_enter Try.func97, Try.ntmps97
      go_wp2_with fail
      go_ret
      exact ⟨by rw [hr.out]; rfl, below_al (Below.refl _ _) _⟩
  have hr : fitsN k n len = false := by simp [fitsN, *]
  have e0 : (k == 0) = false := by simp [k0]
  have e1 : (k == 1) = false := by simp [k1]
  have e2 : (k == 2) = false := by simp [k2]
  have e3 : (k == 3) = false := by simp [k3]
  have e4 : (k == 4) = false := by simp [k4]
  have e5 : (k == 5) = false := by simp [k5]
  replace k0 := Lib.hid k0
  replace k1 := Lib.hid k1
  replace k2 := Lib.hid k2
  replace k3 := Lib.hid k3
  replace k4 := Lib.hid k4
  replace k5 := Lib.hid k5
  replace hr := Lib.hid hr
  go_enter Try.func97, Try.ntmps97
  go_wp2_with fail
  go_ret
  exact ⟨by rw [hr.out]; rfl, below_al (Below.refl _ _) _⟩


set_option maxHeartbeats 1000000 in
theorem countTo_calls : ∀ (t : Task) (room : Int) (A : Option Addr) (c B : Nat) (w0 w : World), room ≤ 15 → -1000 ≤ room → Below B w0 w → B ≤ w.heap.size → t.parts.length ≤ c → c ≤ maxLen → PartsIs B w0 A 0 t.parts →
    Calls Try.prog 98 #[.agg #[.int .i64 t.kind, .int .i64 t.n, .slice A t.parts.length c], .int .i64 room] w fun e w' => e = .returned (.int .i64 (cntTo t room)) ∧ Below w.heap.size w w' := by
  refine Task.ind ?_
  intro k n ps ih room A c B w0 w hr1 hr2 hb hB hc hm hp
  simp only [Task.kind, Task.n, Task.parts] at hc hp ⊢
  unfold maxLen at hm
  replace ih := Lib.hid ih
  replace hb := Lib.hid hb
  replace hp := Lib.hid hp
  by_cases h1 : room < 1
  · have hr : cntTo (.mk k n ps) room = 16 := by rw [cntTo, if_pos (.inl h1)]
    replace hr := Lib.hid hr
    go_enter Try.func98, Try.ntmps98
    go_wp2_with fail
    go_ret
    exact ⟨by rw [hr.out]; rfl, below_al (Below.refl _ _) _⟩
  by_cases h2 : fitsN k n ps.length = false
  · have hr : cntTo (.mk k n ps) room = 16 := by rw [cntTo, if_pos (.inr h2)]
    replace hr := Lib.hid hr
    replace h2 := Lib.hid h2
    go_enter Try.func98, Try.ntmps98
    go_wp2_with fail
    refine (fits_calls _ _ _ _ _ _).mono ?_
    rintro e w1 ⟨rfl, h3⟩
    rw [h2.out]
    go_wp2_with fail
    go_ret
    exact ⟨by rw [hr.out]; rfl, below_from h3⟩
  have hr : cntTo (.mk k n ps) room = cntToL ps room 1 := by rw [cntTo, if_neg (by simp [h1, h2])]
  replace hr := Lib.hid hr
  simp only [Bool.not_eq_false] at h2
  replace h2 := Lib.hid h2
  go_enter Try.func98, Try.ntmps98
  go_wp2_with fail
  refine (fits_calls _ _ _ _ _ _).mono ?_
  rintro e w1 ⟨rfl, h3⟩
  rw [h2.out]
  have h4 := bcell h3
  simp at h4
  have x2 : w1.cell? ⟨w.heap.size, 2, none⟩ = some (.slice A ps.length c) := (h4 _ _ (by omega)).trans (by simp)
  clear h4
  have hw1 := below_from h3
  replace hw1 := Lib.hid hw1
  clear h3
  go_wp2_with fail
  go_loopw [5, 18] (fun m i wr => ∃ (j : Nat) (x : Int), j ≤ ps.length ∧ i = .int .i64 j ∧ m = .int .i64 x ∧ 1 ≤ x ∧ x ≤ 1000 ∧ Hid (Below w.heap.size w wr) ∧ Hid (cntToL ps room 1 = cntToL (ps.drop j) room x)) (fun _ i _ => ps.length - (intOf i).toNat)
  case atStart => exact ⟨0, 1, Nat.zero_le _, rfl, rfl, by omega, by omega, hw1, Lib.hid rfl⟩
  case round =>
    obtain ⟨j, x, hj, rfl, rfl, hx1, hx2, hw, he⟩ := hrel
    by_cases hlt : j < ps.length
    · obtain ⟨b, o, A', c', rfl, hbl, y0, y1, y2, hc', hm', hp'⟩ := hp.out.at (below_up' hb.out hB hw.out) j hlt
      have hbl' : b < wr.heap.size := by have := hw.out.size; omega
      have hd : ps.drop j = ps[j] :: ps.drop (j + 1) := List.drop_eq_getElem_cons hlt
      rw [hd] at he
      have he2 := he.out
      rw [cntToL] at he2
      replace hd := Lib.hid hd
      clear he
      by_cases hx : x > room
      · rw [if_pos hx] at he2
        replace he2 := Lib.hid he2
        go_wp2_with fail
        go_ret
        exact ⟨by rw [hr.out, he2.out]; rfl, below_al hw.out _⟩
      · rw [if_neg hx] at he2
        have hbd := cntTo_bound ps[j] (room - x) (by omega)
        replace he2 := Lib.hid he2
        go_wp2_with fail
        refine (ih.out ps[j] (List.getElem_mem _) (room - x) A' c' B w0 _ (by omega) (by omega) (below_al' (below_up' hb.out hB hw.out) _ (by have := hw.out.size; omega)) (by have := hw.out.size; simp; omega) hc' hm' hp').mono ?_
        rintro e w2 ⟨rfl, h5⟩
        replace h5 := Lib.hid h5
        have hb5 : cntTo ps[j] (room - x) ≤ 300 := by omega
        have hb6 : 1 ≤ cntTo ps[j] (room - x) := hbd.1
        clear hbd y0 y1 y2
        generalize cntTo ps[j] (room - x) = q at *
        go_wp2_with fail
        go_roundw
        case rel => exact ⟨j + 1, x + q, by omega, by go_num, rfl, by omega, by omega, Lib.hid (below_up hw.out (below_from h5.out)), he2⟩
        case measure => simp [intOf]; omega
    · have hd : ps.drop j = [] := List.drop_eq_nil_of_le (by omega)
      rw [hd, cntToL] at he
      replace hd := Lib.hid hd
      go_wp2_with fail
      go_ret
      exact ⟨by rw [hr.out, he.out]; rfl, hw.out⟩

set_option maxHeartbeats 1000000 in
theorem count_calls (t : Task) (A : Option Addr) (c B : Nat) (w0 w : World) (hb : Below B w0 w) (hB : B ≤ w.heap.size) (hc : t.parts.length ≤ c) (hm : c ≤ maxLen) (hp : PartsIs B w0 A 0 t.parts) :
    Calls Try.prog 80 #[.agg #[.int .i64 t.kind, .int .i64 t.n, .slice A t.parts.length c]] w fun e w' => e = .returned (.int .i64 (cnt t)) ∧ Below w.heap.size w w' := by
  obtain ⟨k, n, ps⟩ := t
  simp only [Task.kind, Task.n, Task.parts] at hc hp ⊢
  unfold maxLen at hm
  replace hb := Lib.hid hb
  replace hp := Lib.hid hp
  by_cases h2 : fitsN k n ps.length = false
  · have hr : cnt (.mk k n ps) = 16 := by rw [cnt, if_pos h2]
    replace hr := Lib.hid hr
    replace h2 := Lib.hid h2
    go_enter Try.func80, Try.ntmps80
    go_wp2_with fail
    refine (fits_calls _ _ _ _ _ _).mono ?_
    rintro e w1 ⟨rfl, h3⟩
    rw [h2.out]
    go_wp2_with fail
    go_ret
    exact ⟨by rw [hr.out]; rfl, below_from h3⟩
  have hr : cnt (.mk k n ps) = cntL ps 1 := by rw [cnt, if_neg h2]
  replace hr := Lib.hid hr
  simp only [Bool.not_eq_false] at h2
  replace h2 := Lib.hid h2
  go_enter Try.func80, Try.ntmps80
  go_wp2_with fail
  refine (fits_calls _ _ _ _ _ _).mono ?_
  rintro e w1 ⟨rfl, h3⟩
  rw [h2.out]
  have h4 := bcell h3
  simp at h4
  have x2 : w1.cell? ⟨w.heap.size, 2, none⟩ = some (.slice A ps.length c) := (h4 _ _ (by omega)).trans (by simp)
  clear h4
  have hw1 := below_from h3
  replace hw1 := Lib.hid hw1
  clear h3
  go_wp2_with fail
  go_loopw [3, 12] (fun m i wr => ∃ (j : Nat) (x : Int), j ≤ ps.length ∧ i = .int .i64 j ∧ m = .int .i64 x ∧ 1 ≤ x ∧ x ≤ 1000 ∧ Hid (Below w.heap.size w wr) ∧ Hid (cntL ps 1 = cntL (ps.drop j) x)) (fun _ i _ => ps.length - (intOf i).toNat)
  case atStart => exact ⟨0, 1, Nat.zero_le _, rfl, rfl, by omega, by omega, hw1, Lib.hid rfl⟩
  case round =>
    obtain ⟨j, x, hj, rfl, rfl, hx1, hx2, hw, he⟩ := hrel
    by_cases hlt : j < ps.length
    · obtain ⟨b, o, A', c', rfl, hbl, y0, y1, y2, hc', hm', hp'⟩ := hp.out.at (below_up' hb.out hB hw.out) j hlt
      have hbl' : b < wr.heap.size := by have := hw.out.size; omega
      have hd : ps.drop j = ps[j] :: ps.drop (j + 1) := List.drop_eq_getElem_cons hlt
      rw [hd] at he
      have he2 := he.out
      rw [cntL] at he2
      replace hd := Lib.hid hd
      clear he
      by_cases hx : x > 15
      · rw [if_pos hx] at he2
        replace he2 := Lib.hid he2
        go_wp2_with fail
        go_ret
        exact ⟨by rw [hr.out, he2.out]; rfl, below_al hw.out _⟩
      · rw [if_neg hx] at he2
        have hbd := cntTo_bound ps[j] (15 - x) (by omega)
        replace he2 := Lib.hid he2
        go_wp2_with fail
        refine (countTo_calls ps[j] (15 - x) A' c' B w0 _ (by omega) (by omega) (below_al' (below_up' hb.out hB hw.out) _ (by have := hw.out.size; omega)) (by have := hw.out.size; simp; omega) hc' hm' hp').mono ?_
        rintro e w2 ⟨rfl, h5⟩
        replace h5 := Lib.hid h5
        have hb5 : cntTo ps[j] (15 - x) ≤ 300 := by omega
        have hb6 : 1 ≤ cntTo ps[j] (15 - x) := hbd.1
        clear hbd y0 y1 y2
        generalize cntTo ps[j] (15 - x) = q at *
        go_wp2_with fail
        go_roundw
        case rel => exact ⟨j + 1, x + q, by omega, by go_num, rfl, by omega, by omega, Lib.hid (below_up hw.out (below_from h5.out)), he2⟩
        case measure => simp [intOf]; omega
    · have hd : ps.drop j = [] := List.drop_eq_nil_of_le (by omega)
      rw [hd, cntL] at he
      replace hd := Lib.hid hd
      go_wp2_with fail
      go_ret
      exact ⟨by rw [hr.out, he.out]; rfl, hw.out⟩

theorem taskOk_calls (t : Task) (A : Option Addr) (c B : Nat) (w0 w : World) (hb : Below B w0 w) (hB : B ≤ w.heap.size) (hc : t.parts.length ≤ c) (hm : c ≤ maxLen) (hp : PartsIs B w0 A 0 t.parts) :
    Calls Try.prog 48 #[.agg #[.int .i64 t.kind, .int .i64 t.n, .slice A t.parts.length c]] w fun e w' => e = .returned (.bool (okT t)) ∧ Below w.heap.size w w' := by
  have h := fun w1 (hb1 : Below B w0 w1) (hB1 : B ≤ w1.heap.size) => count_calls t A c B w0 w1 hb1 hB1 hc hm hp
  have hr := cnt_okT t
  replace h := Lib.hid h
  replace hr := Lib.hid hr
  replace hb := Lib.hid hb
  clear hp
  go_enter Try.func48, Try.ntmps48
  go_wp2_with fail
  refine (h.out _ (below_al' hb.out _ hB) (by simp; omega)).mono ?_
  rintro e w1 ⟨rfl, h3⟩
  replace h3 := Lib.hid h3
  go_wp2_with fail
  go_ret
  exact ⟨by rw [← hr.out]; rfl, below_from h3.out⟩
end Go.Proofs.Ytagmdljdcnmpdaa
