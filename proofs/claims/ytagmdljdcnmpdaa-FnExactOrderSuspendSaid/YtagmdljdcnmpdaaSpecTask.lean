import Derived.Test.YtagmdljdcnmpdaaProg
import Derived.Test.YtagmdljdcnmpdaaBase
set_option linter.unusedVariables false
set_option linter.unusedSimpArgs false
namespace Go.Proofs.Ytagmdljdcnmpdaa
open Go Go.RowKit

theorem l6In_calls (n lo hi : Int) (w : World) : Calls Try.prog 46 #[.int .i64 n, .int .i64 lo, .int .i64 hi] w fun e w' => e = .returned (.bool (decide (lo ≤ n ∧ n ≤ hi))) ∧ w = w' := by
  by_cases h : lo ≤ n <;>
  · go_enter Try.func46, Try.ntmps46
    go_wp2
    go_ret
    refine ⟨?_, rfl⟩
    by_cases h2 : n ≤ hi <;> simp [h, h2] <;> omega

def shape (k : Int) : Int × Int × Bool :=
  if k = 0 then (0, 96, true) else if k = 1 then (0, 9, true) else if k = 2 ∨ k = 3 then (2, 0, true) else if k = 4 then (3, 0, true) else if k = 5 then (1, 9, true) else (0, 0, false)
theorem shape_fits (k n : Int) (len : Nat) : fitsN k n len = ((shape k).2.2 && decide ((len : Int) = (shape k).1) && decide (0 ≤ n ∧ n ≤ (shape k).2.1)) := by
  rw [Bool.eq_iff_iff]
  unfold fitsN shape
  split
  · simp; omega
  split
  · simp; omega
  split
  · simp; omega
  split
  · simp; omega
  split
  · simp; omega
  · simp

set_option maxHeartbeats 1000000 in
theorem l1Shape_calls (k : Int) (w : World) : Calls Try.prog 106 #[.int .i64 k] w fun e w' => e = .returned (.tuple #[.int .i64 (shape k).1, .int .i64 (shape k).2.1, .bool (shape k).2.2]) ∧ w = w' := by
  by_cases k0 : k = 0
  · subst k0
    go_enter Try.func106, Try.ntmps106
    go_wp2
    go_ret3
    exact ⟨rfl, rfl⟩
  by_cases k1 : k = 1
  · subst k1
    go_enter Try.func106, Try.ntmps106
    go_wp2
    go_ret3
    exact ⟨rfl, rfl⟩
  by_cases k2 : k = 2
  · subst k2
    go_enter Try.func106, Try.ntmps106
    go_wp2
    go_ret3
    exact ⟨rfl, rfl⟩
  by_cases k3 : k = 3
  · subst k3
    go_enter Try.func106, Try.ntmps106
    go_wp2
    go_ret3
    exact ⟨rfl, rfl⟩
  by_cases k4 : k = 4
  · subst k4
    go_enter Try.func106, Try.ntmps106
    go_wp2
    go_ret3
    exact ⟨rfl, rfl⟩
  by_cases k5 : k = 5
  · subst k5
    go_enter Try.func106, Try.ntmps106
    go_wp2
    go_ret3
    exact ⟨rfl, rfl⟩
  have hr : shape k = (0, 0, false) := by simp [shape, *]
  have e0 : (k == 0) = false := by simp [k0]
  have e1 : (k == 1) = false := by simp [k1]
  have e2 : (k == 2) = false := by simp [k2]
  have e3 : (k == 3) = false := by simp [k3]
  have e4 : (k == 4) = false := by simp [k4]
  have e5 : (k == 5) = false := by simp [k5]
  replace hr := Lib.hid hr
  clear k0 k1 k2 k3 k4 k5
  go_enter Try.func106, Try.ntmps106
  go_wp2
  go_ret3
  exact ⟨by rw [hr.out]; rfl, rfl⟩

set_option maxHeartbeats 1000000 in
theorem l1Fit_calls : ∀ (t : Task) (A : Option Addr) (c B : Nat) (w0 w : World), Below B w0 w → B ≤ w.heap.size → t.parts.length ≤ c → c ≤ maxLen → PartsIs B w0 A 0 t.parts →
    Calls Try.prog 100 #[.agg #[.int .i64 t.kind, .int .i64 t.n, .slice A t.parts.length c]] w fun e w' => e = .returned (.bool (fitAll t)) ∧ Below w.heap.size w w' := by
  refine Task.ind ?_
  intro k n ps ih A c B w0 w hb hB hc hm hp
  simp only [Task.kind, Task.n, Task.parts] at hc hp ⊢
  unfold maxLen at hm
  have hsh := l1Shape_calls k
  have hfit := shape_fits k n ps.length
  have hall : fitAll (.mk k n ps) = (fitsN k n ps.length && fitAllL ps) := by rw [fitAll]
  rw [hfit] at hall
  generalize shape k = sh at *
  obtain ⟨q, top, ok⟩ := sh
  simp only at hsh hall
  replace hsh := Lib.hid hsh
  replace ih := Lib.hid ih
  replace hb := Lib.hid hb
  replace hp := Lib.hid hp
  clear hfit
  cases ok with
  | false =>
    replace hall := Lib.hid hall
    go_enter Try.func100, Try.ntmps100
    go_wp2_with fail
    refine (hsh.out _).mono ?_
    rintro e w1 ⟨rfl, rfl⟩
    go_wp2_with fail
    go_ret
    exact ⟨by rw [hall.out]; rfl, below_al (Below.refl _ _) _⟩
  | true =>
    by_cases hq : (ps.length : Int) = q
    case neg =>
      have hq' : ((ps.length : Int) != q) = true := by simp [hq]
      have hall2 : fitAll (.mk k n ps) = false := by rw [hall]; simp [hq]
      replace hall2 := Lib.hid hall2
      clear hall
      replace hq := Lib.hid hq
      go_enter Try.func100, Try.ntmps100
      go_wp2_with fail
      refine (hsh.out _).mono ?_
      rintro e w1 ⟨rfl, rfl⟩
      go_wp2_with fail
      go_ret
      exact ⟨by rw [hall2.out]; rfl, below_al (Below.refl _ _) _⟩
    have hq' : ((ps.length : Int) != q) = false := by simp [hq]
    have hin := l6In_calls n 0 top
    by_cases hn : 0 ≤ n ∧ n ≤ top
    case neg =>
      have hall2 : fitAll (.mk k n ps) = false := by rw [hall]; simp [hn]
      have hd : decide (0 ≤ n ∧ n ≤ top) = false := by simp [hn]
      rw [hd] at hin
      replace hin := Lib.hid hin
      replace hall2 := Lib.hid hall2
      clear hall hd hn
      replace hq := Lib.hid hq
      go_enter Try.func100, Try.ntmps100
      go_wp2_with fail
      refine (hsh.out _).mono ?_
      rintro e w1 ⟨rfl, rfl⟩
      go_wp2_with fail
      refine (hin.out _).mono ?_
      rintro e w1 ⟨rfl, rfl⟩
      go_wp2_with fail
      go_ret
      exact ⟨by rw [hall2.out]; rfl, below_al (Below.refl _ _) _⟩
    have hd : decide (0 ≤ n ∧ n ≤ top) = true := by simp [hn]
    rw [hd] at hin
    have hall2 : fitAll (.mk k n ps) = fitAllL ps := by rw [hall]; simp [hn, hq]
    replace hin := Lib.hid hin
    replace hall2 := Lib.hid hall2
    clear hall hd hn
    replace hq := Lib.hid hq
    go_enter Try.func100, Try.ntmps100
    go_wp2_with fail
    refine (hsh.out _).mono ?_
    rintro e w1 ⟨rfl, rfl⟩
    go_wp2_with fail
    refine (hin.out _).mono ?_
    rintro e w1 ⟨rfl, rfl⟩
    go_wp2_with fail
    go_loopw [6] (fun i wr => ∃ (j : Nat), j ≤ ps.length ∧ i = .int .i64 j ∧ w.heap.size < wr.heap.size ∧ wr.cell? ⟨w.heap.size, 2, none⟩ = some (.slice A ps.length c) ∧ Hid (Below w.heap.size w wr) ∧ Hid (fitAllL ps = fitAllL (ps.drop j))) (fun i _ => ps.length - (intOf i).toNat)
    case atStart => exact ⟨0, Nat.zero_le _, rfl, by simp, by simp, Lib.hid (below_al (Below.refl _ _) _), Lib.hid rfl⟩
    case round =>
      obtain ⟨j, hj, rfl, hz, hbox, hw, he⟩ := hrel
      by_cases hlt : j < ps.length
      · obtain ⟨b, o, A', c', rfl, hbl, y0, y1, y2, hc', hm', hp'⟩ := hp.out.at (below_up' hb.out hB hw.out) j hlt
        have hbl' : b < wr.heap.size := by have := hw.out.size; omega
        have he2 := he.out
        rw [List.drop_eq_getElem_cons hlt, fitAllL] at he2
        have hcall := ih.out ps[j] (List.getElem_mem _) A' c' B w0 wr (below_up' hb.out hB hw.out) (by have := hw.out.size; omega) hc' hm' hp'
        replace hcall := Lib.hid hcall
        clear he
        cases hv : fitAll ps[j] with
        | false =>
          rw [hv] at he2 hcall
          replace he2 := Lib.hid he2
          clear hv
          go_wp2_with fail
          refine hcall.out.mono ?_
          rintro e w2 ⟨rfl, h5⟩
          replace h5 := Lib.hid h5
          go_wp2_with fail
          go_ret
          exact ⟨by rw [hall2.out, he2.out]; rfl, below_up hw.out h5.out⟩
        | true =>
          rw [hv, Bool.true_and] at he2
          rw [hv] at hcall
          replace he2 := Lib.hid he2
          clear hv
          go_wp2_with fail
          refine hcall.out.mono ?_
          rintro e w2 ⟨rfl, h5⟩
          have z0 := kept_cell h5 hz hbox
          have hz2 : w.heap.size < w2.heap.size := by have := h5.size; omega
          replace h5 := Lib.hid h5
          clear hbox y0 y1 y2
          go_wp2_with fail
          go_roundw
          case rel => exact ⟨j + 1, by omega, by go_num, hz2, z0, Lib.hid (below_up hw.out h5.out), he2⟩
          case measure => simp [intOf]; omega
      · have he2 := he.out
        rw [List.drop_eq_nil_of_le (by omega), fitAllL] at he2
        replace he2 := Lib.hid he2
        clear he
        go_wp2_with fail
        go_ret
        exact ⟨by rw [hall2.out, he2.out]; rfl, hw.out⟩

theorem nodesL_get : ∀ {ps : List Task} {i : Nat} (h : i < ps.length), nodesL (ps.drop i) = nodes ps[i] + nodesL (ps.drop (i + 1)) := by
  intro ps i h
  rw [List.drop_eq_getElem_cons h, nodesL]

set_option maxHeartbeats 1000000 in
theorem l1Nodes_calls : ∀ (t : Task) (A : Option Addr) (c B : Nat) (w0 w : World), nodes t ≤ 1000000000 → Below B w0 w → B ≤ w.heap.size → t.parts.length ≤ c → c ≤ maxLen → PartsIs B w0 A 0 t.parts →
    Calls Try.prog 101 #[.agg #[.int .i64 t.kind, .int .i64 t.n, .slice A t.parts.length c]] w fun e w' => e = .returned (.int .i64 (nodes t)) ∧ Below w.heap.size w w' := by
  refine Task.ind ?_
  intro k n ps ih A c B w0 w hnb hb hB hc hm hp
  simp only [Task.kind, Task.n, Task.parts] at hc hp ⊢
  unfold maxLen at hm
  have hall : nodes (.mk k n ps) = 1 + nodesL ps := by rw [nodes]
  rw [hall] at hnb
  replace ih := Lib.hid ih
  replace hb := Lib.hid hb
  replace hp := Lib.hid hp
  replace hall := Lib.hid hall
  replace hnb := Lib.hid hnb
  go_enter Try.func101, Try.ntmps101
  go_wp2_with fail
  go_loopw [3, 4] (fun m i wr => ∃ (j : Nat) (x : Int), j ≤ ps.length ∧ i = .int .i64 j ∧ m = .int .i64 x ∧ 1 ≤ x ∧ x ≤ 1000000000 ∧ w.heap.size < wr.heap.size ∧ wr.cell? ⟨w.heap.size, 2, none⟩ = some (.slice A ps.length c) ∧ Hid (Below w.heap.size w wr) ∧ Hid (1 + nodesL ps = x + nodesL (ps.drop j))) (fun _ i _ => ps.length - (intOf i).toNat)
  case atStart => exact ⟨0, 1, Nat.zero_le _, rfl, rfl, by omega, by omega, by simp, by simp, Lib.hid (below_al (Below.refl _ _) _), Lib.hid rfl⟩
  case round =>
    obtain ⟨j, x, hj, rfl, rfl, hx1, hx2, hz, hbox, hw, he⟩ := hrel
    by_cases hlt : j < ps.length
    · obtain ⟨b, o, A', c', rfl, hbl, y0, y1, y2, hc', hm', hp'⟩ := hp.out.at (below_up' hb.out hB hw.out) j hlt
      have hbl' : b < wr.heap.size := by have := hw.out.size; omega
      have he2 := he.out
      rw [nodesL_get hlt] at he2
      have hn1 := nodes_pos ps[j]
      have hn2 := nodesL_pos (ps.drop (j + 1))
      have hnb2 := hnb.out
      have hcall := ih.out ps[j] (List.getElem_mem _) A' c' B w0 wr (by omega) (below_up' hb.out hB hw.out) (by have := hw.out.size; omega) hc' hm' hp'
      have hsum : x + nodes ps[j] ≤ 1000000000 := by omega
      generalize nodes ps[j] = y at *
      replace hcall := Lib.hid hcall
      replace he2 := Lib.hid he2
      clear he hn2 hnb2
      go_wp2_with fail
      refine hcall.out.mono ?_
      rintro e w2 ⟨rfl, h5⟩
      have z0 := kept_cell h5 hz hbox
      have hz2 : w.heap.size < w2.heap.size := by have := h5.size; omega
      replace h5 := Lib.hid h5
      clear hbox y0 y1 y2
      go_wp2_with fail
      go_roundw
      case rel => exact ⟨j + 1, x + y, by omega, by go_num, rfl, by omega, by omega, hz2, z0, Lib.hid (below_up hw.out h5.out), Lib.hid (by have := he2.out; omega)⟩
      case measure => simp [intOf]; omega
    · have he2 := he.out
      rw [List.drop_eq_nil_of_le (by omega), nodesL] at he2
      replace he2 := Lib.hid he2
      clear he
      go_wp2_with fail
      go_ret
      exact ⟨by rw [hall.out, he2.out]; simp, hw.out⟩

set_option maxHeartbeats 1000000 in
theorem specTaskOk_calls (t : Task) (A : Option Addr) (c B : Nat) (w0 w : World) (hn : nodes t ≤ 1000000000) (hb : Below B w0 w) (hB : B ≤ w.heap.size) (hc : t.parts.length ≤ c) (hm : c ≤ maxLen) (hp : PartsIs B w0 A 0 t.parts) :
    Calls Try.prog 86 #[.agg #[.int .i64 t.kind, .int .i64 t.n, .slice A t.parts.length c]] w fun e w' => e = .returned (.bool (okT t)) ∧ Below w.heap.size w w' := by
  have h1 := fun w1 (hw : Below w.heap.size w w1) => l1Fit_calls t A c B w0 w1 (below_up' hb hB hw) (Nat.le_trans hB hw.size) hc hm hp
  have h2 := fun w1 (hw : Below w.heap.size w w1) => l1Nodes_calls t A c B w0 w1 hn (below_up' hb hB hw) (Nat.le_trans hB hw.size) hc hm hp
  have hr : okT t = (fitAll t && decide (nodes t ≤ 15)) := rfl
  generalize nodes t = m at *
  cases hf : fitAll t with
  | false =>
    rw [hf] at h1 hr
    replace h1 := Lib.hid h1
    replace hr := Lib.hid hr
    clear hb hp h2 hf hn
    go_enter Try.func86, Try.ntmps86
    go_wp2_with fail
    refine (h1.out _ (below_al (Below.refl _ _) _)).mono ?_
    rintro e w1 ⟨rfl, h3⟩
    replace h3 := Lib.hid h3
    go_wp2_with fail
    go_ret
    exact ⟨by rw [hr.out]; rfl, below_from h3.out⟩
  | true =>
    rw [hf, Bool.true_and] at hr
    rw [hf] at h1
    replace h1 := Lib.hid h1
    replace h2 := Lib.hid h2
    replace hr := Lib.hid hr
    clear hb hp hf hn
    go_enter Try.func86, Try.ntmps86
    go_wp2_with fail
    refine (h1.out _ (below_al (Below.refl _ _) _)).mono ?_
    rintro e w1 ⟨rfl, h3⟩
    have x0 : w1.cell? ⟨w.heap.size, 0, none⟩ = some (.int .i64 t.kind) := (h3.cell (p := ⟨w.heap.size, 0, none⟩) (by simp)).trans (by simp)
    have x1 : w1.cell? ⟨w.heap.size, 1, none⟩ = some (.int .i64 t.n) := (h3.cell (p := ⟨w.heap.size, 1, none⟩) (by simp)).trans (by simp)
    have x2 : w1.cell? ⟨w.heap.size, 2, none⟩ = some (.slice A t.parts.length c) := (h3.cell (p := ⟨w.heap.size, 2, none⟩) (by simp)).trans (by simp)
    have b1 := below_from h3
    replace b1 := Lib.hid b1
    clear h3
    go_wp2_with fail
    refine (h2.out _ b1.out).mono ?_
    rintro e w2 ⟨rfl, h3⟩
    replace h3 := Lib.hid h3
    go_wp2_with fail
    go_ret
    exact ⟨by rw [hr.out]; rfl, below_up b1.out h3.out⟩
end Go.Proofs.Ytagmdljdcnmpdaa
