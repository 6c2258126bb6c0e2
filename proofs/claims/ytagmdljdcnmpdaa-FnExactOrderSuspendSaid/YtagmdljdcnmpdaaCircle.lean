import Derived.Test.YtagmdljdcnmpdaaSpecAll
set_option linter.unusedVariables false
set_option linter.unusedSimpArgs false
namespace Go.Proofs.Ytagmdljdcnmpdaa
open Go Go.RowKit

/-- a result that reads as a row of numbers, and a truth -/
def GivesList (r : List Int × Bool) (e : Ending) (w w' : World) : Prop :=
  ∃ A c, e = .returned (.tuple #[.slice A r.1.length c, .bool r.2]) ∧ r.1.length ≤ c ∧ c ≤ maxLen ∧ IntsAt w'.heap.size w' A r.1 ∧ Below w.heap.size w w'
/-- .. in memory from a block on -/
def GivesOwn (B : Nat) (r : List Int × Bool) (e : Ending) (w w' : World) : Prop :=
  ∃ v, e = .returned (.tuple #[v, .bool r.2]) ∧ w'.ownsRow B 3 1 v r.1.length (ints r.1) ∧ Below w.heap.size w w'
theorem GivesOwn.list {B : Nat} {r : List Int × Bool} {e : Ending} {w w' : World} (h : GivesOwn B r e w w') : GivesList r e w w' := by
  obtain ⟨v, rfl, ho, hb⟩ := h
  obtain ⟨A, c, rfl, h1, h2, h3⟩ := ownsRow_ints ho
  exact ⟨A, c, rfl, h1, h2, h3, hb⟩
def circleP (S : Sh) (k : Int) : List Int × Bool := if (keyP S S.made.length st0 k).1.2 then ([], false) else ((keyP S S.made.length st0 k).2.circle, true)
def specCircleP (S : Sh) (k : Int) : List Int × Bool := if (specP S S.made.length [] [] k).1.2 then ([], false) else ((specP S S.made.length [] [] k).2, true)
theorem circle_same {S : Sh} (hS : S.Ok) (k : Int) : circleP S k = specCircleP S k := by
  have h := build_spec hS k
  have h1 : (keyP S S.made.length st0 k).1 = (specP S S.made.length [] [] k).1 := h.1
  unfold circleP specCircleP
  rw [← h1]
  cases hk : (keyP S S.made.length st0 k).1.2 with
  | true => rfl
  | false => rw [h.2 hk]

set_option maxHeartbeats 1000000 in
theorem circleOf_own (E : MkEnv) (S : Sh) (hE : E.Good S) (k : Int) (w : World) (hb : Below E.B E.w0 w) (hB : E.B ≤ w.heap.size) (hk0 : 0 ≤ k) (hk1 : k < S.made.length) :
    Calls Try.prog 22 #[.agg #[.slice E.Am S.made.length E.cm, .slice E.At S.tks.length E.ct], .slice E.Ai S.inputs.length E.ci, .int .i64 k] w fun e w' =>
      GivesOwn E.B (circleP S k) e w w' := by
  have hok1 : sheetOk S.made (S.tks.map Tk.enc) = true := hE.ok.sheet
  have hok2 : takesOk S.made.length S.inputs = true := by simp [takesOk, hE.ok.ins, vals_iff.2 hE.ok.vals]
  have hok3 : decide (0 ≤ k ∧ k < S.made.length) = true := by simp [hk0, hk1]
  have hten := hE.ok.ten
  have hc1 := fun w1 (hw : Below w.heap.size w w1) => sheetOk_calls E.Am E.At E.cm E.ct S.made (S.tks.map Tk.enc) E.B E.w0 w1 (below_up' hb hB hw) (Nat.le_trans hB hw.size) hE.sheet
  rw [hok1] at hc1
  simp only [List.length_map] at hc1
  have hc2 := fun w1 (hw : Below w.heap.size w w1) => takes_calls E.Am E.At E.Ai S.made.length E.cm S.tks.length E.ct E.ci S.inputs E.B E.w0 w1 (below_up' hb hB hw) (Nat.le_trans hB hw.size) (Nat.le_trans hE.li hE.mi) hE.ins
  rw [hok2] at hc2
  have hc3 := fun w1 => has_calls E.Am E.At S.made.length E.cm S.tks.length E.ct k w1
  rw [hok3] at hc3
  have hc4 := fun w1 (hw : Below w.heap.size w w1) => newMaker_calls E S w1 (below_up' hb hB hw) (Nat.le_trans hB hw.size)
  have hc5 := key_calls E S hE
  replace hc1 := Lib.hid hc1
  replace hc2 := Lib.hid hc2
  replace hc3 := Lib.hid hc3
  replace hc4 := Lib.hid hc4
  replace hc5 := Lib.hid hc5
  replace hb := Lib.hid hb
  replace hE := Lib.hid hE
  clear hok1 hok2 hok3
  go_enter Try.func22, Try.ntmps22
  go_wp2_with fail
  refine (hc1.out _ (below_al (Below.refl _ _) _)).mono ?_
  rintro e w1 ⟨rfl, h1⟩
  have x0 : w1.cell? ⟨w.heap.size, 0, none⟩ = some (.slice E.Am S.made.length E.cm) := (h1.cell (p := ⟨w.heap.size, 0, none⟩) (by simp)).trans (by simp)
  have x1 : w1.cell? ⟨w.heap.size, 1, none⟩ = some (.slice E.At S.tks.length E.ct) := (h1.cell (p := ⟨w.heap.size, 1, none⟩) (by simp)).trans (by simp)
  have b1 := below_from h1
  have s1 : w.heap.size < w1.heap.size := by have := h1.size; simp at this; omega
  replace b1 := Lib.hid b1
  clear h1
  go_wp2_with fail
  refine (hc2.out _ b1.out).mono ?_
  rintro e w2 ⟨rfl, h2⟩
  have y0 : w2.cell? ⟨w.heap.size, 0, none⟩ = some (.slice E.Am S.made.length E.cm) := kept_cell h2 s1 x0
  have y1 : w2.cell? ⟨w.heap.size, 1, none⟩ = some (.slice E.At S.tks.length E.ct) := kept_cell h2 s1 x1
  have b2 := below_up b1.out h2
  have s2 : w.heap.size < w2.heap.size := by have := h2.size; omega
  replace b2 := Lib.hid b2
  clear h2 x0 x1 s1
  go_wp2_with fail
  refine (hc3.out _).mono ?_
  rintro e w3 ⟨rfl, h3⟩
  have x0 : w3.cell? ⟨w.heap.size, 0, none⟩ = some (.slice E.Am S.made.length E.cm) := kept_cell h3 s2 y0
  have x1 : w3.cell? ⟨w.heap.size, 1, none⟩ = some (.slice E.At S.tks.length E.ct) := kept_cell h3 s2 y1
  have b3 := below_up b2.out h3
  have s3 : w.heap.size < w3.heap.size := by have := h3.size; omega
  replace b3 := Lib.hid b3
  clear h3 y0 y1 s2
  go_wp2_with fail
  refine (hc4.out _ b3.out).mono ?_
  rintro e w4 ⟨m, F, rfl, hM, hF, h4⟩
  have b4 := below_up b3.out h4
  replace hM := Lib.hid hM
  replace hF := Lib.hid hF
  replace b4 := Lib.hid b4
  replace h4 := Lib.hid h4
  go_wp2_with fail
  have hcall := hc5.out m S.made.length st0 k _ F hk0 (by omega) ⟨hM.out, inv0 S⟩
  have hP : circleP S k = if (keyP S S.made.length st0 k).1.2 then ([], false) else ((keyP S S.made.length st0 k).2.circle, true) := rfl
  generalize keyP S S.made.length st0 k = r at hcall hP
  refine hcall.mono ?_
  rintro e w5 ⟨rfl, v1, v2, F5, hM5, t5⟩
  have b5 := b4.out.trans (t5.below (B := w.heap.size) b4.out.size (fun i hi => Nat.le_trans b3.out.size (hF.out i hi)))
  obtain ⟨⟨bb, vo, vc, vr, hA, rfl⟩, _⟩ := hM5
  have hoc := hA.oc
  obtain ⟨Ac, cc, rfl, hl1, hl2, hl3⟩ := ownsRow_ints hoc
  have z5 : w5.cell? ⟨m, 5, none⟩ = some (.slice Ac r.2.circle.length cc) := (cellm hA.blk 5).trans rfl
  replace b5 := Lib.hid b5
  replace hoc := Lib.hid hoc
  clear hl3 t5 hA hcall hM hF h4 b4
  cases hok : r.1.2 with
  | true =>
    rw [hok] at hP
    replace hP := Lib.hid hP
    go_wp2_with fail
    go_ret2
    rw [hP.out]
    exact ⟨.slice none 0 0, rfl, World.ownsRow_nil _ _ _ _, b5.out⟩
  | false =>
    rw [hok] at hP
    replace hP := Lib.hid hP
    go_wp2_with fail
    go_ret2
    rw [hP.out]
    exact ⟨_, rfl, hoc.out, b5.out⟩

theorem circleOf_good (E : MkEnv) (S : Sh) (hE : E.Good S) (k : Int) (w : World) (hb : Below E.B E.w0 w) (hB : E.B ≤ w.heap.size) (hk0 : 0 ≤ k) (hk1 : k < S.made.length) :
    Calls Try.prog 22 #[.agg #[.slice E.Am S.made.length E.cm, .slice E.At S.tks.length E.ct], .slice E.Ai S.inputs.length E.ci, .int .i64 k] w fun e w' =>
      GivesList (circleP S k) e w w' := (circleOf_own E S hE k w hb hB hk0 hk1).mono fun _ _ h => h.list

set_option maxHeartbeats 1000000 in
theorem circleOf_bad (Am At Ai : Option Addr) (cm ct ci : Nat) (made : List Bool) (tasks : List Task) (inputs : List Int) (B : Nat) (w0 : World) (k : Int) (w : World) (hs : SheetAt B w0 Am cm At ct made tasks) (hi : IntsAt B w0 Ai inputs) (hli : inputs.length ≤ maxLen)
    (hb : Below B w0 w) (hB : B ≤ w.heap.size) (hbad : sheetOk made tasks = true → takesOk made.length inputs = true → ¬ (0 ≤ k ∧ k < made.length)) :
    Calls Try.prog 22 #[.agg #[.slice Am made.length cm, .slice At tasks.length ct], .slice Ai inputs.length ci, .int .i64 k] w fun e w' =>
      e = .returned (.tuple #[.slice none 0 0, .bool false]) ∧ Below w.heap.size w w' := by
  have hc1 := fun w1 (hw : Below w.heap.size w w1) => sheetOk_calls Am At cm ct made tasks B w0 w1 (below_up' hb hB hw) (Nat.le_trans hB hw.size) hs
  have hc2 := fun w1 (hw : Below w.heap.size w w1) => takes_calls Am At Ai made.length cm tasks.length ct ci inputs B w0 w1 (below_up' hb hB hw) (Nat.le_trans hB hw.size) hli hi
  have hc3 := fun w1 => has_calls Am At made.length cm tasks.length ct k w1
  cases h1 : sheetOk made tasks with
  | false =>
    rw [h1] at hc1
    replace hc1 := Lib.hid hc1
    clear hc2 hc3 h1 hbad
    replace hb := Lib.hid hb
    replace hs := Lib.hid hs
    replace hi := Lib.hid hi
    go_enter Try.func22, Try.ntmps22
    go_wp2_with fail
    refine (hc1.out _ (below_al (Below.refl _ _) _)).mono ?_
    rintro e w1 ⟨rfl, h1⟩
    go_wp2_with fail
    go_ret2
    exact ⟨rfl, below_from h1⟩
  | true =>
    rw [h1] at hc1
    cases h2 : takesOk made.length inputs with
    | false =>
      rw [h2] at hc2
      replace hc1 := Lib.hid hc1
      replace hc2 := Lib.hid hc2
      clear hc3 h1 h2 hbad
      replace hb := Lib.hid hb
      replace hs := Lib.hid hs
      replace hi := Lib.hid hi
      go_enter Try.func22, Try.ntmps22
      go_wp2_with fail
      refine (hc1.out _ (below_al (Below.refl _ _) _)).mono ?_
      rintro e w1 ⟨rfl, h1⟩
      have x0 : w1.cell? ⟨w.heap.size, 0, none⟩ = some (.slice Am made.length cm) := (h1.cell (p := ⟨w.heap.size, 0, none⟩) (by simp)).trans (by simp)
      have x1 : w1.cell? ⟨w.heap.size, 1, none⟩ = some (.slice At tasks.length ct) := (h1.cell (p := ⟨w.heap.size, 1, none⟩) (by simp)).trans (by simp)
      have b1 := below_from h1
      replace b1 := Lib.hid b1
      clear h1
      go_wp2_with fail
      refine (hc2.out _ b1.out).mono ?_
      rintro e w2 ⟨rfl, h2⟩
      have b2 := below_up b1.out h2
      replace b2 := Lib.hid b2
      clear h2 x0 x1
      go_wp2_with fail
      go_ret2
      exact ⟨rfl, b2.out⟩
    | true =>
      rw [h2] at hc2
      have h3 : decide (0 ≤ k ∧ k < made.length) = false := by simpa using hbad h1 h2
      rw [h3] at hc3
      replace hc1 := Lib.hid hc1
      replace hc2 := Lib.hid hc2
      replace hc3 := Lib.hid hc3
      clear h1 h2 h3 hbad
      replace hb := Lib.hid hb
      replace hs := Lib.hid hs
      replace hi := Lib.hid hi
      go_enter Try.func22, Try.ntmps22
      go_wp2_with fail
      refine (hc1.out _ (below_al (Below.refl _ _) _)).mono ?_
      rintro e w1 ⟨rfl, h1⟩
      have x0 : w1.cell? ⟨w.heap.size, 0, none⟩ = some (.slice Am made.length cm) := (h1.cell (p := ⟨w.heap.size, 0, none⟩) (by simp)).trans (by simp)
      have x1 : w1.cell? ⟨w.heap.size, 1, none⟩ = some (.slice At tasks.length ct) := (h1.cell (p := ⟨w.heap.size, 1, none⟩) (by simp)).trans (by simp)
      have b1 := below_from h1
      have s1 : w.heap.size < w1.heap.size := by have := h1.size; simp at this; omega
      replace b1 := Lib.hid b1
      clear h1
      go_wp2_with fail
      refine (hc2.out _ b1.out).mono ?_
      rintro e w2 ⟨rfl, h2⟩
      have y0 : w2.cell? ⟨w.heap.size, 0, none⟩ = some (.slice Am made.length cm) := kept_cell h2 s1 x0
      have y1 : w2.cell? ⟨w.heap.size, 1, none⟩ = some (.slice At tasks.length ct) := kept_cell h2 s1 x1
      have b2 := below_up b1.out h2
      replace b2 := Lib.hid b2
      clear h2 x0 x1 s1
      go_wp2_with fail
      refine (hc3.out _).mono ?_
      rintro e w3 ⟨rfl, h3⟩
      have b3 := below_up b2.out h3
      replace b3 := Lib.hid b3
      clear h3 y0 y1
      go_wp2_with fail
      go_ret2
      exact ⟨rfl, b3.out⟩
set_option maxHeartbeats 1000000 in
theorem specCircleOf_good (E : MkEnv) (S : Sh) (hE : E.Good S) (hnod : ∀ T ∈ S.tks.map Tk.enc, nodes T ≤ 1000000000) (k : Int) (w : World) (hb : Below E.B E.w0 w) (hB : E.B ≤ w.heap.size) (hk0 : 0 ≤ k) (hk1 : k < S.made.length) :
    Calls Try.prog 23 #[.agg #[.slice E.Am S.made.length E.cm, .slice E.At S.tks.length E.ct], .slice E.Ai S.inputs.length E.ci, .int .i64 k] w fun e w' =>
      GivesList (specCircleP S k) e w w' := by
  have hok2 : takesOk S.made.length S.inputs = true := by simp [takesOk, hE.ok.ins, vals_iff.2 hE.ok.vals]
  have hin : inputsOk S.made (S.tks.map Tk.enc) S.inputs = true := by rw [inputsOk, hE.ok.sheet, hok2]; rfl
  have hten := hE.ok.ten
  have hc1 := fun w1 (hw : Below w.heap.size w w1) => l3Inputs_calls E.Am E.At E.Ai E.cm E.ct E.ci S.made (S.tks.map Tk.enc) S.inputs E.B E.w0 w1 (below_up' hb hB hw) (Nat.le_trans hB hw.size) hE.sheet hnod (Nat.le_trans hE.li hE.mi) hE.ins
  rw [hin] at hc1
  simp only [List.length_map] at hc1
  have hc2 := fun w1 => l6In_calls k 0 ((S.made.length : Int) - 1) w1
  have hd : decide (0 ≤ k ∧ k ≤ (S.made.length : Int) - 1) = true := by simp; omega
  rw [hd] at hc2
  have hc3 := fun w1 (hw : Below w.heap.size w w1) => skey_calls E S hE w1.heap.size S.made.length [] [] k _ _ hk0 (by omega) (uok0 S) ⟨_, _, sb0' E S w1 (below_up' hb hB hw) (Nat.le_trans hB hw.size), rfl⟩
  have hz := specP_zero S S.made.length [] [] k
  have hr : specCircleP S k = if (specP S S.made.length [] [] k).1.2 then ([], false) else ((specP S S.made.length [] [] k).2, true) := rfl
  generalize specP S S.made.length [] [] k = X at *
  rw [hr]
  obtain ⟨⟨x, ok⟩, cc⟩ := X
  dsimp only at hc3 hz ⊢
  replace hc1 := Lib.hid hc1
  replace hc2 := Lib.hid hc2
  replace hc3 := Lib.hid hc3
  clear hz
  clear hd hin hok2 hnod hr
  go_enter Try.func23, Try.ntmps23
  go_wp2_with fail
  refine (hc1.out _ (below_al (Below.refl _ _) _)).mono ?_
  rintro e w1 ⟨rfl, h1⟩
  have x0 : w1.cell? ⟨w.heap.size, 0, none⟩ = some (.slice E.Am S.made.length E.cm) := (h1.cell (p := ⟨w.heap.size, 0, none⟩) (by simp)).trans (by simp)
  have x1 : w1.cell? ⟨w.heap.size, 1, none⟩ = some (.slice E.At S.tks.length E.ct) := (h1.cell (p := ⟨w.heap.size, 1, none⟩) (by simp)).trans (by simp)
  have b1 := below_from h1
  replace b1 := Lib.hid b1
  clear h1
  go_wp2_with fail
  refine (hc2.out _).mono ?_
  rintro e w2 ⟨rfl, rfl⟩
  go_wp2_with fail
  refine (hc3.out _ b1.out).mono ?_
  rintro e w3 ⟨rfl, p0, p1, F3, ⟨vu, vc, hs3, rfl⟩, t3⟩
  have b3 : Below w.heap.size w w3 := b1.out.trans ((below_al (Below.refl _ w1) _).trans (t3.below (by simp) (fun i hi => by
    rcases hi with rfl | hi | hi
    · exact Nat.le_refl _
    · cases hi
    · cases hi)) |>.mono b1.out.size)
  replace b3 := Lib.hid b3
  obtain ⟨Ac, cc2, rfl, hl1, hl2, hl3⟩ := ownsRow_ints hs3.oc
  obtain ⟨z0, z1, z2, z3, z4, -, -, zz⟩ := hs3.cells
  replace hl3 := Lib.hid hl3
  dsimp only at hl1 z4
  clear hs3 t3 x0 x1 z0 z1 z2 z3
  dsimp only
  cases ok with
  | false =>
    go_wp2_with fail
    go_ret2
    exact ⟨Ac, cc2, rfl, hl1, hl2, hl3.out, b3.out⟩
  | true =>
    go_wp2_with fail
    go_ret2
    exact ⟨_, 0, rfl, by simp, by simp [maxLen], RowAt.nil _ _ _ _, below_al' b3.out _ b3.out.size⟩

set_option maxHeartbeats 1000000 in
theorem specCircleOf_bad (Am At Ai : Option Addr) (cm ct ci : Nat) (made : List Bool) (tasks : List Task) (inputs : List Int) (B : Nat) (w0 : World) (k : Int) (w : World) (hs : SheetAt B w0 Am cm At ct made tasks) (hi : IntsAt B w0 Ai inputs) (hli : inputs.length ≤ maxLen) (hnod : ∀ T ∈ tasks, nodes T ≤ 1000000000)
    (hb : Below B w0 w) (hB : B ≤ w.heap.size) (hbad : sheetOk made tasks = true → takesOk made.length inputs = true → ¬ (0 ≤ k ∧ k < made.length)) :
    Calls Try.prog 23 #[.agg #[.slice Am made.length cm, .slice At tasks.length ct], .slice Ai inputs.length ci, .int .i64 k] w fun e w' =>
      GivesList ([], false) e w w' := by
  have hc1 := fun w1 (hw : Below w.heap.size w w1) => l3Inputs_calls Am At Ai cm ct ci made tasks inputs B w0 w1 (below_up' hb hB hw) (Nat.le_trans hB hw.size) hs hnod hli hi
  have hc2 := fun w1 => l6In_calls k 0 ((made.length : Int) - 1) w1
  have hml : made.length ≤ maxLen := Nat.le_trans hs.lm hs.mm
  unfold maxLen at hml
  clear hs hi hb hnod
  cases h1 : inputsOk made tasks inputs with
  | false =>
    rw [h1] at hc1
    replace hc1 := Lib.hid hc1
    clear hc2 hbad h1
    go_enter Try.func23, Try.ntmps23
    go_wp2_with fail
    refine (hc1.out _ (below_al (Below.refl _ _) _)).mono ?_
    rintro e w1 ⟨rfl, h1⟩
    go_wp2_with fail
    go_ret2
    exact ⟨_, 0, rfl, by simp, by simp [maxLen], RowAt.nil _ _ _ _, below_al' (below_from h1) _ (below_from h1).size⟩
  | true =>
    rw [h1] at hc1
    have h2 := Bool.and_eq_true_iff.1 h1
    have h3 := hbad h2.1 h2.2
    have hd : decide (0 ≤ k ∧ k ≤ (made.length : Int) - 1) = false := by simp; omega
    rw [hd] at hc2
    replace hc1 := Lib.hid hc1
    replace hc2 := Lib.hid hc2
    clear hbad h1 h2 h3 hd
    go_enter Try.func23, Try.ntmps23
    go_wp2_with fail
    refine (hc1.out _ (below_al (Below.refl _ _) _)).mono ?_
    rintro e w1 ⟨rfl, h1⟩
    have x0 : w1.cell? ⟨w.heap.size, 0, none⟩ = some (.slice Am made.length cm) := (h1.cell (p := ⟨w.heap.size, 0, none⟩) (by simp)).trans (by simp)
    have b1 := below_from h1
    replace b1 := Lib.hid b1
    clear h1
    go_wp2_with fail
    refine (hc2.out _).mono ?_
    rintro e w2 ⟨rfl, rfl⟩
    go_wp2_with fail
    go_ret2
    exact ⟨_, 0, rfl, by simp, by simp [maxLen], RowAt.nil _ _ _ _, below_al' b1.out _ b1.out.size⟩
end Go.Proofs.Ytagmdljdcnmpdaa
