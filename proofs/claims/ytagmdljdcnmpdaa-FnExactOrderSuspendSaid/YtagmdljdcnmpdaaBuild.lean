import Derived.Test.YtagmdljdcnmpdaaKey
set_option linter.unusedVariables false
set_option linter.unusedSimpArgs false
namespace Go.Proofs.Ytagmdljdcnmpdaa
open Go Go.RowKit

def st0 : MkSt := ⟨fun _ => none, [], [], []⟩
theorem inv0 (S : Sh) : Inv S S.made.length st0 := by
  refine ⟨List.nodup_nil, ?_, by simp [st0], ?_, ?_, List.nodup_nil, ?_, ?_⟩ <;> simp [st0]

theorem okL_tks : ∀ (made : List Bool) (tasks : List Task), made.length = tasks.length → sheetOkL made tasks = true → ∃ tks : List Tk, tasks = tks.map Tk.enc ∧ ∀ t ∈ tks, t.ok := by
  intro made tasks
  induction tasks generalizing made with
  | nil => intro _ _; exact ⟨[], rfl, by simp⟩
  | cons t ts ih =>
    intro hl h
    cases made with
    | nil => simp at hl
    | cons m ms =>
      rw [sheetOkL_cons, Bool.and_eq_true, Bool.and_eq_true] at h
      obtain ⟨k, rfl, hk⟩ := okT_tk h.1.1
      obtain ⟨tks, rfl, ht⟩ := ih ms (by simpa using hl) h.2
      exact ⟨k :: tks, rfl, by
        intro t ht'
        rcases List.mem_cons.1 ht' with rfl | ht'
        · exact hk
        · exact ht t ht'⟩
theorem ok_sh {made : List Bool} {tasks : List Task} {inputs : List Int} (h1 : sheetOk made tasks = true) (h2 : takesOk made.length inputs = true) : ∃ tks : List Tk, tasks = tks.map Tk.enc ∧ Sh.Ok ⟨made, tks, inputs⟩ := by
  have h0 := h1
  simp only [sheetOk, Bool.and_eq_true, decide_eq_true_eq] at h1
  simp only [takesOk, Bool.and_eq_true, decide_eq_true_eq] at h2
  obtain ⟨tks, rfl, ht⟩ := okL_tks made tasks h1.1.1 h1.2
  exact ⟨tks, rfl, by simpa using h1.1.1, h1.1.2, ht, h2.1, vals_iff.1 h2.2, h0⟩

theorem newMaker_calls (E : MkEnv) (S : Sh) (w : World) (hb : Below E.B E.w0 w) (hB : E.B ≤ w.heap.size) :
    Calls Try.prog 43 #[.agg #[.slice E.Am S.made.length E.cm, .slice E.At S.tks.length E.ct], .slice E.Ai S.inputs.length E.ci] w fun e w' => ∃ m F, e = .returned (.pointer (some ⟨m, 0, none⟩)) ∧
      MakerIs E S m st0 w' F ∧ (∀ i, F i → w.heap.size ≤ i) ∧ Below w.heap.size w w' := by
  replace hb := Lib.hid hb
  have hmm := @run_makeMap Try.prog
  go_enter Try.func43, Try.ntmps43
  go_wp2
  go_ret
  refine ⟨w.heap.size + 2, _, rfl, ⟨w.heap.size + 1, .slice none 0 0, .slice none 0 0, .slice none 0 0, ⟨?_, ?_, ?_, ?_, ?_, ?_, ?_, ?_, ?_, ?_, ?_, ?_⟩, rfl⟩, ?_, ?_⟩
  · exact heap_new (by simp)
  · have h := MapIs.new Try.prog 3 3 (w.alloc (.cells #[.slice E.Am S.made.length E.cm, .slice E.At S.tks.length E.ct] 26))
    simp at h
    exact MapIs.block h (heap_old (by simp))
  · exact World.ownsRow_nil _ _ _ _
  · exact World.ownsRow_nil _ _ _ _
  · exact World.ownsRow_nil _ _ _ _
  · omega
  · omega
  · intro i hi; cases hi
  · intro i hi; cases hi
  · intro i hi; cases hi
  · exact ((hb.out.alloc hB _).alloc (by simp; omega) _).alloc (by simp; omega) _
  · simp; omega
  · intro i hi
    rcases hi with rfl | rfl | hi | hi | hi
    · omega
    · omega
    · cases hi
    · cases hi
    · cases hi
  · exact below_al (below_al (below_al (Below.refl _ _) _) _) _

/-- what building a key gives -/
def buildKeyP (S : Sh) (k : Int) : Int × Bool := (keyP S S.made.length st0 k).1

set_option maxHeartbeats 1000000 in
theorem buildKey_good (E : MkEnv) (S : Sh) (hE : E.Good S) (k : Int) (w : World) (hb : Below E.B E.w0 w) (hB : E.B ≤ w.heap.size) (hk0 : 0 ≤ k) (hk1 : k < S.made.length) :
    Calls Try.prog 11 #[.agg #[.slice E.Am S.made.length E.cm, .slice E.At S.tks.length E.ct], .slice E.Ai S.inputs.length E.ci, .int .i64 k] w fun e w' =>
      e = .returned (.tuple #[.int .i64 (buildKeyP S k).1, .bool (buildKeyP S k).2]) ∧ Below w.heap.size w w' := by
  have hok1 : sheetOk S.made (S.tks.map Tk.enc) = true := hE.ok.sheet
  have hok2 : takesOk S.made.length S.inputs = true := by simp [takesOk, hE.ok.ins, vals_iff.2 hE.ok.vals]
  have hok3 : decide (0 ≤ k ∧ k < S.made.length) = true := by simp [hk0, hk1]
  have hten := hE.ok.ten
  have hc1 := fun w1 (hw : Below w.heap.size w w1) => sheetOk_calls E.Am E.At E.cm E.ct S.made (S.tks.map Tk.enc) E.B E.w0 w1 (below_up' hb hB hw) (Nat.le_trans hB hw.size) hE.sheet
  rw [hok1] at hc1
  simp only [List.length_map] at hc1
  have hc2 := fun w1 (hw : Below w.heap.size w w1) => takes_calls E.Am E.At E.Ai S.made.length E.cm S.tks.length E.ct E.ci S.inputs E.B E.w0 w1 (below_up' hb hB hw) (Nat.le_trans hB hw.size) (Nat.le_trans hE.li hE.mi) hE.ins
  rw [hok2] at hc2
  have hc3 := fun w1 => has_calls E.Am E.At S.made.length E.cm S.tks.length E.ct k w1
  rw [hok3] at hc3
  have hc4 := fun w1 (hw : Below w.heap.size w w1) => newMaker_calls E S w1 (below_up' hb hB hw) (Nat.le_trans hB hw.size)
  have hc5 := key_calls E S hE
  replace hc1 := Lib.hid hc1
  replace hc2 := Lib.hid hc2
  replace hc3 := Lib.hid hc3
  replace hc4 := Lib.hid hc4
  replace hc5 := Lib.hid hc5
  replace hb := Lib.hid hb
  replace hE := Lib.hid hE
  clear hok1 hok2 hok3
  go_enter Try.func11, Try.ntmps11
  go_wp2_with fail
  refine (hc1.out _ (below_al (Below.refl _ _) _)).mono ?_
  rintro e w1 ⟨rfl, h1⟩
  have x0 : w1.cell? ⟨w.heap.size, 0, none⟩ = some (.slice E.Am S.made.length E.cm) := (h1.cell (p := ⟨w.heap.size, 0, none⟩) (by simp)).trans (by simp)
  have x1 : w1.cell? ⟨w.heap.size, 1, none⟩ = some (.slice E.At S.tks.length E.ct) := (h1.cell (p := ⟨w.heap.size, 1, none⟩) (by simp)).trans (by simp)
  have b1 := below_from h1
  have s1 : w.heap.size < w1.heap.size := by have := h1.size; simp at this; omega
  replace b1 := Lib.hid b1
  clear h1
  go_wp2_with fail
  refine (hc2.out _ b1.out).mono ?_
  rintro e w2 ⟨rfl, h2⟩
  have y0 : w2.cell? ⟨w.heap.size, 0, none⟩ = some (.slice E.Am S.made.length E.cm) := kept_cell h2 s1 x0
  have y1 : w2.cell? ⟨w.heap.size, 1, none⟩ = some (.slice E.At S.tks.length E.ct) := kept_cell h2 s1 x1
  have b2 := below_up b1.out h2
  have s2 : w.heap.size < w2.heap.size := by have := h2.size; omega
  replace b2 := Lib.hid b2
  clear h2 x0 x1 s1
  go_wp2_with fail
  refine (hc3.out _).mono ?_
  rintro e w3 ⟨rfl, h3⟩
  have x0 : w3.cell? ⟨w.heap.size, 0, none⟩ = some (.slice E.Am S.made.length E.cm) := kept_cell h3 s2 y0
  have x1 : w3.cell? ⟨w.heap.size, 1, none⟩ = some (.slice E.At S.tks.length E.ct) := kept_cell h3 s2 y1
  have b3 := below_up b2.out h3
  have s3 : w.heap.size < w3.heap.size := by have := h3.size; omega
  replace b3 := Lib.hid b3
  clear h3 y0 y1 s2
  go_wp2_with fail
  refine (hc4.out _ b3.out).mono ?_
  rintro e w4 ⟨m, F, rfl, hM, hF, h4⟩
  have b4 := below_up b3.out h4
  replace hM := Lib.hid hM
  replace hF := Lib.hid hF
  replace b4 := Lib.hid b4
  replace h4 := Lib.hid h4
  go_wp2_with fail
  refine (hc5.out m S.made.length st0 k _ F hk0 (by omega) ⟨hM.out, inv0 S⟩).mono ?_
  rintro e w5 ⟨rfl, v1, v2, F5, hM5, t5⟩
  have b5 := b4.out.trans (t5.below (B := w.heap.size) b4.out.size (fun i hi => Nat.le_trans b3.out.size (hF.out i hi)))
  replace b5 := Lib.hid b5
  clear t5 hM5
  go_wp2_with fail
  go_ret2
  exact ⟨rfl, b5.out⟩

set_option maxHeartbeats 1000000 in
theorem buildKey_bad (Am At Ai : Option Addr) (cm ct ci : Nat) (made : List Bool) (tasks : List Task) (inputs : List Int) (B : Nat) (w0 : World) (k : Int) (w : World) (hs : SheetAt B w0 Am cm At ct made tasks) (hi : IntsAt B w0 Ai inputs) (hli : inputs.length ≤ maxLen)
    (hb : Below B w0 w) (hB : B ≤ w.heap.size) (hbad : sheetOk made tasks = true → takesOk made.length inputs = true → ¬ (0 ≤ k ∧ k < made.length)) :
    Calls Try.prog 11 #[.agg #[.slice Am made.length cm, .slice At tasks.length ct], .slice Ai inputs.length ci, .int .i64 k] w fun e w' =>
      e = .returned (.tuple #[.int .i64 0, .bool false]) ∧ Below w.heap.size w w' := by
  have hc1 := fun w1 (hw : Below w.heap.size w w1) => sheetOk_calls Am At cm ct made tasks B w0 w1 (below_up' hb hB hw) (Nat.le_trans hB hw.size) hs
  have hc2 := fun w1 (hw : Below w.heap.size w w1) => takes_calls Am At Ai made.length cm tasks.length ct ci inputs B w0 w1 (below_up' hb hB hw) (Nat.le_trans hB hw.size) hli hi
  have hc3 := fun w1 => has_calls Am At made.length cm tasks.length ct k w1
  cases h1 : sheetOk made tasks with
  | false =>
    rw [h1] at hc1
    replace hc1 := Lib.hid hc1
    clear hc2 hc3 h1 hbad
    replace hb := Lib.hid hb
    replace hs := Lib.hid hs
    replace hi := Lib.hid hi
    go_enter Try.func11, Try.ntmps11
    go_wp2_with fail
    refine (hc1.out _ (below_al (Below.refl _ _) _)).mono ?_
    rintro e w1 ⟨rfl, h1⟩
    go_wp2_with fail
    go_ret2
    exact ⟨rfl, below_from h1⟩
  | true =>
    rw [h1] at hc1
    cases h2 : takesOk made.length inputs with
    | false =>
      rw [h2] at hc2
      replace hc1 := Lib.hid hc1
      replace hc2 := Lib.hid hc2
      clear hc3 h1 h2 hbad
      replace hb := Lib.hid hb
      replace hs := Lib.hid hs
      replace hi := Lib.hid hi
      go_enter Try.func11, Try.ntmps11
      go_wp2_with fail
      refine (hc1.out _ (below_al (Below.refl _ _) _)).mono ?_
      rintro e w1 ⟨rfl, h1⟩
      have x0 : w1.cell? ⟨w.heap.size, 0, none⟩ = some (.slice Am made.length cm) := (h1.cell (p := ⟨w.heap.size, 0, none⟩) (by simp)).trans (by simp)
      have x1 : w1.cell? ⟨w.heap.size, 1, none⟩ = some (.slice At tasks.length ct) := (h1.cell (p := ⟨w.heap.size, 1, none⟩) (by simp)).trans (by simp)
      have b1 := below_from h1
      replace b1 := Lib.hid b1
      clear h1
      go_wp2_with fail
      refine (hc2.out _ b1.out).mono ?_
      rintro e w2 ⟨rfl, h2⟩
      have b2 := below_up b1.out h2
      replace b2 := Lib.hid b2
      clear h2 x0 x1
      go_wp2_with fail
      go_ret2
      exact ⟨rfl, b2.out⟩
    | true =>
      rw [h2] at hc2
      have h3 : decide (0 ≤ k ∧ k < made.length) = false := by simpa using hbad h1 h2
      rw [h3] at hc3
      replace hc1 := Lib.hid hc1
      replace hc2 := Lib.hid hc2
      replace hc3 := Lib.hid hc3
      clear h1 h2 h3 hbad
      replace hb := Lib.hid hb
      replace hs := Lib.hid hs
      replace hi := Lib.hid hi
      go_enter Try.func11, Try.ntmps11
      go_wp2_with fail
      refine (hc1.out _ (below_al (Below.refl _ _) _)).mono ?_
      rintro e w1 ⟨rfl, h1⟩
      have x0 : w1.cell? ⟨w.heap.size, 0, none⟩ = some (.slice Am made.length cm) := (h1.cell (p := ⟨w.heap.size, 0, none⟩) (by simp)).trans (by simp)
      have x1 : w1.cell? ⟨w.heap.size, 1, none⟩ = some (.slice At tasks.length ct) := (h1.cell (p := ⟨w.heap.size, 1, none⟩) (by simp)).trans (by simp)
      have b1 := below_from h1
      have s1 : w.heap.size < w1.heap.size := by have := h1.size; simp at this; omega
      replace b1 := Lib.hid b1
      clear h1
      go_wp2_with fail
      refine (hc2.out _ b1.out).mono ?_
      rintro e w2 ⟨rfl, h2⟩
      have y0 : w2.cell? ⟨w.heap.size, 0, none⟩ = some (.slice Am made.length cm) := kept_cell h2 s1 x0
      have y1 : w2.cell? ⟨w.heap.size, 1, none⟩ = some (.slice At tasks.length ct) := kept_cell h2 s1 x1
      have b2 := below_up b1.out h2
      replace b2 := Lib.hid b2
      clear h2 x0 x1 s1
      go_wp2_with fail
      refine (hc3.out _).mono ?_
      rintro e w3 ⟨rfl, h3⟩
      have b3 := below_up b2.out h3
      replace b3 := Lib.hid b3
      clear h3 y0 y1
      go_wp2_with fail
      go_ret2
      exact ⟨rfl, b3.out⟩
end Go.Proofs.Ytagmdljdcnmpdaa
