import Derived.Test.YtkbblekengdhaaaPk5Told
set_option linter.unusedVariables false
set_option linter.unusedSimpArgs false
namespace Go.Proofs.Ytkbblekengdhaaa
open Go Go.RowKit

def st0 : MkSt := ⟨fun _ => none, [], [], []⟩
theorem inv0 (S : Sh) : Inv S S.made.length st0 := by
  refine ⟨List.nodup_nil, ?_, by simp [st0], ?_, ?_, List.nodup_nil, ?_, ?_⟩ <;> simp [st0]

theorem okL_tks : ∀ (made : List Bool) (tasks : List Task), made.length = tasks.length → sheetOkL made tasks = true → ∃ tks : List Tk, tasks = tks.map Tk.enc ∧ ∀ t ∈ tks, t.ok := by
  intro made tasks
  induction tasks generalizing made with
  | nil => intro _ _; exact ⟨[], rfl, by simp⟩
  | cons t ts ih =>
    intro hl h
    cases made with
    | nil => simp at hl
    | cons m ms =>
      rw [sheetOkL_cons, Bool.and_eq_true, Bool.and_eq_true] at h
      obtain ⟨k, rfl, hk⟩ := okT_tk h.1.1
      obtain ⟨tks, rfl, ht⟩ := ih ms (by simpa using hl) h.2
      exact ⟨k :: tks, rfl, by
        intro t ht'
        rcases List.mem_cons.1 ht' with rfl | ht'
        · exact hk
        · exact ht t ht'⟩
theorem ok_sh {made : List Bool} {tasks : List Task} {inputs : List Int} (h1 : sheetOk made tasks = true) (h2 : takesOk made.length inputs = true) : ∃ tks : List Tk, tasks = tks.map Tk.enc ∧ Sh.Ok ⟨made, tks, inputs⟩ := by
  have h0 := h1
  simp only [sheetOk, Bool.and_eq_true, decide_eq_true_eq] at h1
  simp only [takesOk, Bool.and_eq_true, decide_eq_true_eq] at h2
  obtain ⟨tks, rfl, ht⟩ := okL_tks made tasks h1.1.1 h1.2
  exact ⟨tks, rfl, by simpa using h1.1.1, h1.1.2, ht, h2.1, vals_iff.1 h2.2, h0⟩

theorem newMaker_calls (E : MkEnv) (S : Sh) (w : World) (hb : Below E.B E.w0 w) (hB : E.B ≤ w.heap.size) :
    Calls Try.prog 89 #[.agg #[.slice E.Am S.made.length E.cm, .slice E.At S.tks.length E.ct], .slice E.Ai S.inputs.length E.ci] w fun e w' => ∃ m F, e = .returned (.pointer (some ⟨m, 0, none⟩)) ∧
      MakerIs E S m st0 w' F ∧ (∀ i, F i → w.heap.size ≤ i) ∧ Below w.heap.size w w' := by
  replace hb := Lib.hid hb
  have hmm := @run_makeMap Try.prog
  go_enter Try.func89, Try.ntmps89
  go_wp2
  go_ret
  refine ⟨w.heap.size + 2, _, rfl, ⟨w.heap.size + 1, .slice none 0 0, .slice none 0 0, .slice none 0 0, ⟨?_, ?_, ?_, ?_, ?_, ?_, ?_, ?_, ?_, ?_, ?_, ?_⟩, rfl⟩, ?_, ?_⟩
  · exact heap_new (by simp)
  · have h := MapIs.new Try.prog 3 3 (w.alloc (.cells #[.slice E.Am S.made.length E.cm, .slice E.At S.tks.length E.ct] 26))
    simp at h
    exact MapIs.block h (heap_old (by simp))
  · exact World.ownsRow_nil _ _ _ _
  · exact World.ownsRow_nil _ _ _ _
  · exact World.ownsRow_nil _ _ _ _
  · omega
  · omega
  · intro i hi; cases hi
  · intro i hi; cases hi
  · intro i hi; cases hi
  · exact ((hb.out.alloc hB _).alloc (by simp; omega) _).alloc (by simp; omega) _
  · simp; omega
  · intro i hi
    rcases hi with rfl | rfl | hi | hi | hi
    · omega
    · omega
    · cases hi
    · cases hi
    · cases hi
  · exact below_al (below_al (below_al (Below.refl _ _) _) _) _

/-- what building a key gives -/
def buildKeyP (S : Sh) (k : Int) : Int × Bool := (keyP S S.made.length st0 k).1

set_option maxHeartbeats 1000000 in
theorem buildKey_good (E : MkEnv) (S : Sh) (hE : E.Good S) (k : Int) (w : World) (hb : Below E.B E.w0 w) (hB : E.B ≤ w.heap.size) (hk0 : 0 ≤ k) (hk1 : k < S.made.length) :
    Calls Try.prog 69 #[.agg #[.slice E.Am S.made.length E.cm, .slice E.At S.tks.length E.ct], .slice E.Ai S.inputs.length E.ci, .int .i64 k] w fun e w' =>
      e = .returned (.tuple #[.int .i64 (buildKeyP S k).1, .bool (buildKeyP S k).2]) ∧ Below w.heap.size w w' := by
  have hok1 : sheetOk S.made (S.tks.map Tk.enc) = true := hE.ok.sheet
  have hok2 : takesOk S.made.length S.inputs = true := by simp [takesOk, hE.ok.ins, vals_iff.2 hE.ok.vals]
  have hok3 : decide (0 ≤ k ∧ k < S.made.length) = true := by simp [hk0, hk1]
  have hten := hE.ok.ten
  have hc1 := fun w1 (hw : Below w.heap.size w w1) => sheetOk_calls E.Am E.At E.cm E.ct S.made (S.tks.map Tk.enc) E.B E.w0 w1 (below_up' hb hB hw) (Nat.le_trans hB hw.size) hE.sheet
  rw [hok1] at hc1
  simp only [List.length_map] at hc1
  have hc2 := fun w1 (hw : Below w.heap.size w w1) => takes_calls E.Am E.At E.Ai S.made.length E.cm S.tks.length E.ct E.ci S.inputs E.B E.w0 w1 (below_up' hb hB hw) (Nat.le_trans hB hw.size) (Nat.le_trans hE.li hE.mi) hE.ins
  rw [hok2] at hc2
  have hc3 := fun w1 => has_calls E.Am E.At S.made.length E.cm S.tks.length E.ct k w1
  rw [hok3] at hc3
  have hc4 := fun w1 (hw : Below w.heap.size w w1) => newMaker_calls E S w1 (below_up' hb hB hw) (Nat.le_trans hB hw.size)
  have hc5 := key_calls E S hE
  replace hc1 := Lib.hid hc1
  replace hc2 := Lib.hid hc2
  replace hc3 := Lib.hid hc3
  replace hc4 := Lib.hid hc4
  replace hc5 := Lib.hid hc5
  replace hb := Lib.hid hb
  replace hE := Lib.hid hE
  clear hok1 hok2 hok3
  go_enter Try.func69, Try.ntmps69
  go_wp2_with fail
  refine (hc1.out _ (below_al (Below.refl _ _) _)).mono ?_
  rintro e w1 ⟨rfl, h1⟩
  have x0 : w1.cell? ⟨w.heap.size, 0, none⟩ = some (.slice E.Am S.made.length E.cm) := (h1.cell (p := ⟨w.heap.size, 0, none⟩) (by simp)).trans (by simp)
  have x1 : w1.cell? ⟨w.heap.size, 1, none⟩ = some (.slice E.At S.tks.length E.ct) := (h1.cell (p := ⟨w.heap.size, 1, none⟩) (by simp)).trans (by simp)
  have b1 := below_from h1
  have s1 : w.heap.size < w1.heap.size := by have := h1.size; simp at this; omega
  replace b1 := Lib.hid b1
  clear h1
  go_wp2_with fail
  refine (hc2.out _ b1.out).mono ?_
  rintro e w2 ⟨rfl, h2⟩
  have y0 : w2.cell? ⟨w.heap.size, 0, none⟩ = some (.slice E.Am S.made.length E.cm) := kept_cell h2 s1 x0
  have y1 : w2.cell? ⟨w.heap.size, 1, none⟩ = some (.slice E.At S.tks.length E.ct) := kept_cell h2 s1 x1
  have b2 := below_up b1.out h2
  have s2 : w.heap.size < w2.heap.size := by have := h2.size; omega
  replace b2 := Lib.hid b2
  clear h2 x0 x1 s1
  go_wp2_with fail
  refine (hc3.out _).mono ?_
  rintro e w3 ⟨rfl, h3⟩
  have x0 : w3.cell? ⟨w.heap.size, 0, none⟩ = some (.slice E.Am S.made.length E.cm) := kept_cell h3 s2 y0
  have x1 : w3.cell? ⟨w.heap.size, 1, none⟩ = some (.slice E.At S.tks.length E.ct) := kept_cell h3 s2 y1
  have b3 := below_up b2.out h3
  have s3 : w.heap.size < w3.heap.size := by have := h3.size; omega
  replace b3 := Lib.hid b3
  clear h3 y0 y1 s2
  go_wp2_with fail
  refine (hc4.out _ b3.out).mono ?_
  rintro e w4 ⟨m, F, rfl, hM, hF, h4⟩
  have b4 := below_up b3.out h4
  replace hM := Lib.hid hM
  replace hF := Lib.hid hF
  replace b4 := Lib.hid b4
  replace h4 := Lib.hid h4
  go_wp2_with fail
  refine (hc5.out m S.made.length st0 k _ F hk0 (by omega) ⟨hM.out, inv0 S⟩).mono ?_
  rintro e w5 ⟨rfl, v1, v2, F5, hM5, t5⟩
  have b5 := b4.out.trans (t5.below (B := w.heap.size) b4.out.size (fun i hi => Nat.le_trans b3.out.size (hF.out i hi)))
  replace b5 := Lib.hid b5
  clear t5 hM5
  go_wp2_with fail
  go_ret2
  exact ⟨rfl, b5.out⟩

set_option maxHeartbeats 1000000 in
theorem buildKey_bad (Am At Ai : Option Addr) (cm ct ci : Nat) (made : List Bool) (tasks : List Task) (inputs : List Int) (B : Nat) (w0 : World) (k : Int) (w : World) (hs : SheetAt B w0 Am cm At ct made tasks) (hi : IntsAt B w0 Ai inputs) (hli : inputs.length ≤ maxLen)
    (hb : Below B w0 w) (hB : B ≤ w.heap.size) (hbad : sheetOk made tasks = true → takesOk made.length inputs = true → ¬ (0 ≤ k ∧ k < made.length)) :
    Calls Try.prog 69 #[.agg #[.slice Am made.length cm, .slice At tasks.length ct], .slice Ai inputs.length ci, .int .i64 k] w fun e w' =>
      e = .returned (.tuple #[.int .i64 0, .bool false]) ∧ Below w.heap.size w w' := by
  have hc1 := fun w1 (hw : Below w.heap.size w w1) => sheetOk_calls Am At cm ct made tasks B w0 w1 (below_up' hb hB hw) (Nat.le_trans hB hw.size) hs
  have hc2 := fun w1 (hw : Below w.heap.size w w1) => takes_calls Am At Ai made.length cm tasks.length ct ci inputs B w0 w1 (below_up' hb hB hw) (Nat.le_trans hB hw.size) hli hi
  have hc3 := fun w1 => has_calls Am At made.length cm tasks.length ct k w1
  cases h1 : sheetOk made tasks with
  | false =>
    rw [h1] at hc1
    replace hc1 := Lib.hid hc1
    clear hc2 hc3 h1 hbad
    replace hb := Lib.hid hb
    replace hs := Lib.hid hs
    replace hi := Lib.hid hi
    go_enter Try.func69, Try.ntmps69
    go_wp2_with fail
    refine (hc1.out _ (below_al (Below.refl _ _) _)).mono ?_
    rintro e w1 ⟨rfl, h1⟩
    go_wp2_with fail
    go_ret2
    exact ⟨rfl, below_from h1⟩
  | true =>
    rw [h1] at hc1
    cases h2 : takesOk made.length inputs with
    | false =>
      rw [h2] at hc2
      replace hc1 := Lib.hid hc1
      replace hc2 := Lib.hid hc2
      clear hc3 h1 h2 hbad
      replace hb := Lib.hid hb
      replace hs := Lib.hid hs
      replace hi := Lib.hid hi
      go_enter Try.func69, Try.ntmps69
      go_wp2_with fail
      refine (hc1.out _ (below_al (Below.refl _ _) _)).mono ?_
      rintro e w1 ⟨rfl, h1⟩
      have x0 : w1.cell? ⟨w.heap.size, 0, none⟩ = some (.slice Am made.length cm) := (h1.cell (p := ⟨w.heap.size, 0, none⟩) (by simp)).trans (by simp)
      have x1 : w1.cell? ⟨w.heap.size, 1, none⟩ = some (.slice At tasks.length ct) := (h1.cell (p := ⟨w.heap.size, 1, none⟩) (by simp)).trans (by simp)
      have b1 := below_from h1
      replace b1 := Lib.hid b1
      clear h1
      go_wp2_with fail
      refine (hc2.out _ b1.out).mono ?_
      rintro e w2 ⟨rfl, h2⟩
      have b2 := below_up b1.out h2
      replace b2 := Lib.hid b2
      clear h2 x0 x1
      go_wp2_with fail
      go_ret2
      exact ⟨rfl, b2.out⟩
    | true =>
      rw [h2] at hc2
      have h3 : decide (0 ≤ k ∧ k < made.length) = false := by simpa using hbad h1 h2
      rw [h3] at hc3
      replace hc1 := Lib.hid hc1
      replace hc2 := Lib.hid hc2
      replace hc3 := Lib.hid hc3
      clear h1 h2 h3 hbad
      replace hb := Lib.hid hb
      replace hs := Lib.hid hs
      replace hi := Lib.hid hi
      go_enter Try.func69, Try.ntmps69
      go_wp2_with fail
      refine (hc1.out _ (below_al (Below.refl _ _) _)).mono ?_
      rintro e w1 ⟨rfl, h1⟩
      have x0 : w1.cell? ⟨w.heap.size, 0, none⟩ = some (.slice Am made.length cm) := (h1.cell (p := ⟨w.heap.size, 0, none⟩) (by simp)).trans (by simp)
      have x1 : w1.cell? ⟨w.heap.size, 1, none⟩ = some (.slice At tasks.length ct) := (h1.cell (p := ⟨w.heap.size, 1, none⟩) (by simp)).trans (by simp)
      have b1 := below_from h1
      have s1 : w.heap.size < w1.heap.size := by have := h1.size; simp at this; omega
      replace b1 := Lib.hid b1
      clear h1
      go_wp2_with fail
      refine (hc2.out _ b1.out).mono ?_
      rintro e w2 ⟨rfl, h2⟩
      have y0 : w2.cell? ⟨w.heap.size, 0, none⟩ = some (.slice Am made.length cm) := kept_cell h2 s1 x0
      have y1 : w2.cell? ⟨w.heap.size, 1, none⟩ = some (.slice At tasks.length ct) := kept_cell h2 s1 x1
      have b2 := below_up b1.out h2
      replace b2 := Lib.hid b2
      clear h2 x0 x1 s1
      go_wp2_with fail
      refine (hc3.out _).mono ?_
      rintro e w3 ⟨rfl, h3⟩
      have b3 := below_up b2.out h3
      replace b3 := Lib.hid b3
      clear h3 y0 y1
      go_wp2_with fail
      go_ret2
      exact ⟨rfl, b3.out⟩
end Go.Proofs.Ytkbblekengdhaaa

set_option linter.unusedVariables false
set_option linter.unusedSimpArgs false
namespace Go.Proofs.Ytkbblekengdhaaa
open Go Go.RowKit

theorem skey_calls (E : MkEnv) (S : Sh) (hE : E.Good S) (m : Nat) : ∀ (n : Nat) (u c : List Int) (k : Int) (w : World) (F : Nat → Prop), 0 ≤ k → k ≤ 9 → UOk S n u → SbI E S m u c w F →
    Calls Try.prog 126 #[.pointer (some ⟨m, 0, none⟩), .int .i64 k] w (Gives (SbI E S m u) F w (specP S n u c k)) := by
  intro n
  induction n with
  | zero =>
    intro u c k w F hk0 hk9 hu h
    cases hmk : mkK S.made k with
    | false => exact skey_unmade E S hE m 0 u c k w F hk0 hk9 h hmk
    | true =>
      by_cases ho : 0 ≤ idx (fun x => k == x) u
      · exact skey_under E S hE m 0 u c k w F hk0 hk9 h hmk (Nat.le_trans hu.len hE.ok.ten) ho
      · exfalso
        have hkr := mkK_range (show mkK S.made k ≠ false by rw [hmk]; simp)
        have h1 : (k :: u).Nodup := List.nodup_cons.2 ⟨not_open ho, hu.nodup⟩
        have h2 := nodup_bound (n := S.made.length) h1 (fun x hx => by
          rcases List.mem_cons.1 hx with rfl | hx
          · exact hkr
          · exact hu.range x hx)
        have h3 := hu.fuel
        simp at h2
        omega
  | succ n ih =>
    intro u c k w F hk0 hk9 hu h
    cases hmk : mkK S.made k with
    | false => exact skey_unmade E S hE m (n + 1) u c k w F hk0 hk9 h hmk
    | true =>
      by_cases ho : 0 ≤ idx (fun x => k == x) u
      · exact skey_under E S hE m (n + 1) u c k w F hk0 hk9 h hmk (Nat.le_trans hu.len hE.ok.ten) ho
      · exact skey_new E S hE m n (fun u c k w F a b d e => ih u c k w F a b d e) u c k w F hk0 hk9 hu h hmk ho
theorem uok0 (S : Sh) : UOk S S.made.length [] := ⟨List.nodup_nil, fun x hx => (by cases hx), by simp⟩
theorem specP_zero (S : Sh) (n : Nat) (u c : List Int) (k : Int) : (specP S n u c k).1.2 = false → (specP S n u c k).1.1 = 0 := by
  intro h
  by_cases hm : mkK S.made k = false
  · rw [specP_unmade hm] at h; cases h
  · have hm' : mkK S.made k = true := by simpa using hm
    by_cases ho : 0 ≤ idx (fun x => k == x) u
    · rw [specP_under hm' ho]
    · cases n with
      | zero => rw [specP, if_neg hm, if_neg ho]
      | succ n => rw [specP_new hm' ho] at h ⊢; exact Itr.run_zero _ _ _ h
/-- the reference's key, from nothing -/
def specKeyP (S : Sh) (k : Int) : Int × Bool := (specP S S.made.length [] [] k).1
theorem knE0 (S : Sh) : KnE S st0.known := ⟨fun _ => 0, 0, fun j v h => by cases h⟩
theorem build_spec {S : Sh} (hS : S.Ok) (k : Int) : buildKeyP S k = specKeyP S k ∧ ((keyP S S.made.length st0 k).1.2 = false → (keyP S S.made.length st0 k).2.circle = (specP S S.made.length [] [] k).2) := by
  have h := keyP_spec hS S.made.length st0 [] k (inv0 S) (knE0 S)
  exact ⟨h.1.1, h.1.2.2⟩

theorem sb0 (E : MkEnv) (S : Sh) (w : World) (hb : Below E.B E.w0 w) (hB : E.B ≤ w.heap.size) (o : Obj) :
    SbAt E S (w.heap.size + 1) (.slice none 0 0) (.slice none 0 0) [] [] ((w.alloc o).alloc (.cells #[.slice E.Am S.made.length E.cm, .slice E.At S.tks.length E.ct, .slice E.Ai S.inputs.length E.ci, .slice none 0 0, .slice none 0 0] 140 (0, 0))) :=
  ⟨heap_new (by simp), World.ownsRow_nil _ _ _ _, World.ownsRow_nil _ _ _ _, by omega, fun i hi => (by cases hi), below_al' (below_al' hb _ hB) _ (by simp; omega), by simp; omega⟩
theorem sb0' (E : MkEnv) (S : Sh) (w : World) (hb : Below E.B E.w0 w) (hB : E.B ≤ w.heap.size) :
    SbAt E S w.heap.size (.slice none 0 0) (.slice none 0 0) [] [] (w.alloc (.cells #[.slice E.Am S.made.length E.cm, .slice E.At S.tks.length E.ct, .slice E.Ai S.inputs.length E.ci, .slice none 0 0, .slice none 0 0] 140 (0, 0))) :=
  ⟨heap_new rfl, World.ownsRow_nil _ _ _ _, World.ownsRow_nil _ _ _ _, hB, fun i hi => (by cases hi), below_al' hb _ hB, by simp; omega⟩

set_option maxHeartbeats 1000000 in
theorem specBuildKey_good (E : MkEnv) (S : Sh) (hE : E.Good S) (hnod : ∀ T ∈ S.tks.map Tk.enc, nodes T ≤ 1000000000) (k : Int) (w : World) (hb : Below E.B E.w0 w) (hB : E.B ≤ w.heap.size) (hk0 : 0 ≤ k) (hk1 : k < S.made.length) :
    Calls Try.prog 91 #[.agg #[.slice E.Am S.made.length E.cm, .slice E.At S.tks.length E.ct], .slice E.Ai S.inputs.length E.ci, .int .i64 k] w fun e w' =>
      e = .returned (.tuple #[.int .i64 (specKeyP S k).1, .bool (specKeyP S k).2]) ∧ Below w.heap.size w w' := by
  have hok2 : takesOk S.made.length S.inputs = true := by simp [takesOk, hE.ok.ins, vals_iff.2 hE.ok.vals]
  have hin : inputsOk S.made (S.tks.map Tk.enc) S.inputs = true := by rw [inputsOk, hE.ok.sheet, hok2]; rfl
  have hten := hE.ok.ten
  have hc1 := fun w1 (hw : Below w.heap.size w w1) => l3Inputs_calls E.Am E.At E.Ai E.cm E.ct E.ci S.made (S.tks.map Tk.enc) S.inputs E.B E.w0 w1 (below_up' hb hB hw) (Nat.le_trans hB hw.size) hE.sheet hnod (Nat.le_trans hE.li hE.mi) hE.ins
  rw [hin] at hc1
  simp only [List.length_map] at hc1
  have hc2 := fun w1 => l6In_calls k 0 ((S.made.length : Int) - 1) w1
  have hd : decide (0 ≤ k ∧ k ≤ (S.made.length : Int) - 1) = true := by simp; omega
  rw [hd] at hc2
  have hc3 := fun w1 (hw : Below w.heap.size w w1) => skey_calls E S hE w1.heap.size S.made.length [] [] k _ _ hk0 (by omega) (uok0 S) ⟨_, _, sb0' E S w1 (below_up' hb hB hw) (Nat.le_trans hB hw.size), rfl⟩
  have hz := specP_zero S S.made.length [] [] k
  have hr : specKeyP S k = (specP S S.made.length [] [] k).1 := rfl
  generalize specP S S.made.length [] [] k = X at *
  rw [hr]
  obtain ⟨⟨x, ok⟩, cc⟩ := X
  dsimp only at hc3 hz ⊢
  replace hc1 := Lib.hid hc1
  replace hc2 := Lib.hid hc2
  replace hc3 := Lib.hid hc3
  replace hz := Lib.hid hz
  clear hd hin hok2 hnod hr
  go_enter Try.func91, Try.ntmps91
  go_wp2_with fail
  refine (hc1.out _ (below_al (Below.refl _ _) _)).mono ?_
  rintro e w1 ⟨rfl, h1⟩
  have x0 : w1.cell? ⟨w.heap.size, 0, none⟩ = some (.slice E.Am S.made.length E.cm) := (h1.cell (p := ⟨w.heap.size, 0, none⟩) (by simp)).trans (by simp)
  have x1 : w1.cell? ⟨w.heap.size, 1, none⟩ = some (.slice E.At S.tks.length E.ct) := (h1.cell (p := ⟨w.heap.size, 1, none⟩) (by simp)).trans (by simp)
  have b1 := below_from h1
  replace b1 := Lib.hid b1
  clear h1
  go_wp2_with fail
  refine (hc2.out _).mono ?_
  rintro e w2 ⟨rfl, rfl⟩
  go_wp2_with fail
  refine (hc3.out _ b1.out).mono ?_
  rintro e w3 ⟨rfl, p0, p1, F3, ⟨vu, vc, hs3, rfl⟩, t3⟩
  have b3 : Below w.heap.size w w3 := b1.out.trans ((below_al (Below.refl _ w1) _).trans (t3.below (by simp) (fun i hi => by
    rcases hi with rfl | hi | hi
    · exact Nat.le_refl _
    · cases hi
    · cases hi)) |>.mono b1.out.size)
  replace b3 := Lib.hid b3
  clear hs3 t3 x0 x1
  dsimp only
  cases ok with
  | false =>
    obtain rfl : x = 0 := hz.out rfl
    clear hz
    go_wp2_with fail
    go_ret2
    exact ⟨rfl, b3.out⟩
  | true =>
    clear hz
    go_wp2_with fail
    go_ret2
    exact ⟨rfl, b3.out⟩

set_option maxHeartbeats 1000000 in
theorem specBuildKey_bad (Am At Ai : Option Addr) (cm ct ci : Nat) (made : List Bool) (tasks : List Task) (inputs : List Int) (B : Nat) (w0 : World) (k : Int) (w : World) (hs : SheetAt B w0 Am cm At ct made tasks) (hi : IntsAt B w0 Ai inputs) (hli : inputs.length ≤ maxLen) (hnod : ∀ T ∈ tasks, nodes T ≤ 1000000000)
    (hb : Below B w0 w) (hB : B ≤ w.heap.size) (hbad : sheetOk made tasks = true → takesOk made.length inputs = true → ¬ (0 ≤ k ∧ k < made.length)) :
    Calls Try.prog 91 #[.agg #[.slice Am made.length cm, .slice At tasks.length ct], .slice Ai inputs.length ci, .int .i64 k] w fun e w' =>
      e = .returned (.tuple #[.int .i64 0, .bool false]) ∧ Below w.heap.size w w' := by
  have hc1 := fun w1 (hw : Below w.heap.size w w1) => l3Inputs_calls Am At Ai cm ct ci made tasks inputs B w0 w1 (below_up' hb hB hw) (Nat.le_trans hB hw.size) hs hnod hli hi
  have hc2 := fun w1 => l6In_calls k 0 ((made.length : Int) - 1) w1
  have hml : made.length ≤ maxLen := Nat.le_trans hs.lm hs.mm
  unfold maxLen at hml
  clear hs hi hb hnod
  cases h1 : inputsOk made tasks inputs with
  | false =>
    rw [h1] at hc1
    replace hc1 := Lib.hid hc1
    clear hc2 hbad h1
    go_enter Try.func91, Try.ntmps91
    go_wp2_with fail
    refine (hc1.out _ (below_al (Below.refl _ _) _)).mono ?_
    rintro e w1 ⟨rfl, h1⟩
    go_wp2_with fail
    go_ret2
    exact ⟨rfl, below_from h1⟩
  | true =>
    rw [h1] at hc1
    have h2 := Bool.and_eq_true_iff.1 h1
    have h3 := hbad h2.1 h2.2
    have hd : decide (0 ≤ k ∧ k ≤ (made.length : Int) - 1) = false := by simp; omega
    rw [hd] at hc2
    replace hc1 := Lib.hid hc1
    replace hc2 := Lib.hid hc2
    clear hbad h1 h2 h3 hd
    go_enter Try.func91, Try.ntmps91
    go_wp2_with fail
    refine (hc1.out _ (below_al (Below.refl _ _) _)).mono ?_
    rintro e w1 ⟨rfl, h1⟩
    have x0 : w1.cell? ⟨w.heap.size, 0, none⟩ = some (.slice Am made.length cm) := (h1.cell (p := ⟨w.heap.size, 0, none⟩) (by simp)).trans (by simp)
    have b1 := below_from h1
    replace b1 := Lib.hid b1
    clear h1
    go_wp2_with fail
    refine (hc2.out _).mono ?_
    rintro e w2 ⟨rfl, rfl⟩
    go_wp2_with fail
    go_ret2
    exact ⟨rfl, b1.out⟩
end Go.Proofs.Ytkbblekengdhaaa

set_option linter.unusedVariables false
set_option linter.unusedSimpArgs false
namespace Go.Proofs.Ytkbblekengdhaaa
open Go Go.RowKit

/-! what a task may fetch -/
mutual
def mayTask : Task → Int → Bool
  | .mk k n ps, i => (decide (k = 1) && decide (i = n)) || (decide (k = 5) && decide (0 ≤ i ∧ i ≤ 9)) || mayTaskL ps i
def mayTaskL : List Task → Int → Bool
  | [], _ => false
  | p :: ps, i => mayTask p i || mayTaskL ps i
end
def Itr.In (P : Int → Prop) : Itr → Prop
  | .done _ => True
  | .ask k c => P k ∧ ∀ x, (c x).In P
theorem Itr.In_mono {P Q : Int → Prop} (h : ∀ k, P k → Q k) : ∀ m : Itr, m.In P → m.In Q := by
  intro m
  induction m with
  | done v => intro _; trivial
  | ask k c ih => intro hm; exact ⟨h k hm.1, fun x => ih x (hm.2 x)⟩
theorem Itr.bind_In {P : Int → Prop} : ∀ (m : Itr) (g : Int → Itr), m.In P → (∀ x, (g x).In P) → (m.bind g).In P := by
  intro m
  induction m with
  | done v => intro g _ hg; exact hg v
  | ask k c ih => intro g hm hg; exact ⟨hm.1, fun x => ih x g (hm.2 x) hg⟩
theorem Tk.itr_In : ∀ t : Tk, t.itr.In (fun k => mayTask t.enc k = true) := by
  intro t
  induction t with
  | num n => trivial
  | get k => exact ⟨by simp [Tk.enc, mayTask], fun _ => trivial⟩
  | add a b iha ihb => exact Itr.bind_In _ _ (Itr.In_mono (fun k h => by simp [Tk.enc, mayTask, mayTaskL, h]) _ iha) fun x => Itr.bind_In _ _ (Itr.In_mono (fun k h => by simp [Tk.enc, mayTask, mayTaskL, h]) _ ihb) fun y => trivial
  | mul a b iha ihb => exact Itr.bind_In _ _ (Itr.In_mono (fun k h => by simp [Tk.enc, mayTask, mayTaskL, h]) _ iha) fun x => Itr.bind_In _ _ (Itr.In_mono (fun k h => by simp [Tk.enc, mayTask, mayTaskL, h]) _ ihb) fun y => trivial
  | cond a b d iha ihb ihd =>
    refine Itr.bind_In _ _ (Itr.In_mono (fun k h => by simp [Tk.enc, mayTask, mayTaskL, h]) _ iha) fun x => ?_
    split
    · exact Itr.In_mono (fun k h => by simp [Tk.enc, mayTask, mayTaskL, h]) _ ihb
    · exact Itr.In_mono (fun k h => by simp [Tk.enc, mayTask, mayTaskL, h]) _ ihd
  | ix n a iha =>
    refine Itr.bind_In _ _ (Itr.In_mono (fun k h => by simp [Tk.enc, mayTask, mayTaskL, h]) _ iha) fun x => ⟨?_, fun _ => trivial⟩
    have h1 : 0 ≤ (n + x) % 10 ∧ (n + x) % 10 ≤ 9 := by omega
    simp [Tk.enc, mayTask, h1]
theorem Itr.run_fail {σ : Type} {f : σ → Int → (Int × Bool) × σ} {P : Int → Prop} {G : σ → Prop} (h : ∀ s k, P k → (f s k).1.2 = false → G (f s k).2) : ∀ (m : Itr) (s : σ), m.In P → (m.run f s).1.2 = false → G (m.run f s).2 := by
  intro m
  induction m with
  | done v => intro s _ hr; simp [Itr.run] at hr
  | ask k c ih =>
    intro s hm hr
    by_cases h1 : (f s k).1.2 = true
    · rw [Itr.run_yes h1] at hr ⊢; exact ih _ _ (hm.2 _) hr
    · rw [Itr.run_no h1]; exact h s k hm.1 (by simpa using h1)

/-! a circle -/
def Cyc (S : Sh) (l : List Int) : Prop := l ≠ [] ∧ ∀ i (h : i < l.length), mkK S.made l[i] = true ∧ mayTask (S.tk l[i]).enc (l[(i + 1) % l.length]'(Nat.mod_lt _ (by omega))) = true
/-- each key under way may fetch the next one, the last one k -/
structure Chain (S : Sh) (u : List Int) (k : Int) : Prop where
  made : ∀ x ∈ u, mkK S.made x = true
  next : ∀ i (h : i + 1 < u.length), mayTask (S.tk u[i]).enc u[i + 1] = true
  last : ∀ i (h : i < u.length), i + 1 = u.length → mayTask (S.tk u[i]).enc k = true
theorem Chain.push {S : Sh} {u : List Int} {k d : Int} (h : Chain S u k) (hk : mkK S.made k = true) (hd : mayTask (S.tk k).enc d = true) : Chain S (u ++ [k]) d := by
  refine ⟨fun x hx => ?_, fun i hi => ?_, fun i hi he => ?_⟩
  · rcases List.mem_append.1 hx with h1 | h1
    · exact h.made x h1
    · rw [List.mem_singleton.1 h1]; exact hk
  · simp only [List.length_append, List.length_cons, List.length_nil] at hi
    have h1 : i < u.length := by omega
    rw [List.getElem_append_left h1]
    by_cases h2 : i + 1 < u.length
    · rw [List.getElem_append_left h2]; exact h.next i h2
    · have h3 : i + 1 = u.length := by omega
      have : (u ++ [k])[i + 1]'(by simp; omega) = k := by simp [h3]
      rw [this]; exact h.last i h1 h3
  · simp only [List.length_append, List.length_cons, List.length_nil] at hi he
    have h3 : i = u.length := by omega
    have : (u ++ [k])[i]'(by simp; omega) = k := by simp [h3]
    rw [this]; exact hd
theorem idx_spec {u : List Int} {k : Int} (h : 0 ≤ idx (fun x => k == x) u) : ∃ (j : Nat) (hj : j < u.length), idx (fun x => k == x) u = j ∧ u[j] = k := by
  obtain ⟨j, hj, hjl⟩ := idx_lt h
  refine ⟨j, hjl, hj, ?_⟩
  unfold idx at hj
  cases e : u.findIdx? (fun x => k == x) with
  | none => rw [e] at hj; simp at hj
  | some i =>
    rw [e] at hj
    simp only at hj
    have hi : i = j := by omega
    subst hi
    rw [List.findIdx?_eq_some_iff_getElem] at e
    obtain ⟨h1, h2, _⟩ := e
    simp only [beq_iff_eq] at h2
    exact h2.symm
theorem chain_cyc {S : Sh} {u : List Int} {k : Int} (h : Chain S u k) (ho : 0 ≤ idx (fun x => k == x) u) : Cyc S (u.drop (idx (fun x => k == x) u).toNat) := by
  obtain ⟨j, hj, e, hk⟩ := idx_spec ho
  rw [e, Int.toNat_natCast]
  refine ⟨fun e2 => ?_, fun i hi => ?_⟩
  · have := congrArg List.length e2
    simp at this; omega
  · simp only [List.length_drop] at hi
    have h1 : j + i < u.length := by omega
    have e1 : (u.drop j)[i]'(by simp; omega) = u[j + i] := by simp
    rw [e1]
    refine ⟨h.made _ (List.getElem_mem _), ?_⟩
    by_cases h2 : i + 1 < u.length - j
    · have e3 : (i + 1) % (u.drop j).length = i + 1 := Nat.mod_eq_of_lt (by simp; omega)
      have e4 : (u.drop j)[(i + 1) % (u.drop j).length]'(Nat.mod_lt _ (by simp; omega)) = u[j + i + 1] := by
        simp only [e3, List.getElem_drop]; rfl
      rw [e4]
      exact h.next (j + i) (by omega)
    · have e3 : (i + 1) % (u.drop j).length = 0 := by
        have : i + 1 = (u.drop j).length := by simp; omega
        rw [this, Nat.mod_self]
      have e4 : (u.drop j)[(i + 1) % (u.drop j).length]'(Nat.mod_lt _ (by simp; omega)) = k := by
        simp only [e3, List.getElem_drop]; simpa using hk
      rw [e4]
      exact h.last (j + i) h1 (by omega)
theorem spec_cyc {S : Sh} : ∀ (n : Nat) (u c : List Int) (k : Int), UOk S n u → Chain S u k → (specP S n u c k).1.2 = false → Cyc S (specP S n u c k).2 := by
  intro n
  induction n with
  | zero =>
    intro u c k hu hc h
    by_cases hm : mkK S.made k = false
    · rw [specP_unmade hm] at h; cases h
    · have hm' : mkK S.made k = true := by simpa using hm
      by_cases ho : 0 ≤ idx (fun x => k == x) u
      · rw [specP_under hm' ho]; exact chain_cyc hc ho
      · exfalso
        have hkr := mkK_range hm
        have h1 : (k :: u).Nodup := List.nodup_cons.2 ⟨not_open ho, hu.nodup⟩
        have h2 := nodup_bound (n := S.made.length) h1 (fun x hx => by
          rcases List.mem_cons.1 hx with rfl | hx
          · exact hkr
          · exact hu.range x hx)
        have h3 := hu.fuel
        simp at h2
        omega
  | succ n ih =>
    intro u c k hu hc h
    by_cases hm : mkK S.made k = false
    · rw [specP_unmade hm] at h; cases h
    · have hm' : mkK S.made k = true := by simpa using hm
      by_cases ho : 0 ≤ idx (fun x => k == x) u
      · rw [specP_under hm' ho]; exact chain_cyc hc ho
      · rw [specP_new hm' ho] at h ⊢
        exact Itr.run_fail (fun c d hd hf => ih _ c d (hu.push (not_open ho) (mkK_range hm)) (hc.push hm' hd) hf) _ c (Tk.itr_In _) h
theorem chain0 (S : Sh) (k : Int) : Chain S [] k := ⟨fun x hx => (by cases hx), fun i hi => (by simp at hi), fun i hi => (by simp at hi)⟩
end Go.Proofs.Ytkbblekengdhaaa

set_option linter.unusedVariables false
set_option linter.unusedSimpArgs false
namespace Go.Proofs.Ytkbblekengdhaaa
open Go Go.RowKit

def allL (S : Sh) : List Int → MkSt → List Int → List Int × Bool
  | [], _, out => (out, true)
  | k :: ks, st, out => let r := keyP S S.made.length st k; if r.1.2 then allL S ks r.2 (out ++ [r.1.1]) else ([], false)
def keysN (n : Nat) : List Int := (List.range n).map fun i : Nat => (i : Int)
theorem keysN_length (n : Nat) : (keysN n).length = n := by simp [keysN]
theorem keysN_get {n i : Nat} (h : i < (keysN n).length) : (keysN n)[i] = i := by simp [keysN]
theorem keysN_drop {n i : Nat} (h : i < n) : (keysN n).drop i = (i : Int) :: (keysN n).drop (i + 1) := by
  rw [List.drop_eq_getElem_cons (by simpa [keysN] using h), keysN_get]
def buildAllP (S : Sh) : List Int × Bool := allL S (keysN S.made.length) st0 []

/-- a result that is a row of numbers and a truth -/
def GivesRow (r : List Int × Bool) (e : Ending) (w w' : World) : Prop :=
  ∃ v, e = .returned (.tuple #[v, .bool r.2]) ∧ w'.ownsRow w.heap.size 3 1 v r.1.length (ints r.1) ∧ Below w.heap.size w w'

set_option maxHeartbeats 2000000 in
theorem buildAll_good (E : MkEnv) (S : Sh) (hE : E.Good S) (w : World) (hb : Below E.B E.w0 w) (hB : E.B ≤ w.heap.size) :
    Calls Try.prog 47 #[.agg #[.slice E.Am S.made.length E.cm, .slice E.At S.tks.length E.ct], .slice E.Ai S.inputs.length E.ci] w fun e w' => GivesRow (buildAllP S) e w w' := by
  have hok1 : sheetOk S.made (S.tks.map Tk.enc) = true := hE.ok.sheet
  have hok2 : takesOk S.made.length S.inputs = true := by simp [takesOk, hE.ok.ins, vals_iff.2 hE.ok.vals]
  have hten := hE.ok.ten
  have hc1 := fun w1 (hw : Below w.heap.size w w1) => sheetOk_calls E.Am E.At E.cm E.ct S.made (S.tks.map Tk.enc) E.B E.w0 w1 (below_up' hb hB hw) (Nat.le_trans hB hw.size) hE.sheet
  rw [hok1] at hc1
  simp only [List.length_map] at hc1
  have hc2 := fun w1 (hw : Below w.heap.size w w1) => takes_calls E.Am E.At E.Ai S.made.length E.cm S.tks.length E.ct E.ci S.inputs E.B E.w0 w1 (below_up' hb hB hw) (Nat.le_trans hB hw.size) (Nat.le_trans hE.li hE.mi) hE.ins
  rw [hok2] at hc2
  have hc4 := fun w1 (hw : Below w.heap.size w w1) => newMaker_calls E S w1 (below_up' hb hB hw) (Nat.le_trans hB hw.size)
  have hc5 := key_calls E S hE
  obtain ⟨P, hP⟩ : ∃ P, buildAllP S = P := ⟨_, rfl⟩
  rw [hP]
  replace hc1 := Lib.hid hc1
  replace hc2 := Lib.hid hc2
  replace hc4 := Lib.hid hc4
  replace hc5 := Lib.hid hc5
  replace hb := Lib.hid hb
  replace hE := Lib.hid hE
  replace hP := Lib.hid hP
  clear hok1 hok2
  go_enter Try.func47, Try.ntmps47
  go_wp2_with fail
  refine (hc1.out _ (below_al (Below.refl _ _) _)).mono ?_
  rintro e w1 ⟨rfl, h1⟩
  have x0 : w1.cell? ⟨w.heap.size, 0, none⟩ = some (.slice E.Am S.made.length E.cm) := (h1.cell (p := ⟨w.heap.size, 0, none⟩) (by simp)).trans (by simp)
  have x1 : w1.cell? ⟨w.heap.size, 1, none⟩ = some (.slice E.At S.tks.length E.ct) := (h1.cell (p := ⟨w.heap.size, 1, none⟩) (by simp)).trans (by simp)
  have b1 := below_from h1
  have s1 : w.heap.size < w1.heap.size := by have := h1.size; simp at this; omega
  replace b1 := Lib.hid b1
  clear h1
  go_wp2_with fail
  refine (hc2.out _ b1.out).mono ?_
  rintro e w2 ⟨rfl, h2⟩
  have y0 : w2.cell? ⟨w.heap.size, 0, none⟩ = some (.slice E.Am S.made.length E.cm) := kept_cell h2 s1 x0
  have y1 : w2.cell? ⟨w.heap.size, 1, none⟩ = some (.slice E.At S.tks.length E.ct) := kept_cell h2 s1 x1
  have b2 := below_up b1.out h2
  have s2 : w.heap.size < w2.heap.size := by have := h2.size; omega
  replace b2 := Lib.hid b2
  clear h2 x0 x1 s1
  go_wp2_with fail
  refine (hc4.out _ b2.out).mono ?_
  rintro e w4 ⟨m, F, rfl, hM, hF, h4⟩
  have x0 : w4.cell? ⟨w.heap.size, 0, none⟩ = some (.slice E.Am S.made.length E.cm) := kept_cell h4 s2 y0
  have b4 := below_up b2.out h4
  have hF4 : ∀ i, F i → w.heap.size ≤ i := fun i hi => Nat.le_trans b2.out.size (hF i hi)
  replace hM := Lib.hid hM
  replace hF4 := Lib.hid hF4
  replace b4 := Lib.hid b4
  clear hF h4 y0 y1 s2
  go_wp2_with fail
  go_loopw [7, 8, 9, 10, 26] (fun o _ _ _ i wr => ∃ (j : Nat) (st : MkSt) (F : Nat → Prop) (out : List Int), j ≤ S.made.length ∧ i = .int .i64 j ∧ Hid (out.length = j) ∧ Hid (wr.ownsRow w.heap.size 3 1 o j (ints out)) ∧ Hid (MkI E S m S.made.length st wr F) ∧
    Hid (∀ i, F i → w.heap.size ≤ i ∧ o.ownBlock ≠ some i) ∧ Hid (Below w.heap.size w wr) ∧ Hid (buildAllP S = allL S ((keysN S.made.length).drop j) st out)) (fun _ _ _ _ i _ => S.made.length - (intOf i).toNat)
  case atStart => exact ⟨0, st0, F, [], Nat.zero_le _, rfl, Lib.hid rfl, Lib.hid (World.ownsRow_nil _ _ _ _), Lib.hid ⟨hM.out, inv0 S⟩, Lib.hid (fun i hi => ⟨hF4.out i hi, fun e => by cases e⟩), b4, Lib.hid rfl⟩
  case round =>
    obtain ⟨j, st, F, out, hj, rfl, hlen, hown, hM, hF, hw, he⟩ := hrel
    by_cases hlt : j < S.made.length
    · have he2 := he.out
      rw [keysN_drop hlt, allL] at he2
      have hkey := hc5.out m S.made.length st j _ F (by omega) (by omega) hM.out
      obtain ⟨r, hr⟩ : ∃ r, keyP S S.made.length st j = r := ⟨_, rfl⟩
      rw [hr] at he2 hkey
      replace hkey := Lib.hid hkey
      replace hr := Lib.hid hr
      replace he2 := Lib.hid he2
      clear he
      go_wp2_with fail
      refine hkey.out.mono ?_
      rintro e w5 ⟨rfl, v1, v2, F5, hM5, t5⟩
      have hown5 : w5.ownsRow w.heap.size 3 1 u7 j (ints out) := ownsRow_block hown.out (fun i hi => t5.block i (hown.out.lt i hi).2 (fun hf => (hF.out i hf).2 hi))
      have hF5 : ∀ i, F5 i → w.heap.size ≤ i ∧ u7.ownBlock ≠ some i := fun i hi => (t5.fresh i hi).elim (hF.out i) (fun hge => ⟨Nat.le_trans hw.out.size hge, fun e => by have := (hown.out.lt i e).2; omega⟩)
      have hw5 := hw.out.trans (t5.below (B := w.heap.size) hw.out.size (fun i hi => (hF.out i hi).1))
      replace hM5 := Lib.hid hM5
      replace hF5 := Lib.hid hF5
      replace hw5 := Lib.hid hw5
      replace hown5 := Lib.hid hown5
      clear t5
      cases hok : r.1.2 with
      | false =>
        rw [hok] at he2
        go_wp2_with fail
        go_ret2
        have := he2.out
        simp at this
        rw [← hP.out, this]
        exact ⟨_, rfl, World.ownsRow_nil _ _ _ _, hw5.out⟩
      | true =>
        rw [hok] at he2
        simp only [if_true] at he2
        go_wp2_with ((with_reducible refine wpList_app1 (by rfl) (.tmp 37) (.tmp 39) 28 (by rfl) intTy w.heap.size u7 j (ints out) (by with_unfolding_all rfl) (hown5.out.alloc _) w5.heap.size 1 [.int .i64 r.1.1] (by with_unfolding_all rfl) (by with_unfolding_all rfl) ⟨_, _, heap_alloc_new w5 _, rfl⟩ (one_int _ _) ?_ ?_ ?_ ?_))
        · unfold maxLen; omega
        · omega
        · have := hw5.out.size; simp; omega
        intro g cap w7 hown7 hgrow7 hat7
        have hM7 := hM5.out.grown hgrow7 (fun i hi => (hF5.out i hi).2) (fun i hi => Nat.le_trans hB (hown5.out.lt i hi).1)
        have hw7 := (hw5.out.alloc hw5.out.size _).grown hgrow7 (by have := hw5.out.size; simp; omega) (fun i hi => (hown5.out.lt i hi).1)
        have hF7 : ∀ i, F5 i → w.heap.size ≤ i ∧ (Value.slice (some ⟨g, 0, none⟩) (j + 1) cap).ownBlock ≠ some i := fun i hi => ⟨(hF5.out i hi).1, fun e => by
          cases e
          rcases hat7 with e | e
          · exact (hF5.out _ hi).2 e
          · have h3 : g < w5.heap.size := ((MakerIs.holds E S m S.made.length).own _ _ _ hM5.out _ hi).2
            have h4 : g = w5.heap.size + 1 := by simpa using e
            omega⟩
        have hown7' : w7.ownsRow w.heap.size 3 1 (.slice (some ⟨g, 0, none⟩) (j + 1) cap) (j + 1) (ints (out ++ [r.1.1])) := by simpa [ints_append, ints] using hown7
        replace hM7 := Lib.hid hM7
        replace hw7 := Lib.hid hw7
        replace hF7 := Lib.hid hF7
        replace hown7' := Lib.hid hown7'
        have hlen' : (out ++ [r.1.1]).length = j + 1 := by have := hlen.out; simp [this]
        replace hlen' := Lib.hid hlen'
        clear hown7 hgrow7 hat7
        go_wp2_with fail
        go_roundw
        case rel => exact ⟨j + 1, r.2, F5, out ++ [r.1.1], by omega, by go_num, hlen', hown7', hM7, hF7, hw7, he2⟩
        case measure => simp [intOf]; omega
    · have hd : (keysN S.made.length).drop j = [] := List.drop_eq_nil_of_le (by simp [keysN]; omega)
      have he2 := he.out
      rw [hd, allL] at he2
      replace he2 := Lib.hid he2
      replace hd := Lib.hid hd
      clear he
      go_wp2_with fail
      go_ret2
      rw [← hP.out, he2.out]
      exact ⟨_, rfl, by rw [hlen.out]; exact hown.out, hw.out⟩

set_option maxHeartbeats 1000000 in
theorem buildAll_bad (Am At Ai : Option Addr) (cm ct ci : Nat) (made : List Bool) (tasks : List Task) (inputs : List Int) (B : Nat) (w0 : World) (w : World) (hs : SheetAt B w0 Am cm At ct made tasks) (hi : IntsAt B w0 Ai inputs) (hli : inputs.length ≤ maxLen)
    (hb : Below B w0 w) (hB : B ≤ w.heap.size) (hbad : sheetOk made tasks = true → takesOk made.length inputs = false) :
    Calls Try.prog 47 #[.agg #[.slice Am made.length cm, .slice At tasks.length ct], .slice Ai inputs.length ci] w fun e w' =>
      e = .returned (.tuple #[.slice none 0 0, .bool false]) ∧ Below w.heap.size w w' := by
  have hc1 := fun w1 (hw : Below w.heap.size w w1) => sheetOk_calls Am At cm ct made tasks B w0 w1 (below_up' hb hB hw) (Nat.le_trans hB hw.size) hs
  have hc2 := fun w1 (hw : Below w.heap.size w w1) => takes_calls Am At Ai made.length cm tasks.length ct ci inputs B w0 w1 (below_up' hb hB hw) (Nat.le_trans hB hw.size) hli hi
  cases h1 : sheetOk made tasks with
  | false =>
    rw [h1] at hc1
    replace hc1 := Lib.hid hc1
    clear hc2 h1 hbad
    replace hb := Lib.hid hb
    replace hs := Lib.hid hs
    replace hi := Lib.hid hi
    go_enter Try.func47, Try.ntmps47
    go_wp2_with fail
    refine (hc1.out _ (below_al (Below.refl _ _) _)).mono ?_
    rintro e w1 ⟨rfl, h1⟩
    go_wp2_with fail
    go_ret2
    exact ⟨rfl, below_from h1⟩
  | true =>
    rw [h1] at hc1
    rw [hbad h1] at hc2
    replace hc1 := Lib.hid hc1
    replace hc2 := Lib.hid hc2
    clear h1 hbad
    replace hb := Lib.hid hb
    replace hs := Lib.hid hs
    replace hi := Lib.hid hi
    go_enter Try.func47, Try.ntmps47
    go_wp2_with fail
    refine (hc1.out _ (below_al (Below.refl _ _) _)).mono ?_
    rintro e w1 ⟨rfl, h1⟩
    have x0 : w1.cell? ⟨w.heap.size, 0, none⟩ = some (.slice Am made.length cm) := (h1.cell (p := ⟨w.heap.size, 0, none⟩) (by simp)).trans (by simp)
    have x1 : w1.cell? ⟨w.heap.size, 1, none⟩ = some (.slice At tasks.length ct) := (h1.cell (p := ⟨w.heap.size, 1, none⟩) (by simp)).trans (by simp)
    have b1 := below_from h1
    replace b1 := Lib.hid b1
    clear h1
    go_wp2_with fail
    refine (hc2.out _ b1.out).mono ?_
    rintro e w2 ⟨rfl, h2⟩
    have b2 := below_up b1.out h2
    replace b2 := Lib.hid b2
    clear h2 x0 x1
    go_wp2_with fail
    go_ret2
    exact ⟨rfl, b2.out⟩
end Go.Proofs.Ytkbblekengdhaaa

set_option linter.unusedVariables false
set_option linter.unusedSimpArgs false
namespace Go.Proofs.Ytkbblekengdhaaa
open Go Go.RowKit

/-- building all keys: what is kept behind it -/
theorem allL_spec {S : Sh} (hS : S.Ok) : ∀ (ks : List Int) (st : MkSt) (out all : List Int), Inv S S.made.length st → st.open_ = [] → KnE S st.known → allL S ks st out = (all, true) →
    ∃ kn, KnE S kn ∧ KLe st.known kn ∧ all = out ++ ks.map (fun k => (specKeyP S k).1) ∧ ∀ k ∈ ks, (specKeyP S k).2 = true ∧ Ans S kn k (specKeyP S k).1 := by
  intro ks
  induction ks with
  | nil => intro st out all _ _ hK h; cases h; exact ⟨st.known, hK, fun _ _ h => h, by simp, fun k hk => by cases hk⟩
  | cons k ks ih =>
    intro st out all hi ho hK h
    rw [allL] at h
    have hs := keyP_spec hS S.made.length st [] k hi hK
    rw [ho] at hs
    obtain ⟨⟨h1, h2, h3⟩, h4⟩ := hs
    have hv := keyP_inv hS S.made.length st k hi
    by_cases hok : (keyP S S.made.length st k).1.2 = true
    · rw [if_pos hok] at h
      obtain ⟨h21, h22, h23⟩ := h2 hok
      obtain ⟨kn, a1, a2, a3, a4⟩ := ih _ _ _ hv.1 ((hv.2.1 hok).trans ho) h22 h
      have e : (keyP S S.made.length st k).1 = specKeyP S k := h1
      rw [e] at a3 h4
      have hA := h4 (by rw [← e]; exact hok)
      refine ⟨kn, a1, fun x y hx => a2 x y (h23 x y hx), by simpa using a3, fun j hj => ?_⟩
      rcases List.mem_cons.1 hj with rfl | hj
      · exact ⟨by rw [← e]; exact hok, hA.up a2⟩
      · exact a4 j hj
    · rw [if_neg hok] at h; cases h
theorem Itr.run_sim {τ : Type} {g : Unit → Int → (Int × Bool) × Unit} {f : τ → Int → (Int × Bool) × τ} (h : ∀ d y s, (g () d).1 = (y, true) → (f s d).1 = (y, true)) :
    ∀ (m : Itr) (v : Int) (s : τ), (m.run g ()).1 = (v, true) → (m.run f s).1 = (v, true) := by
  intro m
  induction m with
  | done w => intro v s e; simp only [Itr.run] at e ⊢; exact e
  | ask k ct ih =>
    intro v s e
    by_cases h1 : (g () k).1.2 = true
    · rw [Itr.run_yes h1] at e
      have h2 := h k (g () k).1.1 s (by rw [← h1])
      rw [Itr.run_yes (by rw [h2]), h2]
      exact ih _ v _ e
    · rw [Itr.run_no h1] at e; cases e
theorem specKeyP_unmade {S : Sh} {k : Int} (h : mkK S.made k = false) : specKeyP S k = (atK S.inputs k, true) := by
  rw [specKeyP, specP_unmade h]
theorem atK_in {xs : List Int} {q : Nat} (h : q < xs.length) : atK xs q = xs[q] := by
  unfold atK
  rw [if_neg (by omega), Int.toNat_natCast, getD_at _ h]
theorem atK_out {xs : List Int} {k : Int} (h : k < 0 ∨ (xs.length : Int) ≤ k) : atK xs k = 0 := by
  unfold atK
  by_cases h0 : k < 0
  · rw [if_pos h0]
  · rw [if_neg h0, getD_out _ (by omega)]
theorem buildAll_facts {S : Sh} (hS : S.Ok) {all : List Int} (hall : buildAllP S = (all, true)) :
    all = (keysN S.made.length).map (fun k => (specKeyP S k).1) ∧ ∃ kn, KnE S kn ∧ ∀ q, q < S.made.length → (specKeyP S q).2 = true ∧ Ans S kn q (specKeyP S q).1 := by
  obtain ⟨kn, a1, a2, a3, a4⟩ := allL_spec hS _ st0 [] all (inv0 S) rfl (knE0 S) hall
  refine ⟨by simpa using a3, kn, a1, fun q hq => a4 q ?_⟩
  exact List.mem_map.2 ⟨q, List.mem_range.2 hq, rfl⟩
/-- all values: each key has its value, and the value of its task with all values -/
theorem all_law {S : Sh} (hS : S.Ok) {all : List Int} (hall : buildAllP S = (all, true)) :
    all.length = S.made.length ∧ (∀ x ∈ all, 0 ≤ x ∧ x ≤ 96) ∧ (∀ q (h : q < all.length), all[q] = (specKeyP S q).1) ∧
      (∀ q (h : q < S.tks.length), mkK S.made q = true → (fetchedP S.tks[q] all).1.1 = (specKeyP S q).1) := by
  obtain ⟨e, kn, ⟨rank, M, hK⟩, hk⟩ := buildAll_facts hS hall
  have hlen : all.length = S.made.length := by rw [e]; simp [keysN]
  have hget : ∀ q (h : q < all.length), all[q] = (specKeyP S q).1 := by
    intro q h
    have h2 : q < S.made.length := by omega
    subst e
    simp [keysN]
  have hat : ∀ d : Int, mkK S.made d = false → atK all d = atK S.inputs d := by
    intro d hd
    by_cases hr : 0 ≤ d ∧ d < S.made.length
    · obtain ⟨q, rfl⟩ := Int.eq_ofNat_of_zero_le hr.1
      rw [atK_in (by omega), hget q (by omega), specKeyP_unmade hd]
    · rw [atK_out (by omega), atK_out (by have := hS.ins; omega)]
  refine ⟨hlen, ?_, hget, ?_⟩
  · intro x hx
    obtain ⟨q, hq, rfl⟩ := List.getElem_of_mem hx
    rw [hget q hq]
    have h1 := build_spec hS q
    have h2 := keyP_inv hS S.made.length st0 q (inv0 S)
    rw [← h1.1]
    exact h2.2.2
  · intro q hq hm
    have hql : q < S.made.length := by have := hS.len; omega
    obtain ⟨h1, h2⟩ := hk q hql
    rcases h2 with ⟨h2, _⟩ | h2
    · rw [hm] at h2; cases h2
    obtain ⟨_, _, hrun⟩ := hK q _ h2
    rw [tk_at hq] at hrun
    have hf : ∀ (s : List (Int × Int)) (k : Int), (fetF all s k).1.2 = false → (fetF all s k).1.1 = 0 := fun s k h => by simp [fetF] at h
    have h3 := Itr.run_sim (f := fetF all) (fun d y s hd => ?_) S.tks[q].itr (specKeyP S q).1 [] (by rw [hrun])
    · rw [fetchedP, Tk.run_itr _ hf, h3]
    · rcases knF_yes hd with ⟨g1, rfl⟩ | ⟨g1, g2, _⟩
      · simp only [fetF]; rw [hat d g1]
      · have hr := mkK_range (show mkK S.made d ≠ false by rw [g1]; simp)
        obtain ⟨j, rfl⟩ := Int.eq_ofNat_of_zero_le hr.1
        obtain ⟨_, h5⟩ := hk j (by omega)
        rcases h5 with ⟨h5, _⟩ | h5
        · rw [g1] at h5; cases h5
        · rw [g2] at h5
          cases h5
          simp only [fetF]
          rw [atK_in (by omega), hget j (by omega)]
end Go.Proofs.Ytkbblekengdhaaa

set_option linter.unusedVariables false
set_option linter.unusedSimpArgs false
namespace Go.Proofs.Ytkbblekengdhaaa
open Go Go.RowKit

set_option maxHeartbeats 1000000 in
theorem brInts_calls (A : Option Addr) (c : Nat) (xs : List Int) (A2 : Option Addr) (c2 : Nat) (ys : List Int) (w : World) (hx : IntsAt w.heap.size w A xs) (hy : IntsAt w.heap.size w A2 ys) (hl : xs.length ≤ maxLen) (hl2 : ys.length ≤ maxLen) :
    Calls Try.prog 13 #[.slice A xs.length c, .slice A2 ys.length c2] w fun e w' => e = .returned (.bool (decide (xs = ys))) ∧ Below w.heap.size w w' := by
  unfold maxLen at hl hl2
  by_cases hlen : xs.length = ys.length
  case neg =>
    have hr : decide (xs = ys) = false := by simp; intro e; exact hlen (by rw [e])
    have hl' : ((xs.length : Int) != (ys.length : Int)) = true := by simp; omega
    rw [hr]
    clear hr hx hy hlen
    go_enter Try.func13, Try.ntmps13
    go_wp2_with fail
    go_ret
    exact ⟨rfl, Below.refl _ _⟩
  have hl' : ((xs.length : Int) != (ys.length : Int)) = false := by simp; omega
  replace hx := Lib.hid hx
  replace hy := Lib.hid hy
  replace hlen := Lib.hid hlen
  go_enter Try.func13, Try.ntmps13
  go_wp2_with fail
  go_loopw [5] (fun i wr => ∃ (j : Nat), j ≤ xs.length ∧ i = .int .i64 j ∧ Hid (Below w.heap.size w wr) ∧ Hid (∀ i (h1 : i < xs.length) (h2 : i < ys.length), i < j → xs[i] = ys[i])) (fun i _ => xs.length - (intOf i).toNat)
  case atStart => exact ⟨0, Nat.zero_le _, rfl, Lib.hid (Below.refl _ _), Lib.hid (fun i _ _ h => by omega)⟩
  case round =>
    obtain ⟨j, hj, rfl, hw, he⟩ := hrel
    by_cases hlt : j < xs.length
    · have hlt2 : j < ys.length := by have := hlen.out; omega
      obtain ⟨b, o, rfl, hb, y⟩ := hx.out.at hw.out hw.out.size j hlt
      obtain ⟨b2, o2, rfl, hb2, y2⟩ := hy.out.at hw.out hw.out.size j hlt2
      by_cases hne : xs[j] = ys[j]
      · have hne' : (xs[j] != ys[j]) = false := by simp [hne]
        have he2 : ∀ i (h1 : i < xs.length) (h2 : i < ys.length), i < j + 1 → xs[i] = ys[i] := fun i h1 h2 h3 => by
          by_cases e : i = j
          · subst e; exact hne
          · exact he.out i h1 h2 (by omega)
        replace hne := Lib.hid hne
        replace he2 := Lib.hid he2
        go_wp2_with fail
        go_region
        go_wp2_with fail
        go_roundw
        case rel => exact ⟨j + 1, by omega, by go_num, Lib.hid hw.out.drew, he2⟩
        case measure => simp [intOf]; omega
      · have hne' : (xs[j] != ys[j]) = true := by simp [hne]
        have hr : decide (xs = ys) = false := by
          rw [decide_eq_false_iff_not]
          intro e
          exact hne (by subst e; rfl)
        replace hne := Lib.hid hne
        replace hr := Lib.hid hr
        go_wp2_with fail
        go_region
        go_wp2_with fail
        go_ret
        exact ⟨by rw [hr.out]; rfl, hw.out.drew⟩
    · have hr : decide (xs = ys) = true := by
        rw [decide_eq_true_eq]
        exact List.ext_getElem hlen.out (fun i h1 h2 => he.out i h1 h2 (by omega))
      replace hr := Lib.hid hr
      go_wp2_with fail
      go_ret
      exact ⟨by rw [hr.out]; rfl, hw.out⟩

/-- the reference's values of all keys -/
def specAllL (S : Sh) : List Int → List Int → List Int × Bool
  | [], out => (out, true)
  | k :: ks, out => if (specKeyP S k).2 = true then specAllL S ks (out ++ [(specKeyP S k).1]) else ([], false)
def specAllP (S : Sh) : List Int × Bool := specAllL S (keysN S.made.length) []
theorem allL_same {S : Sh} (hS : S.Ok) : ∀ (ks : List Int) (st : MkSt) (out : List Int), Inv S S.made.length st → st.open_ = [] → KnE S st.known → allL S ks st out = specAllL S ks out := by
  intro ks
  induction ks with
  | nil => intro st out _ _ _; rfl
  | cons k ks ih =>
    intro st out hi ho hK
    rw [allL, specAllL]
    have hs := keyP_spec hS S.made.length st [] k hi hK
    rw [ho] at hs
    obtain ⟨⟨h1, h2, h3⟩, h4⟩ := hs
    have hv := keyP_inv hS S.made.length st k hi
    have e : (keyP S S.made.length st k).1 = specKeyP S k := h1
    by_cases hok : (keyP S S.made.length st k).1.2 = true
    · have hok' : (specKeyP S k).2 = true := by rw [← e]; exact hok
      rw [if_pos hok, if_pos hok', ih _ _ hv.1 ((hv.2.1 hok).trans ho) (h2 hok).2.1, e]
    · have hok' : ¬ (specKeyP S k).2 = true := by rw [← e]; exact hok
      rw [if_neg hok, if_neg hok']
theorem all_same {S : Sh} (hS : S.Ok) : buildAllP S = specAllP S := allL_same hS _ st0 [] (inv0 S) rfl (knE0 S)

set_option maxHeartbeats 2000000 in
theorem specBuildAll_good (E : MkEnv) (S : Sh) (hE : E.Good S) (hnod : ∀ T ∈ S.tks.map Tk.enc, nodes T ≤ 1000000000) (w : World) (hb : Below E.B E.w0 w) (hB : E.B ≤ w.heap.size) :
    Calls Try.prog 49 #[.agg #[.slice E.Am S.made.length E.cm, .slice E.At S.tks.length E.ct], .slice E.Ai S.inputs.length E.ci] w fun e w' => GivesRow (specAllP S) e w w' := by
  have hok2 : takesOk S.made.length S.inputs = true := by simp [takesOk, hE.ok.ins, vals_iff.2 hE.ok.vals]
  have hin : inputsOk S.made (S.tks.map Tk.enc) S.inputs = true := by rw [inputsOk, hE.ok.sheet, hok2]; rfl
  have hten := hE.ok.ten
  have hc1 := fun w1 (hw : Below w.heap.size w w1) => l3Inputs_calls E.Am E.At E.Ai E.cm E.ct E.ci S.made (S.tks.map Tk.enc) S.inputs E.B E.w0 w1 (below_up' hb hB hw) (Nat.le_trans hB hw.size) hE.sheet hnod (Nat.le_trans hE.li hE.mi) hE.ins
  rw [hin] at hc1
  simp only [List.length_map] at hc1
  have hc2 := fun w1 (hw : Below w.heap.size w w1) (j : Nat) (hj : j < S.made.length) => specBuildKey_good E S hE hnod j w1 (below_up' hb hB hw) (Nat.le_trans hB hw.size) (by omega) (by omega)
  obtain ⟨P, hP⟩ : ∃ P, specAllP S = P := ⟨_, rfl⟩
  rw [hP]
  replace hc1 := Lib.hid hc1
  replace hc2 := Lib.hid hc2
  replace hP := Lib.hid hP
  clear hin hok2 hnod hE hb
  go_enter Try.func49, Try.ntmps49
  go_wp2_with fail
  have hown0 : ((w.alloc (.cells #[.slice E.Am S.made.length E.cm, .slice E.At S.tks.length E.ct] 26 (0, 0))).alloc (.cells #[] 3 (0, 0))).ownsRow w.heap.size 3 1 (.slice (some ⟨w.heap.size + 1, 0, none⟩) 0 0) 0 (ints []) := by
    simpa [ints] using World.ownsRow_made (base := w.heap.size) (w.alloc (.cells #[.slice E.Am S.made.length E.cm, .slice E.At S.tks.length E.ct] 26 (0, 0))) #[] 0 (by simp) (by simp [maxLen]) rfl
  refine (hc1.out _ (below_al (below_al (Below.refl _ _) _) _)).mono ?_
  rintro e w1 ⟨rfl, h1⟩
  have x0 : w1.cell? ⟨w.heap.size, 0, none⟩ = some (.slice E.Am S.made.length E.cm) := (h1.cell (p := ⟨w.heap.size, 0, none⟩) (by simp; omega)).trans (by simp)
  have x1 : w1.cell? ⟨w.heap.size, 1, none⟩ = some (.slice E.At S.tks.length E.ct) := (h1.cell (p := ⟨w.heap.size, 1, none⟩) (by simp; omega)).trans (by simp)
  have b1 : Below w.heap.size w w1 := below_from (below_from h1)
  have hown1 := ownsRow_block hown0 (fun i hi => h1.block i (hown0.lt i hi).2)
  have s1 : w.heap.size < w1.heap.size := by have := h1.size; simp at this; omega
  replace b1 := Lib.hid b1
  replace hown1 := Lib.hid hown1
  clear h1 hown0
  go_wp2_with fail
  go_loopw [6, 7] (fun o i wr => ∃ (j : Nat) (out : List Int), j ≤ S.made.length ∧ i = .int .i64 j ∧ Hid (out.length = j) ∧ Hid (wr.ownsRow w.heap.size 3 1 o j (ints out)) ∧ w.heap.size < wr.heap.size ∧ wr.cell? ⟨w.heap.size, 0, none⟩ = some (.slice E.Am S.made.length E.cm) ∧ wr.cell? ⟨w.heap.size, 1, none⟩ = some (.slice E.At S.tks.length E.ct) ∧
    Hid (o.ownBlock ≠ some w.heap.size) ∧ Hid (Below w.heap.size w wr) ∧ Hid (specAllP S = specAllL S ((keysN S.made.length).drop j) out)) (fun _ i _ => S.made.length - (intOf i).toNat)
  case atStart => exact ⟨0, [], Nat.zero_le _, rfl, Lib.hid rfl, hown1, s1, x0, x1, Lib.hid (by simp [Value.ownBlock]), b1, Lib.hid rfl⟩
  case round =>
    obtain ⟨j, out, hj, rfl, hlen, hown, hz, y0, y1, hne, hw, he⟩ := hrel
    by_cases hlt : j < S.made.length
    · have he2 := he.out
      rw [keysN_drop hlt, specAllL] at he2
      have hkey := hc2.out wr hw.out j hlt
      obtain ⟨r, hr⟩ : ∃ r, specKeyP S j = r := ⟨_, rfl⟩
      rw [hr] at he2 hkey
      obtain ⟨x, ok⟩ := r
      replace hkey := Lib.hid hkey
      replace hr := Lib.hid hr
      replace he2 := Lib.hid he2
      clear he
      go_wp2_with fail
      refine hkey.out.mono ?_
      rintro e w5 ⟨rfl, h5⟩
      have z0 := kept_cell h5 hz y0
      have z1 := kept_cell h5 hz y1
      have hz5 : w.heap.size < w5.heap.size := by have := h5.size; omega
      have hown5 := ownsRow_block hown.out (fun i hi => h5.block i (hown.out.lt i hi).2)
      have hw5 := below_up hw.out h5
      replace hown5 := Lib.hid hown5
      replace hw5 := Lib.hid hw5
      clear h5 hown y0 y1
      dsimp only
      cases ok with
      | false =>
        have he3 : specAllP S = ([], false) := by have := he2.out; simpa using this
        replace he3 := Lib.hid he3
        go_wp2_with fail
        go_ret2
        rw [← hP.out, he3.out]
        exact ⟨_, rfl, by simpa [ints] using World.ownsRow_made (base := w.heap.size) w5 #[] 0 (Nat.le_of_lt hz5) (by simp [maxLen]) rfl, below_al' hw5.out _ (Nat.le_of_lt hz5)⟩
      | true =>
        have he3 := he2.out
        rw [if_pos rfl] at he3
        replace he3 := Lib.hid he3
        go_wp2_with (at_builtin; go_loud (with_reducible refine wpList_app1 (by rfl) (.tmp 33) (.tmp 35) 28 (by rfl) intTy w.heap.size u6 j (ints out) (by with_unfolding_all rfl) (hown5.out.alloc _) w5.heap.size 1 [.int .i64 x] (by with_unfolding_all rfl) (by with_unfolding_all rfl) ⟨_, _, heap_alloc_new w5 _, rfl⟩ (one_int _ _) ?_ ?_ ?_ ?_))
        · unfold maxLen; omega
        · omega
        · first | omega | (simp; omega)
        intro g cap w7 hown7 hgrow7 hat7
        have hw7 := (below_al' hw5.out (.cells #[.int .i64 x] 3 (0, 0)) (Nat.le_of_lt hz5)).grown hgrow7 (by simp; omega) (fun i hi => (hown5.out.lt i hi).1)
        have hk : w7.heap[w.heap.size]? = w5.heap[w.heap.size]? := far_grown hgrow7 hz5 hne.out
        have z0' : w7.cell? ⟨w.heap.size, 0, none⟩ = some (.slice E.Am S.made.length E.cm) := (World.cell?_of_block (w := w5) hk).trans z0
        have z1' : w7.cell? ⟨w.heap.size, 1, none⟩ = some (.slice E.At S.tks.length E.ct) := (World.cell?_of_block (w := w5) hk).trans z1
        have hz7 : w.heap.size < w7.heap.size := by have := hgrow7.size; simp at this; omega
        have hown7' : w7.ownsRow w.heap.size 3 1 (.slice (some ⟨g, 0, none⟩) (j + 1) cap) (j + 1) (ints (out ++ [x])) := by simpa [ints_append, ints] using hown7
        have hne7 : (Value.slice (some ⟨g, 0, none⟩) (j + 1) cap).ownBlock ≠ some w.heap.size := fun e => by
          cases e
          rcases hat7 with e | e
          · exact hne.out e
          · simp at e; omega
        have hlen' : (out ++ [x]).length = j + 1 := by have := hlen.out; simp [this]
        replace hw7 := Lib.hid hw7
        replace hown7' := Lib.hid hown7'
        replace hlen' := Lib.hid hlen'
        replace hne7 := Lib.hid hne7
        clear hown7 hgrow7 hat7 hk z0 z1
        go_wp2_with fail
        go_roundw
        case rel => exact ⟨j + 1, out ++ [x], by omega, by go_num, hlen', hown7', hz7, z0', z1', hne7, hw7, he3⟩
        case measure => simp [intOf]; omega
    · have hd : (keysN S.made.length).drop j = [] := List.drop_eq_nil_of_le (by simp [keysN]; omega)
      have he2 := he.out
      rw [hd, specAllL] at he2
      replace he2 := Lib.hid he2
      replace hd := Lib.hid hd
      clear he
      go_wp2_with fail
      go_ret2
      rw [← hP.out, he2.out]
      exact ⟨_, rfl, by rw [hlen.out]; exact hown.out, hw.out⟩

set_option maxHeartbeats 1000000 in
theorem specBuildAll_bad (Am At Ai : Option Addr) (cm ct ci : Nat) (made : List Bool) (tasks : List Task) (inputs : List Int) (B : Nat) (w0 : World) (w : World) (hs : SheetAt B w0 Am cm At ct made tasks) (hi : IntsAt B w0 Ai inputs) (hli : inputs.length ≤ maxLen) (hnod : ∀ T ∈ tasks, nodes T ≤ 1000000000)
    (hb : Below B w0 w) (hB : B ≤ w.heap.size) (hbad : inputsOk made tasks inputs = false) :
    Calls Try.prog 49 #[.agg #[.slice Am made.length cm, .slice At tasks.length ct], .slice Ai inputs.length ci] w fun e w' => GivesRow ([], false) e w w' := by
  have hc1 := fun w1 (hw : Below w.heap.size w w1) => l3Inputs_calls Am At Ai cm ct ci made tasks inputs B w0 w1 (below_up' hb hB hw) (Nat.le_trans hB hw.size) hs hnod hli hi
  rw [hbad] at hc1
  replace hc1 := Lib.hid hc1
  clear hs hi hnod hbad hb
  go_enter Try.func49, Try.ntmps49
  go_wp2_with fail
  have hown0 : ((w.alloc (.cells #[.slice Am made.length cm, .slice At tasks.length ct] 26 (0, 0))).alloc (.cells #[] 3 (0, 0))).ownsRow w.heap.size 3 1 (.slice (some ⟨w.heap.size + 1, 0, none⟩) 0 0) 0 (ints []) := by
    simpa [ints] using World.ownsRow_made (base := w.heap.size) (w.alloc (.cells #[.slice Am made.length cm, .slice At tasks.length ct] 26 (0, 0))) #[] 0 (by simp) (by simp [maxLen]) rfl
  refine (hc1.out _ (below_al (below_al (Below.refl _ _) _) _)).mono ?_
  rintro e w1 ⟨rfl, h1⟩
  have b1 : Below w.heap.size w w1 := below_from (below_from h1)
  have hown1 := ownsRow_block hown0 (fun i hi => h1.block i (hown0.lt i hi).2)
  replace b1 := Lib.hid b1
  replace hown1 := Lib.hid hown1
  clear h1 hown0
  go_wp2_with fail
  go_ret2
  exact ⟨_, rfl, hown1.out, b1.out⟩
end Go.Proofs.Ytkbblekengdhaaa
