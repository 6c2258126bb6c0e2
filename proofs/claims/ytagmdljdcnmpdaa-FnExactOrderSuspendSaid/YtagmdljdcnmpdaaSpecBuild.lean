import Derived.Test.YtagmdljdcnmpdaaSpecKey2
import Derived.Test.YtagmdljdcnmpdaaBuild
set_option linter.unusedVariables false
set_option linter.unusedSimpArgs false
namespace Go.Proofs.Ytagmdljdcnmpdaa
open Go Go.RowKit

theorem skey_calls (E : MkEnv) (S : Sh) (hE : E.Good S) (m : Nat) : ∀ (n : Nat) (u c : List Int) (k : Int) (w : World) (F : Nat → Prop), 0 ≤ k → k ≤ 9 → UOk S n u → SbI E S m u c w F →
    Calls Try.prog 47 #[.pointer (some ⟨m, 0, none⟩), .int .i64 k] w (Gives (SbI E S m u) F w (specP S n u c k)) := by
  intro n
  induction n with
  | zero =>
    intro u c k w F hk0 hk9 hu h
    cases hmk : mkK S.made k with
    | false => exact skey_unmade E S hE m 0 u c k w F hk0 hk9 h hmk
    | true =>
      by_cases ho : 0 ≤ idx (fun x => k == x) u
      · exact skey_under E S hE m 0 u c k w F hk0 hk9 h hmk (Nat.le_trans hu.len hE.ok.ten) ho
      · exfalso
        have hkr := mkK_range (show mkK S.made k ≠ false by rw [hmk]; simp)
        have h1 : (k :: u).Nodup := List.nodup_cons.2 ⟨not_open ho, hu.nodup⟩
        have h2 := nodup_bound (n := S.made.length) h1 (fun x hx => by
          rcases List.mem_cons.1 hx with rfl | hx
          · exact hkr
          · exact hu.range x hx)
        have h3 := hu.fuel
        simp at h2
        omega
  | succ n ih =>
    intro u c k w F hk0 hk9 hu h
    cases hmk : mkK S.made k with
    | false => exact skey_unmade E S hE m (n + 1) u c k w F hk0 hk9 h hmk
    | true =>
      by_cases ho : 0 ≤ idx (fun x => k == x) u
      · exact skey_under E S hE m (n + 1) u c k w F hk0 hk9 h hmk (Nat.le_trans hu.len hE.ok.ten) ho
      · exact skey_new E S hE m n (fun u c k w F a b d e => ih u c k w F a b d e) u c k w F hk0 hk9 hu h hmk ho
theorem uok0 (S : Sh) : UOk S S.made.length [] := ⟨List.nodup_nil, fun x hx => (by cases hx), by simp⟩
theorem specP_zero (S : Sh) (n : Nat) (u c : List Int) (k : Int) : (specP S n u c k).1.2 = false → (specP S n u c k).1.1 = 0 := by
  intro h
  by_cases hm : mkK S.made k = false
  · rw [specP_unmade hm] at h; cases h
  · have hm' : mkK S.made k = true := by simpa using hm
    by_cases ho : 0 ≤ idx (fun x => k == x) u
    · rw [specP_under hm' ho]
    · cases n with
      | zero => rw [specP, if_neg hm, if_neg ho]
      | succ n => rw [specP_new hm' ho] at h ⊢; exact Itr.run_zero _ _ _ h
/-- the reference's key, from nothing -/
def specKeyP (S : Sh) (k : Int) : Int × Bool := (specP S S.made.length [] [] k).1
theorem knE0 (S : Sh) : KnE S st0.known := ⟨fun _ => 0, 0, fun j v h => by cases h⟩
theorem build_spec {S : Sh} (hS : S.Ok) (k : Int) : buildKeyP S k = specKeyP S k ∧ ((keyP S S.made.length st0 k).1.2 = false → (keyP S S.made.length st0 k).2.circle = (specP S S.made.length [] [] k).2) := by
  have h := keyP_spec hS S.made.length st0 [] k (inv0 S) (knE0 S)
  exact ⟨h.1.1, h.1.2.2⟩

theorem sb0 (E : MkEnv) (S : Sh) (w : World) (hb : Below E.B E.w0 w) (hB : E.B ≤ w.heap.size) (o : Obj) :
    SbAt E S (w.heap.size + 1) (.slice none 0 0) (.slice none 0 0) [] [] ((w.alloc o).alloc (.cells #[.slice E.Am S.made.length E.cm, .slice E.At S.tks.length E.ct, .slice E.Ai S.inputs.length E.ci, .slice none 0 0, .slice none 0 0] 73 (0, 0))) :=
  ⟨heap_new (by simp), World.ownsRow_nil _ _ _ _, World.ownsRow_nil _ _ _ _, by omega, fun i hi => (by cases hi), below_al' (below_al' hb _ hB) _ (by simp; omega), by simp; omega⟩
theorem sb0' (E : MkEnv) (S : Sh) (w : World) (hb : Below E.B E.w0 w) (hB : E.B ≤ w.heap.size) :
    SbAt E S w.heap.size (.slice none 0 0) (.slice none 0 0) [] [] (w.alloc (.cells #[.slice E.Am S.made.length E.cm, .slice E.At S.tks.length E.ct, .slice E.Ai S.inputs.length E.ci, .slice none 0 0, .slice none 0 0] 73 (0, 0))) :=
  ⟨heap_new rfl, World.ownsRow_nil _ _ _ _, World.ownsRow_nil _ _ _ _, hB, fun i hi => (by cases hi), below_al' hb _ hB, by simp; omega⟩

set_option maxHeartbeats 1000000 in
theorem specBuildKey_good (E : MkEnv) (S : Sh) (hE : E.Good S) (hnod : ∀ T ∈ S.tks.map Tk.enc, nodes T ≤ 1000000000) (k : Int) (w : World) (hb : Below E.B E.w0 w) (hB : E.B ≤ w.heap.size) (hk0 : 0 ≤ k) (hk1 : k < S.made.length) :
    Calls Try.prog 12 #[.agg #[.slice E.Am S.made.length E.cm, .slice E.At S.tks.length E.ct], .slice E.Ai S.inputs.length E.ci, .int .i64 k] w fun e w' =>
      e = .returned (.tuple #[.int .i64 (specKeyP S k).1, .bool (specKeyP S k).2]) ∧ Below w.heap.size w w' := by
  have hok2 : takesOk S.made.length S.inputs = true := by simp [takesOk, hE.ok.ins, vals_iff.2 hE.ok.vals]
  have hin : inputsOk S.made (S.tks.map Tk.enc) S.inputs = true := by rw [inputsOk, hE.ok.sheet, hok2]; rfl
  have hten := hE.ok.ten
  have hc1 := fun w1 (hw : Below w.heap.size w w1) => l3Inputs_calls E.Am E.At E.Ai E.cm E.ct E.ci S.made (S.tks.map Tk.enc) S.inputs E.B E.w0 w1 (below_up' hb hB hw) (Nat.le_trans hB hw.size) hE.sheet hnod (Nat.le_trans hE.li hE.mi) hE.ins
  rw [hin] at hc1
  simp only [List.length_map] at hc1
  have hc2 := fun w1 => l6In_calls k 0 ((S.made.length : Int) - 1) w1
  have hd : decide (0 ≤ k ∧ k ≤ (S.made.length : Int) - 1) = true := by simp; omega
  rw [hd] at hc2
  have hc3 := fun w1 (hw : Below w.heap.size w w1) => skey_calls E S hE w1.heap.size S.made.length [] [] k _ _ hk0 (by omega) (uok0 S) ⟨_, _, sb0' E S w1 (below_up' hb hB hw) (Nat.le_trans hB hw.size), rfl⟩
  have hz := specP_zero S S.made.length [] [] k
  have hr : specKeyP S k = (specP S S.made.length [] [] k).1 := rfl
  generalize specP S S.made.length [] [] k = X at *
  rw [hr]
  obtain ⟨⟨x, ok⟩, cc⟩ := X
  dsimp only at hc3 hz ⊢
  replace hc1 := Lib.hid hc1
  replace hc2 := Lib.hid hc2
  replace hc3 := Lib.hid hc3
  replace hz := Lib.hid hz
  clear hd hin hok2 hnod hr
  go_enter Try.func12, Try.ntmps12
  go_wp2_with fail
  refine (hc1.out _ (below_al (Below.refl _ _) _)).mono ?_
  rintro e w1 ⟨rfl, h1⟩
  have x0 : w1.cell? ⟨w.heap.size, 0, none⟩ = some (.slice E.Am S.made.length E.cm) := (h1.cell (p := ⟨w.heap.size, 0, none⟩) (by simp)).trans (by simp)
  have x1 : w1.cell? ⟨w.heap.size, 1, none⟩ = some (.slice E.At S.tks.length E.ct) := (h1.cell (p := ⟨w.heap.size, 1, none⟩) (by simp)).trans (by simp)
  have b1 := below_from h1
  replace b1 := Lib.hid b1
  clear h1
  go_wp2_with fail
  refine (hc2.out _).mono ?_
  rintro e w2 ⟨rfl, rfl⟩
  go_wp2_with fail
  refine (hc3.out _ b1.out).mono ?_
  rintro e w3 ⟨rfl, p0, p1, F3, ⟨vu, vc, hs3, rfl⟩, t3⟩
  have b3 : Below w.heap.size w w3 := b1.out.trans ((below_al (Below.refl _ w1) _).trans (t3.below (by simp) (fun i hi => by
    rcases hi with rfl | hi | hi
    · exact Nat.le_refl _
    · cases hi
    · cases hi)) |>.mono b1.out.size)
  replace b3 := Lib.hid b3
  clear hs3 t3 x0 x1
  dsimp only
  cases ok with
  | false =>
    obtain rfl : x = 0 := hz.out rfl
    clear hz
    go_wp2_with fail
    go_ret2
    exact ⟨rfl, b3.out⟩
  | true =>
    clear hz
    go_wp2_with fail
    go_ret2
    exact ⟨rfl, b3.out⟩

set_option maxHeartbeats 1000000 in
theorem specBuildKey_bad (Am At Ai : Option Addr) (cm ct ci : Nat) (made : List Bool) (tasks : List Task) (inputs : List Int) (B : Nat) (w0 : World) (k : Int) (w : World) (hs : SheetAt B w0 Am cm At ct made tasks) (hi : IntsAt B w0 Ai inputs) (hli : inputs.length ≤ maxLen) (hnod : ∀ T ∈ tasks, nodes T ≤ 1000000000)
    (hb : Below B w0 w) (hB : B ≤ w.heap.size) (hbad : sheetOk made tasks = true → takesOk made.length inputs = true → ¬ (0 ≤ k ∧ k < made.length)) :
    Calls Try.prog 12 #[.agg #[.slice Am made.length cm, .slice At tasks.length ct], .slice Ai inputs.length ci, .int .i64 k] w fun e w' =>
      e = .returned (.tuple #[.int .i64 0, .bool false]) ∧ Below w.heap.size w w' := by
  have hc1 := fun w1 (hw : Below w.heap.size w w1) => l3Inputs_calls Am At Ai cm ct ci made tasks inputs B w0 w1 (below_up' hb hB hw) (Nat.le_trans hB hw.size) hs hnod hli hi
  have hc2 := fun w1 => l6In_calls k 0 ((made.length : Int) - 1) w1
  have hml : made.length ≤ maxLen := Nat.le_trans hs.lm hs.mm
  unfold maxLen at hml
  clear hs hi hb hnod
  cases h1 : inputsOk made tasks inputs with
  | false =>
    rw [h1] at hc1
    replace hc1 := Lib.hid hc1
    clear hc2 hbad h1
    go_enter Try.func12, Try.ntmps12
    go_wp2_with fail
    refine (hc1.out _ (below_al (Below.refl _ _) _)).mono ?_
    rintro e w1 ⟨rfl, h1⟩
    go_wp2_with fail
    go_ret2
    exact ⟨rfl, below_from h1⟩
  | true =>
    rw [h1] at hc1
    have h2 := Bool.and_eq_true_iff.1 h1
    have h3 := hbad h2.1 h2.2
    have hd : decide (0 ≤ k ∧ k ≤ (made.length : Int) - 1) = false := by simp; omega
    rw [hd] at hc2
    replace hc1 := Lib.hid hc1
    replace hc2 := Lib.hid hc2
    clear hbad h1 h2 h3 hd
    go_enter Try.func12, Try.ntmps12
    go_wp2_with fail
    refine (hc1.out _ (below_al (Below.refl _ _) _)).mono ?_
    rintro e w1 ⟨rfl, h1⟩
    have x0 : w1.cell? ⟨w.heap.size, 0, none⟩ = some (.slice Am made.length cm) := (h1.cell (p := ⟨w.heap.size, 0, none⟩) (by simp)).trans (by simp)
    have b1 := below_from h1
    replace b1 := Lib.hid b1
    clear h1
    go_wp2_with fail
    refine (hc2.out _).mono ?_
    rintro e w2 ⟨rfl, rfl⟩
    go_wp2_with fail
    go_ret2
    exact ⟨rfl, b1.out⟩
end Go.Proofs.Ytagmdljdcnmpdaa
