import Derived.Test.YtagmdljdcnmpdaaBuild
set_option linter.unusedVariables false
set_option linter.unusedSimpArgs false
namespace Go.Proofs.Ytagmdljdcnmpdaa
open Go Go.RowKit

def allL (S : Sh) : List Int → MkSt → List Int → List Int × Bool
  | [], _, out => (out, true)
  | k :: ks, st, out => let r := keyP S S.made.length st k; if r.1.2 then allL S ks r.2 (out ++ [r.1.1]) else ([], false)
def keysN (n : Nat) : List Int := (List.range n).map fun i : Nat => (i : Int)
theorem keysN_length (n : Nat) : (keysN n).length = n := by simp [keysN]
theorem keysN_get {n i : Nat} (h : i < (keysN n).length) : (keysN n)[i] = i := by simp [keysN]
theorem keysN_drop {n i : Nat} (h : i < n) : (keysN n).drop i = (i : Int) :: (keysN n).drop (i + 1) := by
  rw [List.drop_eq_getElem_cons (by simpa [keysN] using h), keysN_get]
def buildAllP (S : Sh) : List Int × Bool := allL S (keysN S.made.length) st0 []

/-- a result that is a row of numbers and a truth -/
def GivesRow (r : List Int × Bool) (e : Ending) (w w' : World) : Prop :=
  ∃ v, e = .returned (.tuple #[v, .bool r.2]) ∧ w'.ownsRow w.heap.size 3 1 v r.1.length (ints r.1) ∧ Below w.heap.size w w'

set_option maxHeartbeats 2000000 in
theorem buildAll_good (E : MkEnv) (S : Sh) (hE : E.Good S) (w : World) (hb : Below E.B E.w0 w) (hB : E.B ≤ w.heap.size) :
    Calls Try.prog 13 #[.agg #[.slice E.Am S.made.length E.cm, .slice E.At S.tks.length E.ct], .slice E.Ai S.inputs.length E.ci] w fun e w' => GivesRow (buildAllP S) e w w' := by
  have hok1 : sheetOk S.made (S.tks.map Tk.enc) = true := hE.ok.sheet
  have hok2 : takesOk S.made.length S.inputs = true := by simp [takesOk, hE.ok.ins, vals_iff.2 hE.ok.vals]
  have hten := hE.ok.ten
  have hc1 := fun w1 (hw : Below w.heap.size w w1) => sheetOk_calls E.Am E.At E.cm E.ct S.made (S.tks.map Tk.enc) E.B E.w0 w1 (below_up' hb hB hw) (Nat.le_trans hB hw.size) hE.sheet
  rw [hok1] at hc1
  simp only [List.length_map] at hc1
  have hc2 := fun w1 (hw : Below w.heap.size w w1) => takes_calls E.Am E.At E.Ai S.made.length E.cm S.tks.length E.ct E.ci S.inputs E.B E.w0 w1 (below_up' hb hB hw) (Nat.le_trans hB hw.size) (Nat.le_trans hE.li hE.mi) hE.ins
  rw [hok2] at hc2
  have hc4 := fun w1 (hw : Below w.heap.size w w1) => newMaker_calls E S w1 (below_up' hb hB hw) (Nat.le_trans hB hw.size)
  have hc5 := key_calls E S hE
  obtain ⟨P, hP⟩ : ∃ P, buildAllP S = P := ⟨_, rfl⟩
  rw [hP]
  replace hc1 := Lib.hid hc1
  replace hc2 := Lib.hid hc2
  replace hc4 := Lib.hid hc4
  replace hc5 := Lib.hid hc5
  replace hb := Lib.hid hb
  replace hE := Lib.hid hE
  replace hP := Lib.hid hP
  clear hok1 hok2
  go_enter Try.func13, Try.ntmps13
  go_wp2_with fail
  refine (hc1.out _ (below_al (Below.refl _ _) _)).mono ?_
  rintro e w1 ⟨rfl, h1⟩
  have x0 : w1.cell? ⟨w.heap.size, 0, none⟩ = some (.slice E.Am S.made.length E.cm) := (h1.cell (p := ⟨w.heap.size, 0, none⟩) (by simp)).trans (by simp)
  have x1 : w1.cell? ⟨w.heap.size, 1, none⟩ = some (.slice E.At S.tks.length E.ct) := (h1.cell (p := ⟨w.heap.size, 1, none⟩) (by simp)).trans (by simp)
  have b1 := below_from h1
  have s1 : w.heap.size < w1.heap.size := by have := h1.size; simp at this; omega
  replace b1 := Lib.hid b1
  clear h1
  go_wp2_with fail
  refine (hc2.out _ b1.out).mono ?_
  rintro e w2 ⟨rfl, h2⟩
  have y0 : w2.cell? ⟨w.heap.size, 0, none⟩ = some (.slice E.Am S.made.length E.cm) := kept_cell h2 s1 x0
  have y1 : w2.cell? ⟨w.heap.size, 1, none⟩ = some (.slice E.At S.tks.length E.ct) := kept_cell h2 s1 x1
  have b2 := below_up b1.out h2
  have s2 : w.heap.size < w2.heap.size := by have := h2.size; omega
  replace b2 := Lib.hid b2
  clear h2 x0 x1 s1
  go_wp2_with fail
  refine (hc4.out _ b2.out).mono ?_
  rintro e w4 ⟨m, F, rfl, hM, hF, h4⟩
  have x0 : w4.cell? ⟨w.heap.size, 0, none⟩ = some (.slice E.Am S.made.length E.cm) := kept_cell h4 s2 y0
  have b4 := below_up b2.out h4
  have hF4 : ∀ i, F i → w.heap.size ≤ i := fun i hi => Nat.le_trans b2.out.size (hF i hi)
  replace hM := Lib.hid hM
  replace hF4 := Lib.hid hF4
  replace b4 := Lib.hid b4
  clear hF h4 y0 y1 s2
  go_wp2_with fail
  go_loopw [7, 8, 9, 10, 26] (fun o _ _ _ i wr => ∃ (j : Nat) (st : MkSt) (F : Nat → Prop) (out : List Int), j ≤ S.made.length ∧ i = .int .i64 j ∧ Hid (out.length = j) ∧ Hid (wr.ownsRow w.heap.size 3 1 o j (ints out)) ∧ Hid (MkI E S m S.made.length st wr F) ∧
    Hid (∀ i, F i → w.heap.size ≤ i ∧ o.ownBlock ≠ some i) ∧ Hid (Below w.heap.size w wr) ∧ Hid (buildAllP S = allL S ((keysN S.made.length).drop j) st out)) (fun _ _ _ _ i _ => S.made.length - (intOf i).toNat)
  case atStart => exact ⟨0, st0, F, [], Nat.zero_le _, rfl, Lib.hid rfl, Lib.hid (World.ownsRow_nil _ _ _ _), Lib.hid ⟨hM.out, inv0 S⟩, Lib.hid (fun i hi => ⟨hF4.out i hi, fun e => by cases e⟩), b4, Lib.hid rfl⟩
  case round =>
    obtain ⟨j, st, F, out, hj, rfl, hlen, hown, hM, hF, hw, he⟩ := hrel
    by_cases hlt : j < S.made.length
    · have he2 := he.out
      rw [keysN_drop hlt, allL] at he2
      have hkey := hc5.out m S.made.length st j _ F (by omega) (by omega) hM.out
      obtain ⟨r, hr⟩ : ∃ r, keyP S S.made.length st j = r := ⟨_, rfl⟩
      rw [hr] at he2 hkey
      replace hkey := Lib.hid hkey
      replace hr := Lib.hid hr
      replace he2 := Lib.hid he2
      clear he
      go_wp2_with fail
      refine hkey.out.mono ?_
      rintro e w5 ⟨rfl, v1, v2, F5, hM5, t5⟩
      have hown5 : w5.ownsRow w.heap.size 3 1 u7 j (ints out) := ownsRow_block hown.out (fun i hi => t5.block i (hown.out.lt i hi).2 (fun hf => (hF.out i hf).2 hi))
      have hF5 : ∀ i, F5 i → w.heap.size ≤ i ∧ u7.ownBlock ≠ some i := fun i hi => (t5.fresh i hi).elim (hF.out i) (fun hge => ⟨Nat.le_trans hw.out.size hge, fun e => by have := (hown.out.lt i e).2; omega⟩)
      have hw5 := hw.out.trans (t5.below (B := w.heap.size) hw.out.size (fun i hi => (hF.out i hi).1))
      replace hM5 := Lib.hid hM5
      replace hF5 := Lib.hid hF5
      replace hw5 := Lib.hid hw5
      replace hown5 := Lib.hid hown5
      clear t5
      cases hok : r.1.2 with
      | false =>
        rw [hok] at he2
        go_wp2_with fail
        go_ret2
        have := he2.out
        simp at this
        rw [← hP.out, this]
        exact ⟨_, rfl, World.ownsRow_nil _ _ _ _, hw5.out⟩
      | true =>
        rw [hok] at he2
        simp only [if_true] at he2
        go_wp2_with ((with_reducible refine wpList_app1 (by rfl) (.tmp 37) (.tmp 39) 27 (by rfl) intTy w.heap.size u7 j (ints out) (by with_unfolding_all rfl) (hown5.out.alloc _) w5.heap.size 1 [.int .i64 r.1.1] (by with_unfolding_all rfl) (by with_unfolding_all rfl) ⟨_, _, heap_alloc_new w5 _, rfl⟩ (one_int _ _) ?_ ?_ ?_ ?_))
        · unfold maxLen; omega
        · omega
        · have := hw5.out.size; simp; omega
        intro g cap w7 hown7 hgrow7 hat7
        have hM7 := hM5.out.grown hgrow7 (fun i hi => (hF5.out i hi).2) (fun i hi => Nat.le_trans hB (hown5.out.lt i hi).1)
        have hw7 := (hw5.out.alloc hw5.out.size _).grown hgrow7 (by have := hw5.out.size; simp; omega) (fun i hi => (hown5.out.lt i hi).1)
        have hF7 : ∀ i, F5 i → w.heap.size ≤ i ∧ (Value.slice (some ⟨g, 0, none⟩) (j + 1) cap).ownBlock ≠ some i := fun i hi => ⟨(hF5.out i hi).1, fun e => by
          cases e
          rcases hat7 with e | e
          · exact (hF5.out _ hi).2 e
          · have h3 : g < w5.heap.size := ((MakerIs.holds E S m S.made.length).own _ _ _ hM5.out _ hi).2
            have h4 : g = w5.heap.size + 1 := by simpa using e
            omega⟩
        have hown7' : w7.ownsRow w.heap.size 3 1 (.slice (some ⟨g, 0, none⟩) (j + 1) cap) (j + 1) (ints (out ++ [r.1.1])) := by simpa [ints_append, ints] using hown7
        replace hM7 := Lib.hid hM7
        replace hw7 := Lib.hid hw7
        replace hF7 := Lib.hid hF7
        replace hown7' := Lib.hid hown7'
        have hlen' : (out ++ [r.1.1]).length = j + 1 := by have := hlen.out; simp [this]
        replace hlen' := Lib.hid hlen'
        clear hown7 hgrow7 hat7
        go_wp2_with fail
        go_roundw
        case rel => exact ⟨j + 1, r.2, F5, out ++ [r.1.1], by omega, by go_num, hlen', hown7', hM7, hF7, hw7, he2⟩
        case measure => simp [intOf]; omega
    · have hd : (keysN S.made.length).drop j = [] := List.drop_eq_nil_of_le (by simp [keysN]; omega)
      have he2 := he.out
      rw [hd, allL] at he2
      replace he2 := Lib.hid he2
      replace hd := Lib.hid hd
      clear he
      go_wp2_with fail
      go_ret2
      rw [← hP.out, he2.out]
      exact ⟨_, rfl, by rw [hlen.out]; exact hown.out, hw.out⟩

set_option maxHeartbeats 1000000 in
theorem buildAll_bad (Am At Ai : Option Addr) (cm ct ci : Nat) (made : List Bool) (tasks : List Task) (inputs : List Int) (B : Nat) (w0 : World) (w : World) (hs : SheetAt B w0 Am cm At ct made tasks) (hi : IntsAt B w0 Ai inputs) (hli : inputs.length ≤ maxLen)
    (hb : Below B w0 w) (hB : B ≤ w.heap.size) (hbad : sheetOk made tasks = true → takesOk made.length inputs = false) :
    Calls Try.prog 13 #[.agg #[.slice Am made.length cm, .slice At tasks.length ct], .slice Ai inputs.length ci] w fun e w' =>
      e = .returned (.tuple #[.slice none 0 0, .bool false]) ∧ Below w.heap.size w w' := by
  have hc1 := fun w1 (hw : Below w.heap.size w w1) => sheetOk_calls Am At cm ct made tasks B w0 w1 (below_up' hb hB hw) (Nat.le_trans hB hw.size) hs
  have hc2 := fun w1 (hw : Below w.heap.size w w1) => takes_calls Am At Ai made.length cm tasks.length ct ci inputs B w0 w1 (below_up' hb hB hw) (Nat.le_trans hB hw.size) hli hi
  cases h1 : sheetOk made tasks with
  | false =>
    rw [h1] at hc1
    replace hc1 := Lib.hid hc1
    clear hc2 h1 hbad
    replace hb := Lib.hid hb
    replace hs := Lib.hid hs
    replace hi := Lib.hid hi
    go_enter Try.func13, Try.ntmps13
    go_wp2_with fail
    refine (hc1.out _ (below_al (Below.refl _ _) _)).mono ?_
    rintro e w1 ⟨rfl, h1⟩
    go_wp2_with fail
    go_ret2
    exact ⟨rfl, below_from h1⟩
  | true =>
    rw [h1] at hc1
    rw [hbad h1] at hc2
    replace hc1 := Lib.hid hc1
    replace hc2 := Lib.hid hc2
    clear h1 hbad
    replace hb := Lib.hid hb
    replace hs := Lib.hid hs
    replace hi := Lib.hid hi
    go_enter Try.func13, Try.ntmps13
    go_wp2_with fail
    refine (hc1.out _ (below_al (Below.refl _ _) _)).mono ?_
    rintro e w1 ⟨rfl, h1⟩
    have x0 : w1.cell? ⟨w.heap.size, 0, none⟩ = some (.slice Am made.length cm) := (h1.cell (p := ⟨w.heap.size, 0, none⟩) (by simp)).trans (by simp)
    have x1 : w1.cell? ⟨w.heap.size, 1, none⟩ = some (.slice At tasks.length ct) := (h1.cell (p := ⟨w.heap.size, 1, none⟩) (by simp)).trans (by simp)
    have b1 := below_from h1
    replace b1 := Lib.hid b1
    clear h1
    go_wp2_with fail
    refine (hc2.out _ b1.out).mono ?_
    rintro e w2 ⟨rfl, h2⟩
    have b2 := below_up b1.out h2
    replace b2 := Lib.hid b2
    clear h2 x0 x1
    go_wp2_with fail
    go_ret2
    exact ⟨rfl, b2.out⟩
end Go.Proofs.Ytagmdljdcnmpdaa
