import Derived.Test.YtagmdljdcnmpdaaPlainAll
set_option linter.unusedVariables false
set_option linter.unusedSimpArgs false
namespace Go.Proofs.Ytagmdljdcnmpdaa
open Go Go.RowKit

set_option maxHeartbeats 1000000 in
theorem brInts_calls (A : Option Addr) (c : Nat) (xs : List Int) (A2 : Option Addr) (c2 : Nat) (ys : List Int) (w : World) (hx : IntsAt w.heap.size w A xs) (hy : IntsAt w.heap.size w A2 ys) (hl : xs.length ≤ maxLen) (hl2 : ys.length ≤ maxLen) :
    Calls Try.prog 20 #[.slice A xs.length c, .slice A2 ys.length c2] w fun e w' => e = .returned (.bool (decide (xs = ys))) ∧ Below w.heap.size w w' := by
  unfold maxLen at hl hl2
  by_cases hlen : xs.length = ys.length
  case neg =>
    have hr : decide (xs = ys) = false := by simp; intro e; exact hlen (by rw [e])
    have hl' : ((xs.length : Int) != (ys.length : Int)) = true := by simp; omega
    rw [hr]
    clear hr hx hy hlen
    go_enter Try.func20, Try.ntmps20
    go_wp2_with fail
    go_ret
    exact ⟨rfl, Below.refl _ _⟩
  have hl' : ((xs.length : Int) != (ys.length : Int)) = false := by simp; omega
  replace hx := Lib.hid hx
  replace hy := Lib.hid hy
  replace hlen := Lib.hid hlen
  go_enter Try.func20, Try.ntmps20
  go_wp2_with fail
  go_loopw [5] (fun i wr => ∃ (j : Nat), j ≤ xs.length ∧ i = .int .i64 j ∧ Hid (Below w.heap.size w wr) ∧ Hid (∀ i (h1 : i < xs.length) (h2 : i < ys.length), i < j → xs[i] = ys[i])) (fun i _ => xs.length - (intOf i).toNat)
  case atStart => exact ⟨0, Nat.zero_le _, rfl, Lib.hid (Below.refl _ _), Lib.hid (fun i _ _ h => by omega)⟩
  case round =>
    obtain ⟨j, hj, rfl, hw, he⟩ := hrel
    by_cases hlt : j < xs.length
    · have hlt2 : j < ys.length := by have := hlen.out; omega
      obtain ⟨b, o, rfl, hb, y⟩ := hx.out.at hw.out hw.out.size j hlt
      obtain ⟨b2, o2, rfl, hb2, y2⟩ := hy.out.at hw.out hw.out.size j hlt2
      by_cases hne : xs[j] = ys[j]
      · have hne' : (xs[j] != ys[j]) = false := by simp [hne]
        have he2 : ∀ i (h1 : i < xs.length) (h2 : i < ys.length), i < j + 1 → xs[i] = ys[i] := fun i h1 h2 h3 => by
          by_cases e : i = j
          · subst e; exact hne
          · exact he.out i h1 h2 (by omega)
        replace hne := Lib.hid hne
        replace he2 := Lib.hid he2
        go_wp2_with fail
        go_region
        go_wp2_with fail
        go_roundw
        case rel => exact ⟨j + 1, by omega, by go_num, Lib.hid hw.out.drew, he2⟩
        case measure => simp [intOf]; omega
      · have hne' : (xs[j] != ys[j]) = true := by simp [hne]
        have hr : decide (xs = ys) = false := by
          rw [decide_eq_false_iff_not]
          intro e
          exact hne (by subst e; rfl)
        replace hne := Lib.hid hne
        replace hr := Lib.hid hr
        go_wp2_with fail
        go_region
        go_wp2_with fail
        go_ret
        exact ⟨by rw [hr.out]; rfl, hw.out.drew⟩
    · have hr : decide (xs = ys) = true := by
        rw [decide_eq_true_eq]
        exact List.ext_getElem hlen.out (fun i h1 h2 => he.out i h1 h2 (by omega))
      replace hr := Lib.hid hr
      go_wp2_with fail
      go_ret
      exact ⟨by rw [hr.out]; rfl, hw.out⟩

/-- the reference's values of all keys -/
def specAllL (S : Sh) : List Int → List Int → List Int × Bool
  | [], out => (out, true)
  | k :: ks, out => if (specKeyP S k).2 = true then specAllL S ks (out ++ [(specKeyP S k).1]) else ([], false)
def specAllP (S : Sh) : List Int × Bool := specAllL S (keysN S.made.length) []
theorem allL_same {S : Sh} (hS : S.Ok) : ∀ (ks : List Int) (st : MkSt) (out : List Int), Inv S S.made.length st → st.open_ = [] → KnE S st.known → allL S ks st out = specAllL S ks out := by
  intro ks
  induction ks with
  | nil => intro st out _ _ _; rfl
  | cons k ks ih =>
    intro st out hi ho hK
    rw [allL, specAllL]
    have hs := keyP_spec hS S.made.length st [] k hi hK
    rw [ho] at hs
    obtain ⟨⟨h1, h2, h3⟩, h4⟩ := hs
    have hv := keyP_inv hS S.made.length st k hi
    have e : (keyP S S.made.length st k).1 = specKeyP S k := h1
    by_cases hok : (keyP S S.made.length st k).1.2 = true
    · have hok' : (specKeyP S k).2 = true := by rw [← e]; exact hok
      rw [if_pos hok, if_pos hok', ih _ _ hv.1 ((hv.2.1 hok).trans ho) (h2 hok).2.1, e]
    · have hok' : ¬ (specKeyP S k).2 = true := by rw [← e]; exact hok
      rw [if_neg hok, if_neg hok']
theorem all_same {S : Sh} (hS : S.Ok) : buildAllP S = specAllP S := allL_same hS _ st0 [] (inv0 S) rfl (knE0 S)

set_option maxHeartbeats 2000000 in
theorem specBuildAll_good (E : MkEnv) (S : Sh) (hE : E.Good S) (hnod : ∀ T ∈ S.tks.map Tk.enc, nodes T ≤ 1000000000) (w : World) (hb : Below E.B E.w0 w) (hB : E.B ≤ w.heap.size) :
    Calls Try.prog 19 #[.agg #[.slice E.Am S.made.length E.cm, .slice E.At S.tks.length E.ct], .slice E.Ai S.inputs.length E.ci] w fun e w' => GivesRow (specAllP S) e w w' := by
  have hok2 : takesOk S.made.length S.inputs = true := by simp [takesOk, hE.ok.ins, vals_iff.2 hE.ok.vals]
  have hin : inputsOk S.made (S.tks.map Tk.enc) S.inputs = true := by rw [inputsOk, hE.ok.sheet, hok2]; rfl
  have hten := hE.ok.ten
  have hc1 := fun w1 (hw : Below w.heap.size w w1) => l3Inputs_calls E.Am E.At E.Ai E.cm E.ct E.ci S.made (S.tks.map Tk.enc) S.inputs E.B E.w0 w1 (below_up' hb hB hw) (Nat.le_trans hB hw.size) hE.sheet hnod (Nat.le_trans hE.li hE.mi) hE.ins
  rw [hin] at hc1
  simp only [List.length_map] at hc1
  have hc2 := fun w1 (hw : Below w.heap.size w w1) (j : Nat) (hj : j < S.made.length) => specBuildKey_good E S hE hnod j w1 (below_up' hb hB hw) (Nat.le_trans hB hw.size) (by omega) (by omega)
  obtain ⟨P, hP⟩ : ∃ P, specAllP S = P := ⟨_, rfl⟩
  rw [hP]
  replace hc1 := Lib.hid hc1
  replace hc2 := Lib.hid hc2
  replace hP := Lib.hid hP
  clear hin hok2 hnod hE hb
  go_enter Try.func19, Try.ntmps19
  go_wp2_with fail
  have hown0 : ((w.alloc (.cells #[.slice E.Am S.made.length E.cm, .slice E.At S.tks.length E.ct] 26 (0, 0))).alloc (.cells #[] 3 (0, 0))).ownsRow w.heap.size 3 1 (.slice (some ⟨w.heap.size + 1, 0, none⟩) 0 0) 0 (ints []) := by
    simpa [ints] using World.ownsRow_made (base := w.heap.size) (w.alloc (.cells #[.slice E.Am S.made.length E.cm, .slice E.At S.tks.length E.ct] 26 (0, 0))) #[] 0 (by simp) (by simp [maxLen]) rfl
  refine (hc1.out _ (below_al (below_al (Below.refl _ _) _) _)).mono ?_
  rintro e w1 ⟨rfl, h1⟩
  have x0 : w1.cell? ⟨w.heap.size, 0, none⟩ = some (.slice E.Am S.made.length E.cm) := (h1.cell (p := ⟨w.heap.size, 0, none⟩) (by simp; omega)).trans (by simp)
  have x1 : w1.cell? ⟨w.heap.size, 1, none⟩ = some (.slice E.At S.tks.length E.ct) := (h1.cell (p := ⟨w.heap.size, 1, none⟩) (by simp; omega)).trans (by simp)
  have b1 : Below w.heap.size w w1 := below_from (below_from h1)
  have hown1 := ownsRow_block hown0 (fun i hi => h1.block i (hown0.lt i hi).2)
  have s1 : w.heap.size < w1.heap.size := by have := h1.size; simp at this; omega
  replace b1 := Lib.hid b1
  replace hown1 := Lib.hid hown1
  clear h1 hown0
  go_wp2_with fail
  go_loopw [6, 7] (fun o i wr => ∃ (j : Nat) (out : List Int), j ≤ S.made.length ∧ i = .int .i64 j ∧ Hid (out.length = j) ∧ Hid (wr.ownsRow w.heap.size 3 1 o j (ints out)) ∧ w.heap.size < wr.heap.size ∧ wr.cell? ⟨w.heap.size, 0, none⟩ = some (.slice E.Am S.made.length E.cm) ∧ wr.cell? ⟨w.heap.size, 1, none⟩ = some (.slice E.At S.tks.length E.ct) ∧
    Hid (o.ownBlock ≠ some w.heap.size) ∧ Hid (Below w.heap.size w wr) ∧ Hid (specAllP S = specAllL S ((keysN S.made.length).drop j) out)) (fun _ i _ => S.made.length - (intOf i).toNat)
  case atStart => exact ⟨0, [], Nat.zero_le _, rfl, Lib.hid rfl, hown1, s1, x0, x1, Lib.hid (by simp [Value.ownBlock]), b1, Lib.hid rfl⟩
  case round =>
    obtain ⟨j, out, hj, rfl, hlen, hown, hz, y0, y1, hne, hw, he⟩ := hrel
    by_cases hlt : j < S.made.length
    · have he2 := he.out
      rw [keysN_drop hlt, specAllL] at he2
      have hkey := hc2.out wr hw.out j hlt
      obtain ⟨r, hr⟩ : ∃ r, specKeyP S j = r := ⟨_, rfl⟩
      rw [hr] at he2 hkey
      obtain ⟨x, ok⟩ := r
      replace hkey := Lib.hid hkey
      replace hr := Lib.hid hr
      replace he2 := Lib.hid he2
      clear he
      go_wp2_with fail
      refine hkey.out.mono ?_
      rintro e w5 ⟨rfl, h5⟩
      have z0 := kept_cell h5 hz y0
      have z1 := kept_cell h5 hz y1
      have hz5 : w.heap.size < w5.heap.size := by have := h5.size; omega
      have hown5 := ownsRow_block hown.out (fun i hi => h5.block i (hown.out.lt i hi).2)
      have hw5 := below_up hw.out h5
      replace hown5 := Lib.hid hown5
      replace hw5 := Lib.hid hw5
      clear h5 hown y0 y1
      dsimp only
      cases ok with
      | false =>
        have he3 : specAllP S = ([], false) := by have := he2.out; simpa using this
        replace he3 := Lib.hid he3
        go_wp2_with fail
        go_ret2
        rw [← hP.out, he3.out]
        exact ⟨_, rfl, by simpa [ints] using World.ownsRow_made (base := w.heap.size) w5 #[] 0 (Nat.le_of_lt hz5) (by simp [maxLen]) rfl, below_al' hw5.out _ (Nat.le_of_lt hz5)⟩
      | true =>
        have he3 := he2.out
        rw [if_pos rfl] at he3
        replace he3 := Lib.hid he3
        go_wp2_with (at_builtin; go_loud (with_reducible refine wpList_app1 (by rfl) (.tmp 33) (.tmp 35) 27 (by rfl) intTy w.heap.size u6 j (ints out) (by with_unfolding_all rfl) (hown5.out.alloc _) w5.heap.size 1 [.int .i64 x] (by with_unfolding_all rfl) (by with_unfolding_all rfl) ⟨_, _, heap_alloc_new w5 _, rfl⟩ (one_int _ _) ?_ ?_ ?_ ?_))
        · unfold maxLen; omega
        · omega
        · first | omega | (simp; omega)
        intro g cap w7 hown7 hgrow7 hat7
        have hw7 := (below_al' hw5.out (.cells #[.int .i64 x] 3 (0, 0)) (Nat.le_of_lt hz5)).grown hgrow7 (by simp; omega) (fun i hi => (hown5.out.lt i hi).1)
        have hk : w7.heap[w.heap.size]? = w5.heap[w.heap.size]? := far_grown hgrow7 hz5 hne.out
        have z0' : w7.cell? ⟨w.heap.size, 0, none⟩ = some (.slice E.Am S.made.length E.cm) := (World.cell?_of_block (w := w5) hk).trans z0
        have z1' : w7.cell? ⟨w.heap.size, 1, none⟩ = some (.slice E.At S.tks.length E.ct) := (World.cell?_of_block (w := w5) hk).trans z1
        have hz7 : w.heap.size < w7.heap.size := by have := hgrow7.size; simp at this; omega
        have hown7' : w7.ownsRow w.heap.size 3 1 (.slice (some ⟨g, 0, none⟩) (j + 1) cap) (j + 1) (ints (out ++ [x])) := by simpa [ints_append, ints] using hown7
        have hne7 : (Value.slice (some ⟨g, 0, none⟩) (j + 1) cap).ownBlock ≠ some w.heap.size := fun e => by
          cases e
          rcases hat7 with e | e
          · exact hne.out e
          · simp at e; omega
        have hlen' : (out ++ [x]).length = j + 1 := by have := hlen.out; simp [this]
        replace hw7 := Lib.hid hw7
        replace hown7' := Lib.hid hown7'
        replace hlen' := Lib.hid hlen'
        replace hne7 := Lib.hid hne7
        clear hown7 hgrow7 hat7 hk z0 z1
        go_wp2_with fail
        go_roundw
        case rel => exact ⟨j + 1, out ++ [x], by omega, by go_num, hlen', hown7', hz7, z0', z1', hne7, hw7, he3⟩
        case measure => simp [intOf]; omega
    · have hd : (keysN S.made.length).drop j = [] := List.drop_eq_nil_of_le (by simp [keysN]; omega)
      have he2 := he.out
      rw [hd, specAllL] at he2
      replace he2 := Lib.hid he2
      replace hd := Lib.hid hd
      clear he
      go_wp2_with fail
      go_ret2
      rw [← hP.out, he2.out]
      exact ⟨_, rfl, by rw [hlen.out]; exact hown.out, hw.out⟩

set_option maxHeartbeats 1000000 in
theorem specBuildAll_bad (Am At Ai : Option Addr) (cm ct ci : Nat) (made : List Bool) (tasks : List Task) (inputs : List Int) (B : Nat) (w0 : World) (w : World) (hs : SheetAt B w0 Am cm At ct made tasks) (hi : IntsAt B w0 Ai inputs) (hli : inputs.length ≤ maxLen) (hnod : ∀ T ∈ tasks, nodes T ≤ 1000000000)
    (hb : Below B w0 w) (hB : B ≤ w.heap.size) (hbad : inputsOk made tasks inputs = false) :
    Calls Try.prog 19 #[.agg #[.slice Am made.length cm, .slice At tasks.length ct], .slice Ai inputs.length ci] w fun e w' => GivesRow ([], false) e w w' := by
  have hc1 := fun w1 (hw : Below w.heap.size w w1) => l3Inputs_calls Am At Ai cm ct ci made tasks inputs B w0 w1 (below_up' hb hB hw) (Nat.le_trans hB hw.size) hs hnod hli hi
  rw [hbad] at hc1
  replace hc1 := Lib.hid hc1
  clear hs hi hnod hbad hb
  go_enter Try.func19, Try.ntmps19
  go_wp2_with fail
  have hown0 : ((w.alloc (.cells #[.slice Am made.length cm, .slice At tasks.length ct] 26 (0, 0))).alloc (.cells #[] 3 (0, 0))).ownsRow w.heap.size 3 1 (.slice (some ⟨w.heap.size + 1, 0, none⟩) 0 0) 0 (ints []) := by
    simpa [ints] using World.ownsRow_made (base := w.heap.size) (w.alloc (.cells #[.slice Am made.length cm, .slice At tasks.length ct] 26 (0, 0))) #[] 0 (by simp) (by simp [maxLen]) rfl
  refine (hc1.out _ (below_al (below_al (Below.refl _ _) _) _)).mono ?_
  rintro e w1 ⟨rfl, h1⟩
  have b1 : Below w.heap.size w w1 := below_from (below_from h1)
  have hown1 := ownsRow_block hown0 (fun i hi => h1.block i (hown0.lt i hi).2)
  replace b1 := Lib.hid b1
  replace hown1 := Lib.hid hown1
  clear h1 hown0
  go_wp2_with fail
  go_ret2
  exact ⟨_, rfl, hown1.out, b1.out⟩
end Go.Proofs.Ytagmdljdcnmpdaa
