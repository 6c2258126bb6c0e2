import Derived.Test.YtagmdljdcnmpdaaSuspS
import Derived.Test.YtagmdljdcnmpdaaAppI
set_option linter.unusedVariables false
set_option linter.unusedSimpArgs false
namespace Go.Proofs.Ytagmdljdcnmpdaa
open Go Go.RowKit

theorem once0 (E : MkEnv) (S : Sh) (v : Value) (w : World) (ho : w.ownsRow E.B 3 1 v S.inputs.length (ints S.inputs)) (hb : Below E.B E.w0 w) (hB : E.B ≤ w.heap.size) :
    OnAt E S w.heap.size v (.slice none 0 0) (.slice none 0 0) (ost0 S) (w.alloc (.cells (onCs E S v (.slice none 0 0) (.slice none 0 0)) 99 (0, 0))) := by
  have hnil : ∀ i, (rowP E.B 3 1 (.slice none 0 0) 0 (ints [])).F i → False := fun i hi => by cases hi
  have hv : ∀ i, v.ownBlock = some i → i < w.heap.size := fun i hi => (ho.lt i hi).2
  refine ⟨heap_new rfl, fun p hp => ?_, fun i j hi hj hij b h1 h2 => ?_, fun p hp hf => ?_, hB, below_al' hb _ hB, by simp; omega⟩
  · simp only [onPs, ost0, List.mem_cons, List.not_mem_nil, or_false] at hp
    rcases hp with rfl | rfl | rfl
    · exact rowP_ok (ho.alloc _)
    · exact rowP_ok (World.ownsRow_nil _ _ _ _)
    · exact rowP_ok (World.ownsRow_nil _ _ _ _)
  · match i, j, hi, hj with
    | 0, 0, _, _ => exact hij rfl
    | 0, 1, _, _ => exact hnil b h2
    | 0, 2, _, _ => exact hnil b h2
    | 1, _, _, _ => exact hnil b h1
    | 2, _, _, _ => exact hnil b h1
  · simp only [onPs, ost0, List.mem_cons, List.not_mem_nil, or_false] at hp
    rcases hp with rfl | rfl | rfl
    · exact Nat.lt_irrefl _ (hv _ hf)
    · exact hnil _ hf
    · exact hnil _ hf

theorem onceL_nil (S : Sh) (st : OSt) : onceL S [] st = (st.done, true) := rfl
theorem onceL_cons (S : Sh) (k : Int) (ks : List Int) (st : OSt) : onceL S (k :: ks) st = if (onceP S S.made.length st k).1.2 = true then onceL S ks (onceP S S.made.length st k).2 else ([], false) := rfl

set_option maxHeartbeats 4000000 in
theorem specOrderSuspend_good (E : MkEnv) (S : Sh) (hE : E.Good S) (hnod : ∀ T ∈ S.tks.map Tk.enc, nodes T ≤ 1000000000) (Ak : Option Addr) (ck : Nat) (keys : List Int) (w : World) (hb : Below E.B E.w0 w) (hB : E.B ≤ w.heap.size) (hk : keysOk S.made.length keys = true) (hx : IntsAt E.B E.w0 Ak keys) (hm : keys.length ≤ maxLen) :
    Calls Try.prog 34 #[.agg #[.slice E.Am S.made.length E.cm, .slice E.At S.tks.length E.ct], .slice E.Ai S.inputs.length E.ci, .slice Ak keys.length ck] w fun e w' =>
      GivesOwn w.heap.size (suspP S keys) e w w' := by
  have hok2 : takesOk S.made.length S.inputs = true := by simp [takesOk, hE.ok.ins, vals_iff.2 hE.ok.vals]
  have hin : inputsOk S.made (S.tks.map Tk.enc) S.inputs = true := by rw [inputsOk, hE.ok.sheet, hok2]; rfl
  have hten := hE.ok.ten
  have hil : S.inputs.length ≤ 10 := by rw [hE.ok.ins]; exact hten
  have hc1 := fun w1 (hw : Below w.heap.size w w1) => l3Inputs_calls E.Am E.At E.Ai E.cm E.ct E.ci S.made (S.tks.map Tk.enc) S.inputs E.B E.w0 w1 (below_up' hb hB hw) (Nat.le_trans hB hw.size) hE.sheet hnod (Nat.le_trans hE.li hE.mi) hE.ins
  rw [hin] at hc1
  simp only [List.length_map] at hc1
  have hc2 := fun w1 (hw : Below w.heap.size w w1) => l4Keys_calls E.Am E.At Ak E.cm E.ct ck S.made (S.tks.map Tk.enc) keys E.B E.w0 w1 (below_up' hb hB hw) (Nat.le_trans hB hw.size) hE.sheet hnod (by omega) hm hx
  rw [hk, hE.ok.sheet] at hc2
  simp only [List.length_map] at hc2
  have hc3 := okey_calls E S hE
  have hrg := keysOk_iff.1 hk
  have hin2 := hE.ins
  rw [susp_same hE.ok]
  obtain ⟨P, hP⟩ : ∃ P, onceL S keys (ost0 S) = P := ⟨_, rfl⟩
  have hi0 := oinv0 hE.ok
  have hinv := fun st k hi => (onceP_inv hE.ok S.made.length st k hi).1
  rw [hP]
  unfold maxLen at hm
  replace hc1 := Lib.hid hc1
  replace hc2 := Lib.hid hc2
  replace hc3 := Lib.hid hc3
  replace hP := Lib.hid hP
  replace hb := Lib.hid hb
  replace hE := Lib.hid hE
  replace hx := Lib.hid hx
  replace hrg := Lib.hid hrg
  replace hin2 := Lib.hid hin2
  replace hi0 := Lib.hid hi0
  replace hinv := Lib.hid hinv
  clear hin hok2 hk hnod
  go_enter Try.func34, Try.ntmps34
  go_wp2_with fail
  refine (hc1.out _ (below_al (Below.refl _ _) _)).mono ?_
  rintro e w1 ⟨rfl, h1⟩
  have x0 : w1.cell? ⟨w.heap.size, 0, none⟩ = some (.slice E.Am S.made.length E.cm) := (h1.cell (p := ⟨w.heap.size, 0, none⟩) (by simp)).trans (by simp)
  have x1 : w1.cell? ⟨w.heap.size, 1, none⟩ = some (.slice E.At S.tks.length E.ct) := (h1.cell (p := ⟨w.heap.size, 1, none⟩) (by simp)).trans (by simp)
  have b1 := below_from h1
  have s1 : w.heap.size < w1.heap.size := by have := h1.size; simp at this; omega
  replace b1 := Lib.hid b1
  clear h1
  go_wp2_with fail
  refine (hc2.out _ b1.out).mono ?_
  rintro e w2 ⟨rfl, h2⟩
  have y0 : w2.cell? ⟨w.heap.size, 0, none⟩ = some (.slice E.Am S.made.length E.cm) := kept_cell h2 s1 x0
  have y1 : w2.cell? ⟨w.heap.size, 1, none⟩ = some (.slice E.At S.tks.length E.ct) := kept_cell h2 s1 x1
  have b2 := below_up b1.out h2
  have s2 : w.heap.size < w2.heap.size := by have := h2.size; omega
  have hB2 : E.B ≤ w2.heap.size := by omega
  have hb2 : Hid (Below E.B E.w0 w2) := Lib.hid (below_up' hb.out hB b2)
  replace b2 := Lib.hid b2
  clear h2 x0 x1 s1 b1
  go_wp2_with fail
  go_region_law ((with_reducible refine step_appI (base := E.B) (v := .slice (some ⟨w2.heap.size, 0, none⟩) 0 0) (n := 0) (xs := []) (B := E.B) (w0 := E.w0) (by rfl) (.tmp 24) (.tmp 25) (by rfl) intTy (by with_unfolding_all rfl) ?_ (by with_unfolding_all rfl) hin2.out ?_ ?_ ?_ ?_ ?_ ?_); (exact (World.ownsRow_made (base := E.B) w2 #[] 0 hB2 (by simp [maxLen]) rfl).drew); (exact (below_al' hb2.out _ hB2).drew); (simp; omega); (simp [maxLen]; omega); (omega); (simp; omega); intro v3 w3 hown hgrow hat; have hlt3 := hgrow.size; simp at hlt3; have hown' : w3.ownsRow E.B 3 1 v3 S.inputs.length (ints S.inputs) := (by { have := hown; simpa using this }); have b3 : Below w.heap.size w w3 := (by exact ((below_al' b2.out _ (by omega)).drew.grown hgrow (by simp; omega) (fun k hk => by cases hk; exact Nat.le_of_lt s2))); have hne3 : some w.heap.size ≠ (Value.slice (some ⟨w2.heap.size, 0, none⟩) 0 0).ownBlock := (by { intro e; have := Option.some.inj (show some w.heap.size = some w2.heap.size from e); omega }); have z0 : w3.cell? ⟨w.heap.size, 0, none⟩ = some (.slice E.Am S.made.length E.cm) := (hgrow.cell_far ⟨w.heap.size, 0, none⟩ (by simp; omega) hne3).trans ((cell_al s2).trans y0); have z1 : w3.cell? ⟨w.heap.size, 1, none⟩ = some (.slice E.At S.tks.length E.ct) := (hgrow.cell_far ⟨w.heap.size, 1, none⟩ (by simp; omega) hne3).trans ((cell_al s2).trans y1); obtain ⟨A3, c3, rfl, -, -, -⟩ := ownsRow_ints hown'; have hO3 := once0 E S _ w3 hown' (below_up' hb.out hB b3) (Nat.le_trans hB b3.size); have hv3 : ∀ i, (Value.slice A3 S.inputs.length c3).ownBlock = some i → w.heap.size ≤ i := (by { intro i hi; rcases hat with h | h <;> rw [h] at hi <;> cases hi <;> (simp; omega) }); replace b3 := Lib.hid b3; replace hO3 := Lib.hid hO3; replace hv3 := Lib.hid hv3; clear hown hgrow hat hown' hne3)
  all_goals
    have hF3 : ∀ i, Foot w3.heap.size (onPs E (.slice A3 S.inputs.length c3) (.slice none 0 0) (.slice none 0 0) (ost0 S)) i → w.heap.size ≤ i := fun i hi => by
      rcases hi with rfl | ⟨p, hp, hf⟩
      · exact b3.out.size
      · simp only [onPs, List.mem_cons, List.not_mem_nil, or_false] at hp
        rcases hp with rfl | rfl | rfl
        · exact hv3.out i hf
        · cases hf
        · cases hf
    replace hF3 := Lib.hid hF3
    clear y0 y1 z0 z1 hv3
    generalize hm0 : w3.heap.size = m at *
    replace hm0 := Lib.hid hm0
    go_wp2_with fail
    go_loopw [9, 10, 11] (fun i _ _ wr => ∃ (j : Nat) (st : OSt) (F : Nat → Prop), j ≤ keys.length ∧ i = .int .i64 j ∧ Hid (OnI E S m st wr F) ∧ Hid (OInv S S.made.length st) ∧
      Hid (∀ i, F i → w.heap.size ≤ i) ∧ Hid (Below w.heap.size w wr) ∧ Hid (onceL S keys (ost0 S) = onceL S (keys.drop j) st)) (fun i _ _ _ => keys.length - (intOf i).toNat)
    case atStart => exact ⟨0, ost0 S, _, Nat.zero_le _, rfl, Lib.hid ⟨_, _, _, hO3.out, rfl⟩, hi0, hF3, Lib.hid (below_al' b3.out _ b3.out.size), Lib.hid rfl⟩
    case round =>
      obtain ⟨j, st, F, hj, rfl, hM, hIv, hF, hw, he⟩ := hrel
      by_cases hlt : j < keys.length
      · have he2 := he.out
        rw [List.drop_eq_getElem_cons hlt, onceL_cons] at he2
        have hkr := hrg.out _ (List.getElem_mem hlt)
        have hkey := hc3.out m S.made.length st keys[j] wr F hkr.1 (by omega) hIv.out hM.out
        have hIv2 := hinv.out st keys[j] hIv.out
        obtain ⟨b, o, rfl, hbb, y⟩ := hx.out.at (below_up' hb.out hB hw.out) (Nat.le_trans hB hw.out.size) j hlt
        generalize keys[j] = k at *
        obtain ⟨r, hr⟩ : ∃ r, onceP S S.made.length st k = r := ⟨_, rfl⟩
        rw [hr] at he2 hkey hIv2
        replace hkey := Lib.hid hkey
        replace hr := Lib.hid hr
        replace he2 := Lib.hid he2
        replace hkr := Lib.hid hkr
        replace hIv2 := Lib.hid hIv2
        clear he
        go_wp2_with fail
        refine hkey.out.mono ?_
        rintro e w5 ⟨rfl, v1, v2, F5, hM5, t5⟩
        have hF5 : ∀ i, F5 i → w.heap.size ≤ i := fun i hi => (t5.fresh i hi).elim (hF.out i) (fun hge => Nat.le_trans hw.out.size hge)
        have hw5 := hw.out.trans (t5.below (B := w.heap.size) hw.out.size (fun i hi => hF.out i hi))
        replace hM5 := Lib.hid hM5
        replace hF5 := Lib.hid hF5
        replace hw5 := Lib.hid hw5
        clear t5 y
        cases hok : r.1.2 with
        | false =>
          rw [hok] at he2
          go_wp2_with fail
          go_ret2
          have := he2.out
          simp at this
          rw [← hP.out, this]
          exact ⟨_, rfl, by simpa [ints] using World.ownsRow_made (base := w.heap.size) w5 #[] 0 hw5.out.size (by simp [maxLen]) rfl, below_al' hw5.out _ hw5.out.size⟩
        | true =>
          rw [hok] at he2
          simp only [if_true] at he2
          go_wp2_with fail
          go_roundw
          case rel => exact ⟨j + 1, r.2, F5, by omega, by go_num, hM5, hIv2, hF5, hw5, he2⟩
          case measure => simp [intOf]; omega
      · have hd : keys.drop j = [] := List.drop_eq_nil_of_le (by omega)
        have he2 := he.out
        rw [hd, onceL_nil] at he2
        obtain ⟨vv, vd, vu, hA, -⟩ := hM.out
        have hod := hA.done
        obtain ⟨z0, z1, z2, z3, -⟩ := hA.cells
        obtain ⟨Ad, cd, rfl, hd1, hd2, hd3⟩ := ownsRow_ints hod
        have hdl : st.done.length ≤ 10 := Nat.le_trans hIv.out.done hten
        have hwz : w.heap.size ≤ wr.heap.size := hw.out.size
        have hzm : m < wr.heap.size := hA.lt
        replace he2 := Lib.hid he2
        replace hod := Lib.hid hod
        replace hd := Lib.hid hd
        replace hd3 := Lib.hid hd3
        clear he hA z0 z1 z2 hd1 hd2
        go_wp2_with (at_builtin; go_loud (with_reducible refine wpList_appI (base := w.heap.size) (v := .slice (some ⟨wr.heap.size, 0, none⟩) 0 0) (n := 0) (xs := []) (B := wr.heap.size) (w0 := wr) (by rfl) (.tmp 47) (.tmp 51) (by rfl) intTy (by with_unfolding_all rfl) ?_ (by with_unfolding_all rfl) hd3.out ?_ ?_ ?_ ?_ ?_ ?_))
        · exact World.ownsRow_made (base := w.heap.size) wr #[] 0 hwz (by simp [maxLen]) rfl
        · exact below_al (Below.refl _ _) _
        · simp
        · simp [maxLen]; omega
        · omega
        · simp; omega
        intro v9 w9 hown9 hgrow9 hat9
        have hw9 : Below w.heap.size w w9 := (below_al' hw.out _ hwz).grown hgrow9 (by simp; omega) (fun k hk => by cases hk; exact hwz)
        have hown9' : w9.ownsRow w.heap.size 3 1 v9 st.done.length (ints st.done) := by simpa using hown9
        replace hw9 := Lib.hid hw9
        replace hown9' := Lib.hid hown9'
        clear hown9 hgrow9 hat9
        go_wp2_with fail
        go_ret2
        rw [← hP.out, he2.out]
        exact ⟨_, rfl, hown9'.out, hw9.out⟩

set_option maxHeartbeats 1000000 in
theorem specOrderSuspend_bad (Am At Ai Ak : Option Addr) (cm ct ci ck : Nat) (made : List Bool) (tasks : List Task) (inputs keys : List Int) (B : Nat) (w0 : World) (w : World) (hs : SheetAt B w0 Am cm At ct made tasks) (hnod : ∀ T ∈ tasks, nodes T ≤ 1000000000) (hml : (made.length : Int) ≤ 9223372036854775807) (hi : IntsAt B w0 Ai inputs) (hli : inputs.length ≤ maxLen) (hx : IntsAt B w0 Ak keys) (hm : keys.length ≤ maxLen)
    (hb : Below B w0 w) (hB : B ≤ w.heap.size) (hbad : inputsOk made tasks inputs = true → keysOk made.length keys = false) :
    Calls Try.prog 34 #[.agg #[.slice Am made.length cm, .slice At tasks.length ct], .slice Ai inputs.length ci, .slice Ak keys.length ck] w fun e w' =>
      GivesOwn w.heap.size ([], false) e w w' := by
  have hc1 := fun w1 (hw : Below w.heap.size w w1) => l3Inputs_calls Am At Ai cm ct ci made tasks inputs B w0 w1 (below_up' hb hB hw) (Nat.le_trans hB hw.size) hs hnod hli hi
  have hc2 := fun w1 (hw : Below w.heap.size w w1) => l4Keys_calls Am At Ak cm ct ck made tasks keys B w0 w1 (below_up' hb hB hw) (Nat.le_trans hB hw.size) hs hnod hml hm hx
  generalize inputsOk made tasks inputs = d1 at *
  generalize sheetOk made tasks = d2 at *
  generalize keysOk made.length keys = d3 at *
  replace hb := Lib.hid hb
  replace hs := Lib.hid hs
  replace hi := Lib.hid hi
  replace hx := Lib.hid hx
  cases d1 with
  | false =>
    replace hc1 := Lib.hid hc1
    clear hc2 hbad
    go_enter Try.func34, Try.ntmps34
    go_wp2_with fail
    refine (hc1.out _ (below_al (Below.refl _ _) _)).mono ?_
    rintro e w1 ⟨rfl, h1⟩
    have b1 := below_from h1
    replace b1 := Lib.hid b1
    clear h1
    go_wp2_with fail
    go_ret2
    exact ⟨_, rfl, by simpa [ints] using World.ownsRow_made (base := w.heap.size) w1 #[] 0 b1.out.size (by simp [maxLen]) rfl, below_al' b1.out _ b1.out.size⟩
  | true =>
    have h3 := hbad rfl
    subst h3
    simp only [Bool.false_and] at hc2
    replace hc1 := Lib.hid hc1
    replace hc2 := Lib.hid hc2
    clear hbad
    go_enter Try.func34, Try.ntmps34
    go_wp2_with fail
    refine (hc1.out _ (below_al (Below.refl _ _) _)).mono ?_
    rintro e w1 ⟨rfl, h1⟩
    have x0 : w1.cell? ⟨w.heap.size, 0, none⟩ = some (.slice Am made.length cm) := (h1.cell (p := ⟨w.heap.size, 0, none⟩) (by simp)).trans (by simp)
    have x1 : w1.cell? ⟨w.heap.size, 1, none⟩ = some (.slice At tasks.length ct) := (h1.cell (p := ⟨w.heap.size, 1, none⟩) (by simp)).trans (by simp)
    have b1 := below_from h1
    replace b1 := Lib.hid b1
    clear h1
    go_wp2_with fail
    refine (hc2.out _ b1.out).mono ?_
    rintro e w2 ⟨rfl, h2⟩
    have b2 := below_up b1.out h2
    replace b2 := Lib.hid b2
    clear h2 x0 x1
    go_wp2_with fail
    go_ret2
    exact ⟨_, rfl, by simpa [ints] using World.ownsRow_made (base := w.heap.size) w2 #[] 0 b2.out.size (by simp [maxLen]) rfl, below_al' b2.out _ b2.out.size⟩
end Go.Proofs.Ytagmdljdcnmpdaa
