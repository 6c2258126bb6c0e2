import Derived.Test.YtagmdljdcnmpdaaCircle
import Derived.Test.YtagmdljdcnmpdaaOnceP
set_option linter.unusedVariables false
set_option linter.unusedSimpArgs false
namespace Go.Proofs.Ytagmdljdcnmpdaa
open Go Go.RowKit

theorem all1_calls (b : Nat) (A A2 : Option Addr) (n c n2 c2 : Nat) (k : Int) (w : World) (x0 : w.cell? ⟨b, 0, none⟩ = some (.slice A n c)) (x1 : w.cell? ⟨b, 1, none⟩ = some (.slice A2 n2 c2)) :
    Calls Try.prog 92 #[.int .i64 k, .pointer (some ⟨b, 0, none⟩)] w fun e w' => e = .returned (.bool (!decide (0 ≤ k ∧ k < n))) ∧ Below w.heap.size w w' := by
  have h := has_calls A A2 n c n2 c2 k w
  generalize hd : decide (0 ≤ k ∧ k < n) = d at *
  replace hd := Lib.hid hd
  replace h := Lib.hid h
  go_enter Try.func92, Try.ntmps92
  go_wp2_with fail
  refine h.out.mono ?_
  rintro e w1 ⟨rfl, h1⟩
  replace h1 := Lib.hid h1
  go_wp2_with fail
  go_ret
  exact ⟨rfl, h1.out⟩
theorem any_keysOk (n : Nat) (keys : List Int) : (!(keys.any fun k => !decide (0 ≤ k ∧ k < n))) = keysOk n keys := by
  unfold keysOk
  induction keys with
  | nil => rfl
  | cons k ks ih => rw [List.any_cons, List.all_cons, ← ih]; cases decide (0 ≤ k ∧ k < (n : Int)) <;> simp
theorem all_calls (A A2 Ak : Option Addr) (n c n2 c2 ck : Nat) (keys : List Int) (B : Nat) (w0 w : World) (hb : Below B w0 w) (hB : B ≤ w.heap.size) (hm : keys.length ≤ maxLen) (hx : IntsAt B w0 Ak keys) :
    Calls Try.prog 68 #[.agg #[.slice A n c, .slice A2 n2 c2], .slice Ak keys.length ck] w fun e w' => e = .returned (.bool (keysOk n keys)) ∧ Below w.heap.size w w' := by
  have h := containsFunc_calls (fun k => !decide (0 ≤ k ∧ k < n)) 92 #[] #[.pointer (some ⟨w.heap.size, 0, none⟩)] (enters_of Try.func92 (by kernel_rfl) rfl) Ak ck keys B w0 (w.alloc (.cells #[.slice A n c, .slice A2 n2 c2] 26 (0, 0)))
    (below_al' hb _ hB) (by simp; omega) hm hx (fun x w' _ hw => by
      have x0 : w'.cell? ⟨w.heap.size, 0, none⟩ = some (.slice A n c) := (hw.cell (p := ⟨w.heap.size, 0, none⟩) (by simp)).trans (by simp)
      have x1 : w'.cell? ⟨w.heap.size, 1, none⟩ = some (.slice A2 n2 c2) := (hw.cell (p := ⟨w.heap.size, 1, none⟩) (by simp)).trans (by simp)
      simpa using all1_calls w.heap.size A A2 n c n2 c2 x w' x0 x1)
  have hr := any_keysOk n keys
  generalize (keys.any fun k => !decide (0 ≤ k ∧ k < n)) = q at *
  rw [← hr]
  replace h := Lib.hid h
  clear hr hx hb
  go_enter Try.func68, Try.ntmps68
  go_wp2_with fail
  refine h.out.mono ?_
  rintro e w1 ⟨rfl, h1⟩
  replace h1 := Lib.hid h1
  go_wp2_with fail
  go_ret
  exact ⟨rfl, below_from h1.out⟩

set_option maxHeartbeats 1000000 in
theorem orderSuspend_good (E : MkEnv) (S : Sh) (hE : E.Good S) (Ak : Option Addr) (ck : Nat) (keys : List Int) (w : World) (hb : Below E.B E.w0 w) (hB : E.B ≤ w.heap.size) (hk : keysOk S.made.length keys = true) (hx : IntsAt E.B E.w0 Ak keys) (hm : keys.length ≤ maxLen) :
    Calls Try.prog 35 #[.agg #[.slice E.Am S.made.length E.cm, .slice E.At S.tks.length E.ct], .slice E.Ai S.inputs.length E.ci, .slice Ak keys.length ck] w fun e w' =>
      GivesOwn E.B (suspP S keys) e w w' := by
  have hok1 : sheetOk S.made (S.tks.map Tk.enc) = true := hE.ok.sheet
  have hok2 : takesOk S.made.length S.inputs = true := by simp [takesOk, hE.ok.ins, vals_iff.2 hE.ok.vals]
  have hten := hE.ok.ten
  have hc1 := fun w1 (hw : Below w.heap.size w w1) => sheetOk_calls E.Am E.At E.cm E.ct S.made (S.tks.map Tk.enc) E.B E.w0 w1 (below_up' hb hB hw) (Nat.le_trans hB hw.size) hE.sheet
  rw [hok1] at hc1
  simp only [List.length_map] at hc1
  have hc2 := fun w1 (hw : Below w.heap.size w w1) => takes_calls E.Am E.At E.Ai S.made.length E.cm S.tks.length E.ct E.ci S.inputs E.B E.w0 w1 (below_up' hb hB hw) (Nat.le_trans hB hw.size) (Nat.le_trans hE.li hE.mi) hE.ins
  rw [hok2] at hc2
  have hc3 := fun w1 (hw : Below w.heap.size w w1) => all_calls E.Am E.At Ak S.made.length E.cm S.tks.length E.ct ck keys E.B E.w0 w1 (below_up' hb hB hw) (Nat.le_trans hB hw.size) hm hx
  rw [hk] at hc3
  have hc4 := fun w1 (hw : Below w.heap.size w w1) => newMaker_calls E S w1 (below_up' hb hB hw) (Nat.le_trans hB hw.size)
  have hc5 := key_calls E S hE
  have hrg := keysOk_iff.1 hk
  obtain ⟨P, hP⟩ : ∃ P, suspP S keys = P := ⟨_, rfl⟩
  rw [hP]
  unfold maxLen at hm
  replace hc1 := Lib.hid hc1
  replace hc2 := Lib.hid hc2
  replace hc3 := Lib.hid hc3
  replace hc4 := Lib.hid hc4
  replace hc5 := Lib.hid hc5
  replace hP := Lib.hid hP
  replace hb := Lib.hid hb
  replace hE := Lib.hid hE
  replace hx := Lib.hid hx
  replace hrg := Lib.hid hrg
  clear hok1 hok2 hk
  go_enter Try.func35, Try.ntmps35
  go_wp2_with fail
  refine (hc1.out _ (below_al (Below.refl _ _) _)).mono ?_
  rintro e w1 ⟨rfl, h1⟩
  have x0 : w1.cell? ⟨w.heap.size, 0, none⟩ = some (.slice E.Am S.made.length E.cm) := (h1.cell (p := ⟨w.heap.size, 0, none⟩) (by simp)).trans (by simp)
  have x1 : w1.cell? ⟨w.heap.size, 1, none⟩ = some (.slice E.At S.tks.length E.ct) := (h1.cell (p := ⟨w.heap.size, 1, none⟩) (by simp)).trans (by simp)
  have b1 := below_from h1
  have s1 : w.heap.size < w1.heap.size := by have := h1.size; simp at this; omega
  replace b1 := Lib.hid b1
  clear h1
  go_wp2_with fail
  refine (hc2.out _ b1.out).mono ?_
  rintro e w2 ⟨rfl, h2⟩
  have y0 : w2.cell? ⟨w.heap.size, 0, none⟩ = some (.slice E.Am S.made.length E.cm) := kept_cell h2 s1 x0
  have y1 : w2.cell? ⟨w.heap.size, 1, none⟩ = some (.slice E.At S.tks.length E.ct) := kept_cell h2 s1 x1
  have b2 := below_up b1.out h2
  have s2 : w.heap.size < w2.heap.size := by have := h2.size; omega
  replace b2 := Lib.hid b2
  clear h2 x0 x1 s1
  go_wp2_with fail
  refine (hc3.out _ b2.out).mono ?_
  rintro e w3 ⟨rfl, h3⟩
  have x0 : w3.cell? ⟨w.heap.size, 0, none⟩ = some (.slice E.Am S.made.length E.cm) := kept_cell h3 s2 y0
  have x1 : w3.cell? ⟨w.heap.size, 1, none⟩ = some (.slice E.At S.tks.length E.ct) := kept_cell h3 s2 y1
  have b3 := below_up b2.out h3
  have s3 : w.heap.size < w3.heap.size := by have := h3.size; omega
  replace b3 := Lib.hid b3
  clear h3 y0 y1 s2
  go_wp2_with fail
  refine (hc4.out _ b3.out).mono ?_
  rintro e w4 ⟨m, F, rfl, hM, hF, h4⟩
  have b4 := below_up b3.out h4
  have hF4 : ∀ i, F i → w.heap.size ≤ i := fun i hi => Nat.le_trans b3.out.size (hF i hi)
  replace hM := Lib.hid hM
  replace hF4 := Lib.hid hF4
  replace b4 := Lib.hid b4
  clear hF h4 x0 x1 s3
  go_wp2_with fail
  go_loopw [10, 11, 12, 33] (fun _ _ _ i wr => ∃ (j : Nat) (st : MkSt) (F : Nat → Prop), j ≤ keys.length ∧ i = .int .i64 j ∧ Hid (MkI E S m S.made.length st wr F) ∧
    Hid (∀ i, F i → w.heap.size ≤ i) ∧ Hid (Below w.heap.size w wr) ∧ Hid (suspP S keys = suspL S (keys.drop j) st)) (fun _ _ _ i _ => keys.length - (intOf i).toNat)
  case atStart => exact ⟨0, st0, F, Nat.zero_le _, rfl, Lib.hid ⟨hM.out, inv0 S⟩, hF4, b4, Lib.hid rfl⟩
  case round =>
    obtain ⟨j, st, F, hj, rfl, hM, hF, hw, he⟩ := hrel
    by_cases hlt : j < keys.length
    · have he2 := he.out
      rw [List.drop_eq_getElem_cons hlt, suspL] at he2
      have hkr := hrg.out _ (List.getElem_mem hlt)
      have hkey := hc5.out m S.made.length st keys[j] wr F hkr.1 (by omega) hM.out
      obtain ⟨b, o, rfl, hbb, y⟩ := hx.out.at (below_up' hb.out hB hw.out) (Nat.le_trans hB hw.out.size) j hlt
      generalize keys[j] = k at *
      obtain ⟨r, hr⟩ : ∃ r, keyP S S.made.length st k = r := ⟨_, rfl⟩
      rw [hr] at he2 hkey
      replace hkey := Lib.hid hkey
      replace hr := Lib.hid hr
      replace he2 := Lib.hid he2
      replace hkr := Lib.hid hkr
      clear he
      go_wp2_with fail
      refine hkey.out.mono ?_
      rintro e w5 ⟨rfl, v1, v2, F5, hM5, t5⟩
      have hF5 : ∀ i, F5 i → w.heap.size ≤ i := fun i hi => (t5.fresh i hi).elim (hF.out i) (fun hge => Nat.le_trans hw.out.size hge)
      have hw5 := hw.out.trans (t5.below (B := w.heap.size) hw.out.size (fun i hi => hF.out i hi))
      replace hM5 := Lib.hid hM5
      replace hF5 := Lib.hid hF5
      replace hw5 := Lib.hid hw5
      clear t5 y
      cases hok : r.1.2 with
      | false =>
        rw [hok] at he2
        go_wp2_with fail
        go_ret2
        have := he2.out
        simp at this
        rw [← hP.out, this]
        exact ⟨_, rfl, World.ownsRow_nil _ _ _ _, hw5.out⟩
      | true =>
        rw [hok] at he2
        simp only [if_true] at he2
        go_wp2_with fail
        go_roundw
        case rel => exact ⟨j + 1, r.2, F5, by omega, by go_num, hM5, hF5, hw5, he2⟩
        case measure => simp [intOf]; omega
    · have hd : keys.drop j = [] := List.drop_eq_nil_of_le (by omega)
      have he2 := he.out
      rw [hd, suspL] at he2
      obtain ⟨⟨bb, vo, vc, vr, hA, -⟩, -⟩ := hM.out
      have hor := hA.or
      have z6 : wr.cell? ⟨m, 6, none⟩ = some vr := (cellm hA.blk 6).trans rfl
      replace he2 := Lib.hid he2
      replace hor := Lib.hid hor
      replace hd := Lib.hid hd
      clear he hA
      go_wp2_with fail
      go_ret2
      rw [← hP.out, he2.out]
      exact ⟨_, rfl, hor.out, hw.out⟩

set_option maxHeartbeats 1000000 in
theorem orderSuspend_bad (Am At Ai Ak : Option Addr) (cm ct ci ck : Nat) (made : List Bool) (tasks : List Task) (inputs keys : List Int) (B : Nat) (w0 : World) (w : World) (hs : SheetAt B w0 Am cm At ct made tasks) (hi : IntsAt B w0 Ai inputs) (hli : inputs.length ≤ maxLen) (hx : IntsAt B w0 Ak keys) (hm : keys.length ≤ maxLen)
    (hb : Below B w0 w) (hB : B ≤ w.heap.size) (hbad : sheetOk made tasks = true → takesOk made.length inputs = true → keysOk made.length keys = false) :
    Calls Try.prog 35 #[.agg #[.slice Am made.length cm, .slice At tasks.length ct], .slice Ai inputs.length ci, .slice Ak keys.length ck] w fun e w' =>
      e = .returned (.tuple #[.slice none 0 0, .bool false]) ∧ Below w.heap.size w w' := by
  have hc1 := fun w1 (hw : Below w.heap.size w w1) => sheetOk_calls Am At cm ct made tasks B w0 w1 (below_up' hb hB hw) (Nat.le_trans hB hw.size) hs
  have hc2 := fun w1 (hw : Below w.heap.size w w1) => takes_calls Am At Ai made.length cm tasks.length ct ci inputs B w0 w1 (below_up' hb hB hw) (Nat.le_trans hB hw.size) hli hi
  have hc3 := fun w1 (hw : Below w.heap.size w w1) => all_calls Am At Ak made.length cm tasks.length ct ck keys B w0 w1 (below_up' hb hB hw) (Nat.le_trans hB hw.size) hm hx
  generalize sheetOk made tasks = d1 at *
  generalize takesOk made.length inputs = d2 at *
  generalize keysOk made.length keys = d3 at *
  replace hb := Lib.hid hb
  replace hs := Lib.hid hs
  replace hi := Lib.hid hi
  replace hx := Lib.hid hx
  cases d1 with
  | false =>
    replace hc1 := Lib.hid hc1
    clear hc2 hc3 hbad
    go_enter Try.func35, Try.ntmps35
    go_wp2_with fail
    refine (hc1.out _ (below_al (Below.refl _ _) _)).mono ?_
    rintro e w1 ⟨rfl, h1⟩
    replace h1 := Lib.hid h1
    go_wp2_with fail
    go_ret2
    exact ⟨rfl, below_from h1.out⟩
  | true =>
    replace hc1 := Lib.hid hc1
    replace hbad := Lib.hid (hbad rfl)
    cases d2 with
    | false =>
      replace hc2 := Lib.hid hc2
      clear hc3 hbad
      go_enter Try.func35, Try.ntmps35
      go_wp2_with fail
      refine (hc1.out _ (below_al (Below.refl _ _) _)).mono ?_
      rintro e w1 ⟨rfl, h1⟩
      have x0 : w1.cell? ⟨w.heap.size, 0, none⟩ = some (.slice Am made.length cm) := (h1.cell (p := ⟨w.heap.size, 0, none⟩) (by simp)).trans (by simp)
      have x1 : w1.cell? ⟨w.heap.size, 1, none⟩ = some (.slice At tasks.length ct) := (h1.cell (p := ⟨w.heap.size, 1, none⟩) (by simp)).trans (by simp)
      have b1 := below_from h1
      replace b1 := Lib.hid b1
      clear h1
      go_wp2_with fail
      refine (hc2.out _ b1.out).mono ?_
      rintro e w2 ⟨rfl, h2⟩
      have b2 := below_up b1.out h2
      replace b2 := Lib.hid b2
      clear h2 x0 x1
      go_wp2_with fail
      go_ret2
      exact ⟨rfl, b2.out⟩
    | true =>
      have h3 := hbad.out rfl
      subst h3
      replace hc2 := Lib.hid hc2
      replace hc3 := Lib.hid hc3
      clear hbad
      go_enter Try.func35, Try.ntmps35
      go_wp2_with fail
      refine (hc1.out _ (below_al (Below.refl _ _) _)).mono ?_
      rintro e w1 ⟨rfl, h1⟩
      have x0 : w1.cell? ⟨w.heap.size, 0, none⟩ = some (.slice Am made.length cm) := (h1.cell (p := ⟨w.heap.size, 0, none⟩) (by simp)).trans (by simp)
      have x1 : w1.cell? ⟨w.heap.size, 1, none⟩ = some (.slice At tasks.length ct) := (h1.cell (p := ⟨w.heap.size, 1, none⟩) (by simp)).trans (by simp)
      have s1 : w.heap.size < w1.heap.size := by have := h1.size; simp at this; omega
      have b1 := below_from h1
      replace b1 := Lib.hid b1
      clear h1
      go_wp2_with fail
      refine (hc2.out _ b1.out).mono ?_
      rintro e w2 ⟨rfl, h2⟩
      have y0 : w2.cell? ⟨w.heap.size, 0, none⟩ = some (.slice Am made.length cm) := kept_cell h2 s1 x0
      have y1 : w2.cell? ⟨w.heap.size, 1, none⟩ = some (.slice At tasks.length ct) := kept_cell h2 s1 x1
      have b2 := below_up b1.out h2
      replace b2 := Lib.hid b2
      clear h2 x0 x1
      go_wp2_with fail
      refine (hc3.out _ b2.out).mono ?_
      rintro e w3 ⟨rfl, h3⟩
      have b3 := below_up b2.out h3
      replace b3 := Lib.hid b3
      clear h3
      go_wp2_with fail
      go_ret2
      exact ⟨rfl, b3.out⟩
end Go.Proofs.Ytagmdljdcnmpdaa
