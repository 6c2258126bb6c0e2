import Derived.Test.YtpccgdkidnkppaaPk6FnWorkValues
import Derived.Test.YtpccgdkidnkppaaPk7FnWorkValues
set_option linter.unusedVariables false
set_option linter.unusedSimpArgs false
namespace Go.Proofs.Ytpccgdkidnkppaa
open Go Go.RowKit

theorem all1_calls (b : Nat) (A A2 : Option Addr) (n c n2 c2 : Nat) (k : Int) (w : World) (x0 : w.cell? ⟨b, 0, none⟩ = some (.slice A n c)) (x1 : w.cell? ⟨b, 1, none⟩ = some (.slice A2 n2 c2)) :
    Calls Try.prog 120 #[.int .i64 k, .pointer (some ⟨b, 0, none⟩)] w fun e w' => e = .returned (.bool (!decide (0 ≤ k ∧ k < n))) ∧ Below w.heap.size w w' := by
  have h := has_calls A A2 n c n2 c2 k w
  generalize hd : decide (0 ≤ k ∧ k < n) = d at *
  replace hd := Lib.hid hd
  replace h := Lib.hid h
  go_enter Try.func120, Try.ntmps120
  go_wp2_with fail
  refine h.out.mono ?_
  rintro e w1 ⟨rfl, h1⟩
  replace h1 := Lib.hid h1
  go_wp2_with fail
  go_ret
  exact ⟨rfl, h1.out⟩
theorem any_keysOk (n : Nat) (keys : List Int) : (!(keys.any fun k => !decide (0 ≤ k ∧ k < n))) = keysOk n keys := by
  unfold keysOk
  induction keys with
  | nil => rfl
  | cons k ks ih => rw [List.any_cons, List.all_cons, ← ih]; cases decide (0 ≤ k ∧ k < (n : Int)) <;> simp
theorem all_calls (A A2 Ak : Option Addr) (n c n2 c2 ck : Nat) (keys : List Int) (B : Nat) (w0 w : World) (hb : Below B w0 w) (hB : B ≤ w.heap.size) (hm : keys.length ≤ maxLen) (hx : IntsAt B w0 Ak keys) :
    Calls Try.prog 72 #[.agg #[.slice A n c, .slice A2 n2 c2], .slice Ak keys.length ck] w fun e w' => e = .returned (.bool (keysOk n keys)) ∧ Below w.heap.size w w' := by
  have h := containsFunc_calls (fun k => !decide (0 ≤ k ∧ k < n)) 120 #[] #[.pointer (some ⟨w.heap.size, 0, none⟩)] (enters_of Try.func120 (by kernel_rfl) rfl) Ak ck keys B w0 (w.alloc (.cells #[.slice A n c, .slice A2 n2 c2] 31 (0, 0)))
    (below_al' hb _ hB) (by simp; omega) hm hx (fun x w' _ hw => by
      have x0 : w'.cell? ⟨w.heap.size, 0, none⟩ = some (.slice A n c) := (hw.cell (p := ⟨w.heap.size, 0, none⟩) (by simp)).trans (by simp)
      have x1 : w'.cell? ⟨w.heap.size, 1, none⟩ = some (.slice A2 n2 c2) := (hw.cell (p := ⟨w.heap.size, 1, none⟩) (by simp)).trans (by simp)
      simpa using all1_calls w.heap.size A A2 n c n2 c2 x w' x0 x1)
  have hr := any_keysOk n keys
  generalize (keys.any fun k => !decide (0 ≤ k ∧ k < n)) = q at *
  rw [← hr]
  replace h := Lib.hid h
  clear hr hx hb
  go_enter Try.func72, Try.ntmps72
  go_wp2_with fail
  refine h.out.mono ?_
  rintro e w1 ⟨rfl, h1⟩
  replace h1 := Lib.hid h1
  go_wp2_with fail
  go_ret
  exact ⟨rfl, below_from h1.out⟩

set_option maxHeartbeats 1000000 in
theorem orderSuspend_good (E : MkEnv) (S : Sh) (hE : E.Good S) (Ak : Option Addr) (ck : Nat) (keys : List Int) (w : World) (hb : Below E.B E.w0 w) (hB : E.B ≤ w.heap.size) (hk : keysOk S.made.length keys = true) (hx : IntsAt E.B E.w0 Ak keys) (hm : keys.length ≤ maxLen) :
    Calls Try.prog 25 #[.agg #[.slice E.Am S.made.length E.cm, .slice E.At S.tks.length E.ct], .slice E.Ai S.inputs.length E.ci, .slice Ak keys.length ck] w fun e w' =>
      GivesOwn E.B (suspP S keys) e w w' := by
  have hok1 : sheetOk S.made (S.tks.map Tk.enc) = true := hE.ok.sheet
  have hok2 : takesOk S.made.length S.inputs = true := by simp [takesOk, hE.ok.ins, vals_iff.2 hE.ok.vals]
  have hten := hE.ok.ten
  have hc1 := fun w1 (hw : Below w.heap.size w w1) => sheetOk_calls E.Am E.At E.cm E.ct S.made (S.tks.map Tk.enc) E.B E.w0 w1 (below_up' hb hB hw) (Nat.le_trans hB hw.size) hE.sheet
  rw [hok1] at hc1
  simp only [List.length_map] at hc1
  have hc2 := fun w1 (hw : Below w.heap.size w w1) => takes_calls E.Am E.At E.Ai S.made.length E.cm S.tks.length E.ct E.ci S.inputs E.B E.w0 w1 (below_up' hb hB hw) (Nat.le_trans hB hw.size) (Nat.le_trans hE.li hE.mi) hE.ins
  rw [hok2] at hc2
  have hc3 := fun w1 (hw : Below w.heap.size w w1) => all_calls E.Am E.At Ak S.made.length E.cm S.tks.length E.ct ck keys E.B E.w0 w1 (below_up' hb hB hw) (Nat.le_trans hB hw.size) hm hx
  rw [hk] at hc3
  have hc4 := fun w1 (hw : Below w.heap.size w w1) => newMaker_calls E S w1 (below_up' hb hB hw) (Nat.le_trans hB hw.size)
  have hc5 := key_calls E S hE
  have hrg := keysOk_iff.1 hk
  obtain ⟨P, hP⟩ : ∃ P, suspP S keys = P := ⟨_, rfl⟩
  rw [hP]
  unfold maxLen at hm
  replace hc1 := Lib.hid hc1
  replace hc2 := Lib.hid hc2
  replace hc3 := Lib.hid hc3
  replace hc4 := Lib.hid hc4
  replace hc5 := Lib.hid hc5
  replace hP := Lib.hid hP
  replace hb := Lib.hid hb
  replace hE := Lib.hid hE
  replace hx := Lib.hid hx
  replace hrg := Lib.hid hrg
  clear hok1 hok2 hk
  go_enter Try.func25, Try.ntmps25
  go_wp2_with fail
  refine (hc1.out _ (below_al (Below.refl _ _) _)).mono ?_
  rintro e w1 ⟨rfl, h1⟩
  have x0 : w1.cell? ⟨w.heap.size, 0, none⟩ = some (.slice E.Am S.made.length E.cm) := (h1.cell (p := ⟨w.heap.size, 0, none⟩) (by simp)).trans (by simp)
  have x1 : w1.cell? ⟨w.heap.size, 1, none⟩ = some (.slice E.At S.tks.length E.ct) := (h1.cell (p := ⟨w.heap.size, 1, none⟩) (by simp)).trans (by simp)
  have b1 := below_from h1
  have s1 : w.heap.size < w1.heap.size := by have := h1.size; simp at this; omega
  replace b1 := Lib.hid b1
  clear h1
  go_wp2_with fail
  refine (hc2.out _ b1.out).mono ?_
  rintro e w2 ⟨rfl, h2⟩
  have y0 : w2.cell? ⟨w.heap.size, 0, none⟩ = some (.slice E.Am S.made.length E.cm) := kept_cell h2 s1 x0
  have y1 : w2.cell? ⟨w.heap.size, 1, none⟩ = some (.slice E.At S.tks.length E.ct) := kept_cell h2 s1 x1
  have b2 := below_up b1.out h2
  have s2 : w.heap.size < w2.heap.size := by have := h2.size; omega
  replace b2 := Lib.hid b2
  clear h2 x0 x1 s1
  go_wp2_with fail
  refine (hc3.out _ b2.out).mono ?_
  rintro e w3 ⟨rfl, h3⟩
  have x0 : w3.cell? ⟨w.heap.size, 0, none⟩ = some (.slice E.Am S.made.length E.cm) := kept_cell h3 s2 y0
  have x1 : w3.cell? ⟨w.heap.size, 1, none⟩ = some (.slice E.At S.tks.length E.ct) := kept_cell h3 s2 y1
  have b3 := below_up b2.out h3
  have s3 : w.heap.size < w3.heap.size := by have := h3.size; omega
  replace b3 := Lib.hid b3
  clear h3 y0 y1 s2
  go_wp2_with fail
  refine (hc4.out _ b3.out).mono ?_
  rintro e w4 ⟨m, F, rfl, hM, hF, h4⟩
  have b4 := below_up b3.out h4
  have hF4 : ∀ i, F i → w.heap.size ≤ i := fun i hi => Nat.le_trans b3.out.size (hF i hi)
  replace hM := Lib.hid hM
  replace hF4 := Lib.hid hF4
  replace b4 := Lib.hid b4
  clear hF h4 x0 x1 s3
  go_wp2_with fail
  go_loopw [10, 11, 12, 33] (fun _ _ _ i wr => ∃ (j : Nat) (st : MkSt) (F : Nat → Prop), j ≤ keys.length ∧ i = .int .i64 j ∧ Hid (MkI E S m S.made.length st wr F) ∧
    Hid (∀ i, F i → w.heap.size ≤ i) ∧ Hid (Below w.heap.size w wr) ∧ Hid (suspP S keys = suspL S (keys.drop j) st)) (fun _ _ _ i _ => keys.length - (intOf i).toNat)
  case atStart => exact ⟨0, st0, F, Nat.zero_le _, rfl, Lib.hid ⟨hM.out, inv0 S⟩, hF4, b4, Lib.hid rfl⟩
  case round =>
    obtain ⟨j, st, F, hj, rfl, hM, hF, hw, he⟩ := hrel
    by_cases hlt : j < keys.length
    · have he2 := he.out
      rw [List.drop_eq_getElem_cons hlt, suspL] at he2
      have hkr := hrg.out _ (List.getElem_mem hlt)
      have hkey := hc5.out m S.made.length st keys[j] wr F hkr.1 (by omega) hM.out
      obtain ⟨b, o, rfl, hbb, y⟩ := hx.out.at (below_up' hb.out hB hw.out) (Nat.le_trans hB hw.out.size) j hlt
      generalize keys[j] = k at *
      obtain ⟨r, hr⟩ : ∃ r, keyP S S.made.length st k = r := ⟨_, rfl⟩
      rw [hr] at he2 hkey
      replace hkey := Lib.hid hkey
      replace hr := Lib.hid hr
      replace he2 := Lib.hid he2
      replace hkr := Lib.hid hkr
      clear he
      go_wp2_with fail
      refine hkey.out.mono ?_
      rintro e w5 ⟨rfl, v1, v2, F5, hM5, t5⟩
      have hF5 : ∀ i, F5 i → w.heap.size ≤ i := fun i hi => (t5.fresh i hi).elim (hF.out i) (fun hge => Nat.le_trans hw.out.size hge)
      have hw5 := hw.out.trans (t5.below (B := w.heap.size) hw.out.size (fun i hi => hF.out i hi))
      replace hM5 := Lib.hid hM5
      replace hF5 := Lib.hid hF5
      replace hw5 := Lib.hid hw5
      clear t5 y
      cases hok : r.1.2 with
      | false =>
        rw [hok] at he2
        go_wp2_with fail
        go_ret2
        have := he2.out
        simp at this
        rw [← hP.out, this]
        exact ⟨_, rfl, World.ownsRow_nil _ _ _ _, hw5.out⟩
      | true =>
        rw [hok] at he2
        simp only [if_true] at he2
        go_wp2_with fail
        go_roundw
        case rel => exact ⟨j + 1, r.2, F5, by omega, by go_num, hM5, hF5, hw5, he2⟩
        case measure => simp [intOf]; omega
    · have hd : keys.drop j = [] := List.drop_eq_nil_of_le (by omega)
      have he2 := he.out
      rw [hd, suspL] at he2
      obtain ⟨⟨bb, vo, vc, vr, hA, -⟩, -⟩ := hM.out
      have hor := hA.or
      have z6 : wr.cell? ⟨m, 6, none⟩ = some vr := (cellm hA.blk 6).trans rfl
      replace he2 := Lib.hid he2
      replace hor := Lib.hid hor
      replace hd := Lib.hid hd
      clear he hA
      go_wp2_with fail
      go_ret2
      rw [← hP.out, he2.out]
      exact ⟨_, rfl, hor.out, hw.out⟩

set_option maxHeartbeats 1000000 in
theorem orderSuspend_bad (Am At Ai Ak : Option Addr) (cm ct ci ck : Nat) (made : List Bool) (tasks : List Task) (inputs keys : List Int) (B : Nat) (w0 : World) (w : World) (hs : SheetAt B w0 Am cm At ct made tasks) (hi : IntsAt B w0 Ai inputs) (hli : inputs.length ≤ maxLen) (hx : IntsAt B w0 Ak keys) (hm : keys.length ≤ maxLen)
    (hb : Below B w0 w) (hB : B ≤ w.heap.size) (hbad : sheetOk made tasks = true → takesOk made.length inputs = true → keysOk made.length keys = false) :
    Calls Try.prog 25 #[.agg #[.slice Am made.length cm, .slice At tasks.length ct], .slice Ai inputs.length ci, .slice Ak keys.length ck] w fun e w' =>
      e = .returned (.tuple #[.slice none 0 0, .bool false]) ∧ Below w.heap.size w w' := by
  have hc1 := fun w1 (hw : Below w.heap.size w w1) => sheetOk_calls Am At cm ct made tasks B w0 w1 (below_up' hb hB hw) (Nat.le_trans hB hw.size) hs
  have hc2 := fun w1 (hw : Below w.heap.size w w1) => takes_calls Am At Ai made.length cm tasks.length ct ci inputs B w0 w1 (below_up' hb hB hw) (Nat.le_trans hB hw.size) hli hi
  have hc3 := fun w1 (hw : Below w.heap.size w w1) => all_calls Am At Ak made.length cm tasks.length ct ck keys B w0 w1 (below_up' hb hB hw) (Nat.le_trans hB hw.size) hm hx
  generalize sheetOk made tasks = d1 at *
  generalize takesOk made.length inputs = d2 at *
  generalize keysOk made.length keys = d3 at *
  replace hb := Lib.hid hb
  replace hs := Lib.hid hs
  replace hi := Lib.hid hi
  replace hx := Lib.hid hx
  cases d1 with
  | false =>
    replace hc1 := Lib.hid hc1
    clear hc2 hc3 hbad
    go_enter Try.func25, Try.ntmps25
    go_wp2_with fail
    refine (hc1.out _ (below_al (Below.refl _ _) _)).mono ?_
    rintro e w1 ⟨rfl, h1⟩
    replace h1 := Lib.hid h1
    go_wp2_with fail
    go_ret2
    exact ⟨rfl, below_from h1.out⟩
  | true =>
    replace hc1 := Lib.hid hc1
    replace hbad := Lib.hid (hbad rfl)
    cases d2 with
    | false =>
      replace hc2 := Lib.hid hc2
      clear hc3 hbad
      go_enter Try.func25, Try.ntmps25
      go_wp2_with fail
      refine (hc1.out _ (below_al (Below.refl _ _) _)).mono ?_
      rintro e w1 ⟨rfl, h1⟩
      have x0 : w1.cell? ⟨w.heap.size, 0, none⟩ = some (.slice Am made.length cm) := (h1.cell (p := ⟨w.heap.size, 0, none⟩) (by simp)).trans (by simp)
      have x1 : w1.cell? ⟨w.heap.size, 1, none⟩ = some (.slice At tasks.length ct) := (h1.cell (p := ⟨w.heap.size, 1, none⟩) (by simp)).trans (by simp)
      have b1 := below_from h1
      replace b1 := Lib.hid b1
      clear h1
      go_wp2_with fail
      refine (hc2.out _ b1.out).mono ?_
      rintro e w2 ⟨rfl, h2⟩
      have b2 := below_up b1.out h2
      replace b2 := Lib.hid b2
      clear h2 x0 x1
      go_wp2_with fail
      go_ret2
      exact ⟨rfl, b2.out⟩
    | true =>
      have h3 := hbad.out rfl
      subst h3
      replace hc2 := Lib.hid hc2
      replace hc3 := Lib.hid hc3
      clear hbad
      go_enter Try.func25, Try.ntmps25
      go_wp2_with fail
      refine (hc1.out _ (below_al (Below.refl _ _) _)).mono ?_
      rintro e w1 ⟨rfl, h1⟩
      have x0 : w1.cell? ⟨w.heap.size, 0, none⟩ = some (.slice Am made.length cm) := (h1.cell (p := ⟨w.heap.size, 0, none⟩) (by simp)).trans (by simp)
      have x1 : w1.cell? ⟨w.heap.size, 1, none⟩ = some (.slice At tasks.length ct) := (h1.cell (p := ⟨w.heap.size, 1, none⟩) (by simp)).trans (by simp)
      have s1 : w.heap.size < w1.heap.size := by have := h1.size; simp at this; omega
      have b1 := below_from h1
      replace b1 := Lib.hid b1
      clear h1
      go_wp2_with fail
      refine (hc2.out _ b1.out).mono ?_
      rintro e w2 ⟨rfl, h2⟩
      have y0 : w2.cell? ⟨w.heap.size, 0, none⟩ = some (.slice Am made.length cm) := kept_cell h2 s1 x0
      have y1 : w2.cell? ⟨w.heap.size, 1, none⟩ = some (.slice At tasks.length ct) := kept_cell h2 s1 x1
      have b2 := below_up b1.out h2
      replace b2 := Lib.hid b2
      clear h2 x0 x1
      go_wp2_with fail
      refine (hc3.out _ b2.out).mono ?_
      rintro e w3 ⟨rfl, h3⟩
      have b3 := below_up b2.out h3
      replace b3 := Lib.hid b3
      clear h3
      go_wp2_with fail
      go_ret2
      exact ⟨rfl, b3.out⟩
end Go.Proofs.Ytpccgdkidnkppaa

set_option linter.unusedVariables false
set_option linter.unusedSimpArgs false
namespace Go.Proofs.Ytpccgdkidnkppaa
open Go Go.RowKit

/-! what a task may fetch -/
mutual
def mayTask : Task → Int → Bool
  | .mk k n ps, i => (decide (k = 1) && decide (i = n)) || (decide (k = 5) && decide (0 ≤ i ∧ i ≤ 9)) || mayTaskL ps i
def mayTaskL : List Task → Int → Bool
  | [], _ => false
  | p :: ps, i => mayTask p i || mayTaskL ps i
end
def Itr.In (P : Int → Prop) : Itr → Prop
  | .done _ => True
  | .ask k c => P k ∧ ∀ x, (c x).In P
theorem Itr.In_mono {P Q : Int → Prop} (h : ∀ k, P k → Q k) : ∀ m : Itr, m.In P → m.In Q := by
  intro m
  induction m with
  | done v => intro _; trivial
  | ask k c ih => intro hm; exact ⟨h k hm.1, fun x => ih x (hm.2 x)⟩
theorem Itr.bind_In {P : Int → Prop} : ∀ (m : Itr) (g : Int → Itr), m.In P → (∀ x, (g x).In P) → (m.bind g).In P := by
  intro m
  induction m with
  | done v => intro g _ hg; exact hg v
  | ask k c ih => intro g hm hg; exact ⟨hm.1, fun x => ih x g (hm.2 x) hg⟩
theorem Tk.itr_In : ∀ t : Tk, t.itr.In (fun k => mayTask t.enc k = true) := by
  intro t
  induction t with
  | num n => trivial
  | get k => exact ⟨by simp [Tk.enc, mayTask], fun _ => trivial⟩
  | add a b iha ihb => exact Itr.bind_In _ _ (Itr.In_mono (fun k h => by simp [Tk.enc, mayTask, mayTaskL, h]) _ iha) fun x => Itr.bind_In _ _ (Itr.In_mono (fun k h => by simp [Tk.enc, mayTask, mayTaskL, h]) _ ihb) fun y => trivial
  | mul a b iha ihb => exact Itr.bind_In _ _ (Itr.In_mono (fun k h => by simp [Tk.enc, mayTask, mayTaskL, h]) _ iha) fun x => Itr.bind_In _ _ (Itr.In_mono (fun k h => by simp [Tk.enc, mayTask, mayTaskL, h]) _ ihb) fun y => trivial
  | cond a b d iha ihb ihd =>
    refine Itr.bind_In _ _ (Itr.In_mono (fun k h => by simp [Tk.enc, mayTask, mayTaskL, h]) _ iha) fun x => ?_
    split
    · exact Itr.In_mono (fun k h => by simp [Tk.enc, mayTask, mayTaskL, h]) _ ihb
    · exact Itr.In_mono (fun k h => by simp [Tk.enc, mayTask, mayTaskL, h]) _ ihd
  | ix n a iha =>
    refine Itr.bind_In _ _ (Itr.In_mono (fun k h => by simp [Tk.enc, mayTask, mayTaskL, h]) _ iha) fun x => ⟨?_, fun _ => trivial⟩
    have h1 : 0 ≤ (n + x) % 10 ∧ (n + x) % 10 ≤ 9 := by omega
    simp [Tk.enc, mayTask, h1]
theorem Itr.run_fail {σ : Type} {f : σ → Int → (Int × Bool) × σ} {P : Int → Prop} {G : σ → Prop} (h : ∀ s k, P k → (f s k).1.2 = false → G (f s k).2) : ∀ (m : Itr) (s : σ), m.In P → (m.run f s).1.2 = false → G (m.run f s).2 := by
  intro m
  induction m with
  | done v => intro s _ hr; simp [Itr.run] at hr
  | ask k c ih =>
    intro s hm hr
    by_cases h1 : (f s k).1.2 = true
    · rw [Itr.run_yes h1] at hr ⊢; exact ih _ _ (hm.2 _) hr
    · rw [Itr.run_no h1]; exact h s k hm.1 (by simpa using h1)

/-! a circle -/
def Cyc (S : Sh) (l : List Int) : Prop := l ≠ [] ∧ ∀ i (h : i < l.length), mkK S.made l[i] = true ∧ mayTask (S.tk l[i]).enc (l[(i + 1) % l.length]'(Nat.mod_lt _ (by omega))) = true
/-- each key under way may fetch the next one, the last one k -/
structure Chain (S : Sh) (u : List Int) (k : Int) : Prop where
  made : ∀ x ∈ u, mkK S.made x = true
  next : ∀ i (h : i + 1 < u.length), mayTask (S.tk u[i]).enc u[i + 1] = true
  last : ∀ i (h : i < u.length), i + 1 = u.length → mayTask (S.tk u[i]).enc k = true
theorem Chain.push {S : Sh} {u : List Int} {k d : Int} (h : Chain S u k) (hk : mkK S.made k = true) (hd : mayTask (S.tk k).enc d = true) : Chain S (u ++ [k]) d := by
  refine ⟨fun x hx => ?_, fun i hi => ?_, fun i hi he => ?_⟩
  · rcases List.mem_append.1 hx with h1 | h1
    · exact h.made x h1
    · rw [List.mem_singleton.1 h1]; exact hk
  · simp only [List.length_append, List.length_cons, List.length_nil] at hi
    have h1 : i < u.length := by omega
    rw [List.getElem_append_left h1]
    by_cases h2 : i + 1 < u.length
    · rw [List.getElem_append_left h2]; exact h.next i h2
    · have h3 : i + 1 = u.length := by omega
      have : (u ++ [k])[i + 1]'(by simp; omega) = k := by simp [h3]
      rw [this]; exact h.last i h1 h3
  · simp only [List.length_append, List.length_cons, List.length_nil] at hi he
    have h3 : i = u.length := by omega
    have : (u ++ [k])[i]'(by simp; omega) = k := by simp [h3]
    rw [this]; exact hd
theorem idx_spec {u : List Int} {k : Int} (h : 0 ≤ idx (fun x => k == x) u) : ∃ (j : Nat) (hj : j < u.length), idx (fun x => k == x) u = j ∧ u[j] = k := by
  obtain ⟨j, hj, hjl⟩ := idx_lt h
  refine ⟨j, hjl, hj, ?_⟩
  unfold idx at hj
  cases e : u.findIdx? (fun x => k == x) with
  | none => rw [e] at hj; simp at hj
  | some i =>
    rw [e] at hj
    simp only at hj
    have hi : i = j := by omega
    subst hi
    rw [List.findIdx?_eq_some_iff_getElem] at e
    obtain ⟨h1, h2, _⟩ := e
    simp only [beq_iff_eq] at h2
    exact h2.symm
theorem chain_cyc {S : Sh} {u : List Int} {k : Int} (h : Chain S u k) (ho : 0 ≤ idx (fun x => k == x) u) : Cyc S (u.drop (idx (fun x => k == x) u).toNat) := by
  obtain ⟨j, hj, e, hk⟩ := idx_spec ho
  rw [e, Int.toNat_natCast]
  refine ⟨fun e2 => ?_, fun i hi => ?_⟩
  · have := congrArg List.length e2
    simp at this; omega
  · simp only [List.length_drop] at hi
    have h1 : j + i < u.length := by omega
    have e1 : (u.drop j)[i]'(by simp; omega) = u[j + i] := by simp
    rw [e1]
    refine ⟨h.made _ (List.getElem_mem _), ?_⟩
    by_cases h2 : i + 1 < u.length - j
    · have e3 : (i + 1) % (u.drop j).length = i + 1 := Nat.mod_eq_of_lt (by simp; omega)
      have e4 : (u.drop j)[(i + 1) % (u.drop j).length]'(Nat.mod_lt _ (by simp; omega)) = u[j + i + 1] := by
        simp only [e3, List.getElem_drop]; rfl
      rw [e4]
      exact h.next (j + i) (by omega)
    · have e3 : (i + 1) % (u.drop j).length = 0 := by
        have : i + 1 = (u.drop j).length := by simp; omega
        rw [this, Nat.mod_self]
      have e4 : (u.drop j)[(i + 1) % (u.drop j).length]'(Nat.mod_lt _ (by simp; omega)) = k := by
        simp only [e3, List.getElem_drop]; simpa using hk
      rw [e4]
      exact h.last (j + i) h1 (by omega)
theorem spec_cyc {S : Sh} : ∀ (n : Nat) (u c : List Int) (k : Int), UOk S n u → Chain S u k → (specP S n u c k).1.2 = false → Cyc S (specP S n u c k).2 := by
  intro n
  induction n with
  | zero =>
    intro u c k hu hc h
    by_cases hm : mkK S.made k = false
    · rw [specP_unmade hm] at h; cases h
    · have hm' : mkK S.made k = true := by simpa using hm
      by_cases ho : 0 ≤ idx (fun x => k == x) u
      · rw [specP_under hm' ho]; exact chain_cyc hc ho
      · exfalso
        have hkr := mkK_range hm
        have h1 : (k :: u).Nodup := List.nodup_cons.2 ⟨not_open ho, hu.nodup⟩
        have h2 := nodup_bound (n := S.made.length) h1 (fun x hx => by
          rcases List.mem_cons.1 hx with rfl | hx
          · exact hkr
          · exact hu.range x hx)
        have h3 := hu.fuel
        simp at h2
        omega
  | succ n ih =>
    intro u c k hu hc h
    by_cases hm : mkK S.made k = false
    · rw [specP_unmade hm] at h; cases h
    · have hm' : mkK S.made k = true := by simpa using hm
      by_cases ho : 0 ≤ idx (fun x => k == x) u
      · rw [specP_under hm' ho]; exact chain_cyc hc ho
      · rw [specP_new hm' ho] at h ⊢
        exact Itr.run_fail (fun c d hd hf => ih _ c d (hu.push (not_open ho) (mkK_range hm)) (hc.push hm' hd) hf) _ c (Tk.itr_In _) h
theorem chain0 (S : Sh) (k : Int) : Chain S [] k := ⟨fun x hx => (by cases hx), fun i hi => (by simp at hi), fun i hi => (by simp at hi)⟩
end Go.Proofs.Ytpccgdkidnkppaa

set_option linter.unusedVariables false
set_option linter.unusedSimpArgs false
namespace Go.Proofs.Ytpccgdkidnkppaa
open Go Go.RowKit

/-- an array of ten truths -/
def ArrIs (w : World) (b : Nat) (p : Int → Bool) : Prop := w.heap[b]? = some (.cells ((List.range 10).map (fun i : Nat => Value.bool (p i))).toArray 168 (0, 0))
theorem ArrIs.congr {w : World} {b : Nat} {p q : Int → Bool} (h : ArrIs w b p) (e : ∀ i : Nat, i < 10 → p i = q i) : ArrIs w b q := by
  unfold ArrIs at h ⊢
  rw [h]
  congr 3
  exact List.map_congr_left (fun i hi => by rw [e i (List.mem_range.1 hi)])
theorem ArrIs.cell {w : World} {b : Nat} {p : Int → Bool} (h : ArrIs w b p) {n : Nat} (hn : n < 10) : w.cell? ⟨b, n, none⟩ = some (.bool (p n)) := by
  rw [cellm h n]; simp [hn]
theorem ArrIs.frozen {w : World} {b : Nat} {p : Int → Bool} (h : ArrIs w b p) (n : Nat) : w.frozen? ⟨b, n, none⟩ = false := frozenm h n
theorem ArrIs.set {w : World} {b : Nat} {p : Int → Bool} (h : ArrIs w b p) {n : Nat} (hn : n < 10) : ArrIs (w.setCell ⟨b, n, none⟩ (.bool true)) b (fun i => p i || decide (i = n)) := by
  unfold ArrIs
  rw [setCell_block h n]
  congr 2
  apply Array.ext
  · simp
  · intro i h1 h2
    simp at h1
    simp [Array.getElem_setIfInBounds]
    by_cases e : n = i
    · subst e; simp
    · have e2 : ¬ i = n := fun h => e h.symm
      have e3 : ¬ (i : Int) = (n : Int) := by omega
      simp [e, e2, e3]
theorem ArrIs.turn {w w' : World} {b : Nat} {p : Int → Bool} (h : ArrIs w b p) (hk : w'.heap[b]? = w.heap[b]?) : ArrIs w' b p := hk.trans h

theorem may_five (p : Int → Bool) (n : Int) (ps : List Task) (i : Nat) (hi : i < 10) : (p i || mayTask (.mk 5 n ps) i) = ((fun i : Int => p i || decide (0 ≤ i ∧ i < ((10 : Nat) : Int))) i || mayTaskL (ps.drop 0) i) := by
  have h9 : decide (0 ≤ (i : Int) ∧ (i : Int) ≤ 9) = true := by simp; omega
  have h10 : decide (0 ≤ (i : Int) ∧ (i : Int) < ((10 : Nat) : Int)) = true := by simp; omega
  simp only [mayTask, h9, h10, decide_true, Bool.and_true, Bool.or_true, Bool.true_or, Bool.true_and]
set_option maxHeartbeats 2000000 in
theorem may_calls : ∀ (t : Task), fitAll t = true → ∀ (A : Option Addr) (c B b : Nat) (p : Int → Bool) (w0 w : World), Below B w0 w → B ≤ w.heap.size → t.parts.length ≤ c → c ≤ maxLen → PartsIs B w0 A 0 t.parts → ArrIs w b p → B ≤ b →
    Calls Try.prog 149 #[.agg #[.int .i64 t.kind, .int .i64 t.n, .slice A t.parts.length c], .pointer (some ⟨b, 0, none⟩)] w fun e w' => (∃ v, e = .returned v) ∧ ArrIs w' b (fun i => p i || mayTask t i) ∧ Turn (· = b) (· = b) w w' := by
  refine Task.ind ?_
  intro k n ps ih hfit A c B b p w0 w hb hB hc hm hp hA hBb
  simp only [Task.kind, Task.n, Task.parts] at hc hp ⊢
  unfold maxLen at hm
  rw [fitAll, Bool.and_eq_true] at hfit
  obtain ⟨hfn, hfl⟩ := hfit
  have hfL : ∀ q ∈ ps, fitAll q = true := by
    have : ∀ (l : List Task), fitAllL l = true → ∀ q ∈ l, fitAll q = true := by
      intro l
      induction l with
      | nil => intro _ q hq; cases hq
      | cons a l ihl =>
        intro h q hq
        rw [fitAllL, Bool.and_eq_true] at h
        rcases List.mem_cons.1 hq with rfl | hq
        · exact h.1
        · exact ihl h.2 q hq
    exact this ps hfl
  have hblt := block_lt hA
  -- the loop over the parts, from a world in which the node itself is done
  replace ih := Lib.hid ih
  replace hp := Lib.hid hp
  replace hfL := Lib.hid hfL
  replace hb := Lib.hid hb
  by_cases k1 : k = 1
  · subst k1
    have hn : 0 ≤ n ∧ n ≤ 9 := by
      unfold fitsN at hfn
      simp at hfn
      omega
    obtain ⟨q, rfl⟩ := Int.eq_ofNat_of_zero_le hn.1
    have hq : q < 10 := by omega
    have y := hA.cell hq
    have f := hA.frozen q
    have hset := hA.set hq
    have hst : Turn (· = b) (· = b) w (w.setCell ⟨b, q, none⟩ (.bool true)) := setCell_turn (F := (· = b)) rfl _
    have hz2 : b < (w.setCell ⟨b, q, none⟩ (.bool true)).heap.size := by rw [World.size_setCell]; exact hblt
    replace hA := Lib.hid hA
    replace hset := Lib.hid hset
    replace hst := Lib.hid hst
    replace hz2 := Lib.hid hz2
    clear hfn hfl
    go_enter Try.func149, Try.ntmps149
    go_wp2_with fail
    go_region
    go_wp2_with fail
    go_loopw [29] (fun i wr => ∃ (j : Nat) (p1 : Int → Bool), j ≤ ps.length ∧ i = .int .i64 j ∧ Hid (ArrIs wr b p1) ∧ Hid (Turn (· = b) (· = b) w wr) ∧ Hid (∀ i : Nat, i < 10 → (p i || mayTask (.mk 1 q ps) i) = (p1 i || mayTaskL (ps.drop j) i))) (fun i _ => ps.length - (intOf i).toNat)
    case atStart => exact ⟨0, (fun i => p i || decide (i = (q : Int))), Nat.zero_le _, rfl, Lib.hid (hset.out.turn (heap_old hz2.out)), Lib.hid ((hst.out.alloc _).drew), Lib.hid (by intro i hi; simp [mayTask, Bool.or_assoc])⟩
    case round =>
      obtain ⟨j, p1, hj, rfl, hA1, hT, he⟩ := hrel
      have hbw : Below B w0 wr := hb.out.trans (hT.out.below hB (fun i e => by cases e; exact hBb))
      have hsz := hT.out.size
      have hbz : b < wr.heap.size := by omega
      by_cases hlt : j < ps.length
      · obtain ⟨bq, oq, A', c', rfl, hbl, y0, y1, y2, hc', hm', hp'⟩ := hp.out.at hbw j hlt
        have hbl' : bq < wr.heap.size := by omega
        have hcall := ih.out ps[j] (List.getElem_mem _) (hfL.out _ (List.getElem_mem _)) A' c' B b p1 w0 (wr.alloc (.cells #[.int .i64 ps[j].kind, .int .i64 ps[j].n, .slice A' ps[j].parts.length c'] 48 (0, 0))) (below_al' hbw _ (by omega)) (by simp; omega) hc' hm' hp' (hA1.out.turn (heap_old hbz)) hBb
        replace hcall := Lib.hid hcall
        replace hbw := Lib.hid hbw
        clear hp'
        go_wp2_with fail
        refine hcall.out.mono ?_
        rintro e w2 ⟨⟨v, rfl⟩, hA2, hT2⟩
        have hT3 := (hT.out.alloc _).trans hT2
        have he2 : ∀ i : Nat, i < 10 → (p i || mayTask (.mk 1 q ps) i) = ((p1 i || mayTask ps[j] i) || mayTaskL (ps.drop (j + 1)) i) := fun i hi => by
          rw [he.out i hi, List.drop_eq_getElem_cons hlt, mayTaskL, Bool.or_assoc]
        replace hA2 := Lib.hid hA2
        replace hT3 := Lib.hid hT3
        replace he2 := Lib.hid he2
        clear hcall hT2 he hA1 hT y0 y1 y2
        go_wp2_with fail
        go_roundw
        case rel => exact ⟨j + 1, _, by omega, by go_num, hA2, hT3, he2⟩
        case measure => simp [intOf]; omega
      · have he2 : ∀ i : Nat, i < 10 → p1 i = (p i || mayTask (.mk 1 q ps) i) := fun i hi => by
          rw [he.out i hi, List.drop_eq_nil_of_le (by omega), mayTaskL, Bool.or_false]
        replace he2 := Lib.hid he2
        replace hbw := Lib.hid hbw
        clear he
        go_wp2_with fail
        go_end0
        exact ⟨⟨_, rfl⟩, hA1.out.congr he2.out, hT.out⟩
  by_cases k5 : k = 5
  · subst k5
    have hA0 : ArrIs (w.alloc (.cells #[.int .i64 5, .int .i64 n, .slice A ps.length c] 48 (0, 0))) b p := hA.turn (heap_old hblt)
    replace hA := Lib.hid hA
    replace hA0 := Lib.hid hA0
    clear hfn hfl
    go_enter Try.func149, Try.ntmps149
    go_wp2_with fail
    go_loopw [18] (fun i wr => ∃ (j : Nat), j ≤ 10 ∧ i = .int .i64 j ∧ w.heap.size < wr.heap.size ∧ wr.cell? ⟨w.heap.size, 2, none⟩ = some (.slice A ps.length c) ∧ Hid (ArrIs wr b (fun i => p i || decide (0 ≤ i ∧ i < j))) ∧ Hid (Turn (· = b) (· = b) w wr)) (fun i _ => 10 - (intOf i).toNat)
    case atStart => exact ⟨0, by omega, rfl, by simp, by simp, Lib.hid (hA0.out.congr (fun i hi => by simp; intro h; omega)), Lib.hid ((Turn.refl _ _).alloc _)⟩
    case round =>
      obtain ⟨j, hj, rfl, hz, hbox, hA1, hT⟩ := hrel
      have hbz : b < wr.heap.size := by omega
      by_cases hlt : j < 10
      · have y := hA1.out.cell hlt
        have f := hA1.out.frozen j
        have hset := hA1.out.set hlt
        have hset2 : ArrIs (wr.setCell ⟨b, j, none⟩ (.bool true)) b (fun i => p i || decide (0 ≤ i ∧ i < ((j + 1 : Nat) : Int))) := hset.congr (fun i hi => by
          rw [Bool.or_assoc]
          congr 1
          rw [Bool.eq_iff_iff]
          simp
          omega)
        have hst : Turn (· = b) (· = b) w (wr.setCell ⟨b, j, none⟩ (.bool true)) := hT.out.trans (setCell_turn (F := (· = b)) rfl _)
        have hne : b ≠ w.heap.size := by omega
        replace hset2 := Lib.hid hset2
        replace hst := Lib.hid hst
        clear hset
        go_wp2_with fail
        go_roundw
        case rel => exact ⟨j + 1, by omega, by go_num, by simpa using hz, (World.cell?_of_block (w := wr) (setCell_far (fun e => hne e.symm))).trans hbox, hset2, hst⟩
        case measure => simp [intOf]; omega
      · have hj10 : j = 10 := by omega
        subst hj10
        obtain ⟨w9, hw9⟩ : ∃ w9, w9 = wr := ⟨_, rfl⟩
        subst hw9
        go_wp2_with fail
        go_loopw [29] (fun i wr => ∃ (j : Nat) (p1 : Int → Bool), j ≤ ps.length ∧ i = .int .i64 j ∧ Hid (ArrIs wr b p1) ∧ Hid (Turn (· = b) (· = b) w wr) ∧ Hid (∀ i : Nat, i < 10 → (p i || mayTask (.mk 5 n ps) i) = (p1 i || mayTaskL (ps.drop j) i))) (fun i _ => ps.length - (intOf i).toNat)
        case atStart => exact ⟨0, (fun i => p i || decide (0 ≤ i ∧ i < ((10 : Nat) : Int))), Nat.zero_le _, rfl, Lib.hid hA1.out, Lib.hid hT.out, Lib.hid (by intro i hi; exact may_five p n ps i hi)⟩
        case round =>
          obtain ⟨j, p1, hj, rfl, hA1, hT, he⟩ := hrel
          have hbw : Below B w0 wr := hb.out.trans (hT.out.below hB (fun i e => by cases e; exact hBb))
          have hsz := hT.out.size
          have hbz : b < wr.heap.size := by omega
          by_cases hlt : j < ps.length
          · obtain ⟨bq, oq, A', c', rfl, hbl, y0, y1, y2, hc', hm', hp'⟩ := hp.out.at hbw j hlt
            have hbl' : bq < wr.heap.size := by omega
            have hcall := ih.out ps[j] (List.getElem_mem _) (hfL.out _ (List.getElem_mem _)) A' c' B b p1 w0 (wr.alloc (.cells #[.int .i64 ps[j].kind, .int .i64 ps[j].n, .slice A' ps[j].parts.length c'] 48 (0, 0))) (below_al' hbw _ (by omega)) (by simp; omega) hc' hm' hp' (hA1.out.turn (heap_old hbz)) hBb
            replace hcall := Lib.hid hcall
            replace hbw := Lib.hid hbw
            clear hp'
            go_wp2_with fail
            refine hcall.out.mono ?_
            rintro e w2 ⟨⟨v, rfl⟩, hA2, hT2⟩
            have hT3 := (hT.out.alloc _).trans hT2
            have he2 : ∀ i : Nat, i < 10 → (p i || mayTask (.mk 5 n ps) i) = ((p1 i || mayTask ps[j] i) || mayTaskL (ps.drop (j + 1)) i) := fun i hi => by
              rw [he.out i hi, List.drop_eq_getElem_cons hlt, mayTaskL, Bool.or_assoc]
            replace hA2 := Lib.hid hA2
            replace hT3 := Lib.hid hT3
            replace he2 := Lib.hid he2
            clear hcall hT2 he hA1 hT y0 y1 y2
            go_wp2_with fail
            go_roundw
            case rel => exact ⟨j + 1, _, by omega, by go_num, hA2, hT3, he2⟩
            case measure => simp [intOf]; omega
          · have he2 : ∀ i : Nat, i < 10 → p1 i = (p i || mayTask (.mk 5 n ps) i) := fun i hi => by
              rw [he.out i hi, List.drop_eq_nil_of_le (by omega), mayTaskL, Bool.or_false]
            replace he2 := Lib.hid he2
            replace hbw := Lib.hid hbw
            clear he
            go_wp2_with fail
            go_end0
            exact ⟨⟨_, rfl⟩, hA1.out.congr he2.out, hT.out⟩
  have e1 : (k == 1) = false := by simp [k1]
  have e5 : (k == 5) = false := by simp [k5]
  have hA0 : ArrIs (w.alloc (.cells #[.int .i64 k, .int .i64 n, .slice A ps.length c] 48 (0, 0))) b p := hA.turn (heap_old hblt)
  have hown : ∀ i, mayTask (.mk k n ps) i = mayTaskL ps i := fun i => by simp [mayTask, k1, k5]
  replace hA := Lib.hid hA
  replace hA0 := Lib.hid hA0
  replace hown := Lib.hid hown
  clear hfn hfl k1 k5
  go_enter Try.func149, Try.ntmps149
  go_wp2_with fail
  go_loopw [29] (fun i wr => ∃ (j : Nat) (p1 : Int → Bool), j ≤ ps.length ∧ i = .int .i64 j ∧ Hid (ArrIs wr b p1) ∧ Hid (Turn (· = b) (· = b) w wr) ∧ Hid (∀ i : Nat, i < 10 → (p i || mayTask (.mk k n ps) i) = (p1 i || mayTaskL (ps.drop j) i))) (fun i _ => ps.length - (intOf i).toNat)
  case atStart => exact ⟨0, p, Nat.zero_le _, rfl, Lib.hid hA0.out, Lib.hid ((Turn.refl _ _).alloc _), Lib.hid (by intro i hi; rw [hown.out]; rfl)⟩
  case round =>
    obtain ⟨j, p1, hj, rfl, hA1, hT, he⟩ := hrel
    have hbw : Below B w0 wr := hb.out.trans (hT.out.below hB (fun i e => by cases e; exact hBb))
    have hsz := hT.out.size
    have hbz : b < wr.heap.size := by omega
    by_cases hlt : j < ps.length
    · obtain ⟨bq, oq, A', c', rfl, hbl, y0, y1, y2, hc', hm', hp'⟩ := hp.out.at hbw j hlt
      have hbl' : bq < wr.heap.size := by omega
      have hcall := ih.out ps[j] (List.getElem_mem _) (hfL.out _ (List.getElem_mem _)) A' c' B b p1 w0 (wr.alloc (.cells #[.int .i64 ps[j].kind, .int .i64 ps[j].n, .slice A' ps[j].parts.length c'] 48 (0, 0))) (below_al' hbw _ (by omega)) (by simp; omega) hc' hm' hp' (hA1.out.turn (heap_old hbz)) hBb
      replace hcall := Lib.hid hcall
      replace hbw := Lib.hid hbw
      clear hp'
      go_wp2_with fail
      refine hcall.out.mono ?_
      rintro e w2 ⟨⟨v, rfl⟩, hA2, hT2⟩
      have hT3 := (hT.out.alloc _).trans hT2
      have he2 : ∀ i : Nat, i < 10 → (p i || mayTask (.mk k n ps) i) = ((p1 i || mayTask ps[j] i) || mayTaskL (ps.drop (j + 1)) i) := fun i hi => by
        rw [he.out i hi, List.drop_eq_getElem_cons hlt, mayTaskL, Bool.or_assoc]
      replace hA2 := Lib.hid hA2
      replace hT3 := Lib.hid hT3
      replace he2 := Lib.hid he2
      clear hcall hT2 he hA1 hT y0 y1 y2
      go_wp2_with fail
      go_roundw
      case rel => exact ⟨j + 1, _, by omega, by go_num, hA2, hT3, he2⟩
      case measure => simp [intOf]; omega
    · have he2 : ∀ i : Nat, i < 10 → p1 i = (p i || mayTask (.mk k n ps) i) := fun i hi => by
        rw [he.out i hi, List.drop_eq_nil_of_le (by omega), mayTaskL, Bool.or_false]
      replace he2 := Lib.hid he2
      replace hbw := Lib.hid hbw
      clear he
      go_wp2_with fail
      go_end0
      exact ⟨⟨_, rfl⟩, hA1.out.congr he2.out, hT.out⟩
end Go.Proofs.Ytpccgdkidnkppaa

set_option linter.unusedVariables false
set_option linter.unusedSimpArgs false
namespace Go.Proofs.Ytpccgdkidnkppaa
open Go Go.RowKit

/-- the keys that a task may fetch, from key j on -/
def mayFrom (t : Task) : Nat → List Int
  | 0 => []
  | m + 1 => (if mayTask t ((9 - m : Nat) : Int) then [((9 - m : Nat) : Int)] else []) ++ mayFrom t m
def mayList (t : Task) : List Int := if okT t then mayFrom t 10 else []
theorem mem_mayFrom (t : Task) : ∀ (m : Nat) (i : Nat), m ≤ 10 → 10 - m ≤ i → i < 10 → mayTask t i = true → (i : Int) ∈ mayFrom t m := by
  intro m
  induction m with
  | zero => intro i _ h1 h2 _; omega
  | succ m ih =>
    intro i hm h1 h2 h3
    rw [mayFrom, List.mem_append]
    by_cases e : i = 9 - m
    · left; rw [← e, if_pos h3]; simp
    · right; exact ih i (by omega) (by omega) h2 h3

set_option maxHeartbeats 2000000 in
theorem brHas_calls (A : Option Addr) (c : Nat) (xs : List Int) (x : Int) (w : World) (hx : IntsAt w.heap.size w A xs) (hl : xs.length ≤ 1000000) (hm : x ∈ xs) :
    Calls Try.prog 86 #[.slice A xs.length c, .int .i64 x] w fun e w' => e = .returned (.bool true) ∧ w = w' := by
  obtain ⟨q, hq, hqx⟩ := List.getElem_of_mem hm
  replace hx := Lib.hid hx
  replace hqx := Lib.hid hqx
  clear hm
  go_enter Try.func86, Try.ntmps86
  go_wp2_with fail
  go_loopw [5] (fun i wr => ∃ (j : Nat), j ≤ q ∧ i = .int .i64 j ∧ wr = w) (fun i _ => xs.length - (intOf i).toNat)
  case atStart => exact ⟨0, Nat.zero_le _, rfl, rfl⟩
  case round =>
    obtain ⟨j, hj, rfl, rfl⟩ := hrel
    have hlt : j < xs.length := by omega
    obtain ⟨b, o, rfl, hb, y⟩ := hx.out j hlt
    by_cases e : xs[j] = x
    · have e' : (xs[j] == x) = true := by simp [e]
      replace e := Lib.hid e
      go_wp2_with fail
      go_ret
      exact ⟨rfl, rfl⟩
    · have e' : (xs[j] == x) = false := by simp [e]
      have hjq : j ≠ q := fun h => by subst h; exact e hqx.out
      replace e := Lib.hid e
      go_wp2_with fail
      go_roundw
      case rel => exact ⟨j + 1, by omega, by go_num, by first | rfl | trivial⟩
      case measure => simp [intOf]; omega

theorem arr_index (cs : Array Value) (hs : cs.size = 10) (j : Nat) (hj : j < 10) (v : Value) (hv : cs[j]? = some v) (h1 : v.cells = #[v]) (w : World) : (Instr.index 168 (.agg cs) (.int .i64 j)).run Try.prog w = .ok v w := by
  have h : Try.prog.underlying 168 = some (.array 10 4) := Try.underlying168
  have hn : (0 ≤ (j : Int) ∧ (j : Int) < ((10 : Nat) : Int)) := by omega
  simp [Instr.index, run_underlying h, asIntOf, hn, go_sem]
  rw [if_pos hj, hv]
  rfl

set_option maxRecDepth 5000 in
set_option maxHeartbeats 4000000 in
theorem taskMay_calls (t : Task) (A : Option Addr) (c B : Nat) (w0 w : World) (hb : Below B w0 w) (hB : B ≤ w.heap.size) (hc : t.parts.length ≤ c) (hm : c ≤ maxLen) (hp : PartsIs B w0 A 0 t.parts) :
    Calls Try.prog 123 #[.agg #[.int .i64 t.kind, .int .i64 t.n, .slice A t.parts.length c]] w fun e w' => ∃ v, e = .returned v ∧ w'.ownsRow w.heap.size 3 1 v (mayList t).length (ints (mayList t)) ∧ Below w.heap.size w w' := by
  have h1 := fun w1 (hw : Below w.heap.size w w1) => taskOk_calls t A c B w0 w1 (below_up' hb hB hw) (Nat.le_trans hB hw.size) hc hm hp
  have h2 := fun (hf : fitAll t = true) w1 (hw : Below w.heap.size w w1) (b : Nat) (p : Int → Bool) (hA : ArrIs w1 b p) (hBb : B ≤ b) => may_calls t hf A c B b p w0 w1 (below_up' hb hB hw) (Nat.le_trans hB hw.size) hc hm hp hA hBb
  have hml : mayList t = if okT t then mayFrom t 10 else [] := rfl
  have hfit : okT t = true → fitAll t = true := fun h => (Bool.and_eq_true_iff.1 h).1
  replace h2 := Lib.hid h2
  clear hb hp
  cases hok : okT t with
  | false =>
    rw [hok] at h1 hml
    replace h1 := Lib.hid h1
    replace hml := Lib.hid hml
    clear hok hfit h2
    go_enter Try.func123, Try.ntmps123
    go_wp2_with fail
    refine (h1.out _ (below_al (Below.refl _ _) _)).mono ?_
    rintro e w1 ⟨rfl, h3⟩
    go_wp2_with fail
    go_ret
    rw [hml.out]
    exact ⟨_, rfl, World.ownsRow_nil _ _ _ _, below_from h3⟩
  | true =>
    have hf := hfit hok
    rw [hok, if_pos rfl] at hml
    rw [hok] at h1
    replace h1 := Lib.hid h1
    replace hml := Lib.hid hml
    replace hf := Lib.hid hf
    clear hok hfit
    go_enter Try.func123, Try.ntmps123
    go_wp2_with fail
    refine (h1.out _ (below_al (Below.refl _ _) _)).mono ?_
    rintro e w1 ⟨rfl, h3⟩
    have x0 : w1.cell? ⟨w.heap.size, 0, none⟩ = some (.int .i64 t.kind) := (h3.cell (p := ⟨w.heap.size, 0, none⟩) (by simp)).trans (by simp)
    have x1 : w1.cell? ⟨w.heap.size, 1, none⟩ = some (.int .i64 t.n) := (h3.cell (p := ⟨w.heap.size, 1, none⟩) (by simp)).trans (by simp)
    have x2 : w1.cell? ⟨w.heap.size, 2, none⟩ = some (.slice A t.parts.length c) := (h3.cell (p := ⟨w.heap.size, 2, none⟩) (by simp)).trans (by simp)
    have b1 := below_from h3
    have s1 : w.heap.size < w1.heap.size := by have := h3.size; simp at this; omega
    have hA : ArrIs (w1.alloc (.cells #[.bool false, .bool false, .bool false, .bool false, .bool false, .bool false, .bool false, .bool false, .bool false, .bool false] 168 (0, 0))) w1.heap.size (fun _ => false) := heap_new rfl
    have hcall := h2.out hf.out _ (b1.trans (below_al (Below.refl _ _) _ |>.mono b1.size)) w1.heap.size (fun _ => false) hA (Nat.le_trans hB b1.size)
    replace hcall := Lib.hid hcall
    replace b1 := Lib.hid b1
    clear h3 hA
    go_wp2_with fail
    refine hcall.out.mono ?_
    rintro e w2 ⟨⟨v, rfl⟩, hA2, hT2⟩
    have b2 : Below w.heap.size w w2 := b1.out.trans ((below_al (Below.refl _ w1) _).trans (hT2.below (by simp) (fun i e => by cases e; exact Nat.le_refl _)) |>.mono b1.out.size)
    have hA3 : ArrIs w2 w1.heap.size (fun i => mayTask t i) := hA2.congr (fun i hi => by simp)
    have c0 := hA3.cell (show 0 < 10 by omega)
    have c1 := hA3.cell (show 1 < 10 by omega)
    have c2 := hA3.cell (show 2 < 10 by omega)
    have c3 := hA3.cell (show 3 < 10 by omega)
    have c4 := hA3.cell (show 4 < 10 by omega)
    have c5 := hA3.cell (show 5 < 10 by omega)
    have c6 := hA3.cell (show 6 < 10 by omega)
    have c7 := hA3.cell (show 7 < 10 by omega)
    have c8 := hA3.cell (show 8 < 10 by omega)
    have c9 := hA3.cell (show 9 < 10 by omega)
    have hz2 := block_lt hA3
    replace b2 := Lib.hid b2
    clear hT2 hA2 hcall x0 x1 x2 hA3
    go_wp2_with fail
    have hget : ∀ j : Nat, j < 10 → (#[Value.bool (mayTask t 0), Value.bool (mayTask t 1), Value.bool (mayTask t 2), Value.bool (mayTask t 3), Value.bool (mayTask t 4), Value.bool (mayTask t 5), Value.bool (mayTask t 6), Value.bool (mayTask t 7), Value.bool (mayTask t 8), Value.bool (mayTask t 9)] : Array Value)[j]? = some (.bool (mayTask t j)) := by
      intro j hj
      rcases (show j = 0 ∨ j = 1 ∨ j = 2 ∨ j = 3 ∨ j = 4 ∨ j = 5 ∨ j = 6 ∨ j = 7 ∨ j = 8 ∨ j = 9 by omega) with rfl | rfl | rfl | rfl | rfl | rfl | rfl | rfl | rfl | rfl <;> rfl
    have hidx : ∀ (j : Nat) (W : World), j < 10 → (Instr.index 168 (.agg (#[Value.bool (mayTask t 0), Value.bool (mayTask t 1), Value.bool (mayTask t 2), Value.bool (mayTask t 3), Value.bool (mayTask t 4), Value.bool (mayTask t 5), Value.bool (mayTask t 6), Value.bool (mayTask t 7), Value.bool (mayTask t 8), Value.bool (mayTask t 9)] : Array Value)) (.int .i64 j)).run Try.prog W = .ok (.bool (mayTask t j)) W := fun j W hj => arr_index _ rfl j hj _ (hget j hj) rfl W
    clear c0 c1 c2 c3 c4 c5 c6 c7 c8 c9 hget
    generalize (#[Value.bool (mayTask t 0), Value.bool (mayTask t 1), Value.bool (mayTask t 2), Value.bool (mayTask t 3), Value.bool (mayTask t 4), Value.bool (mayTask t 5), Value.bool (mayTask t 6), Value.bool (mayTask t 7), Value.bool (mayTask t 8), Value.bool (mayTask t 9)] : Array Value) = cs at hidx ⊢
    have hml2 : ∀ j : Nat, j < 10 → mayFrom t (10 - j) = (if mayTask t j then [(j : Int)] else []) ++ mayFrom t (10 - (j + 1)) := fun j hj => by
      rw [show 10 - j = (9 - j) + 1 by omega, mayFrom, show 9 - (9 - j) = j by omega, show 10 - (j + 1) = 9 - j by omega]
    replace hidx := Lib.hid hidx
    replace hml2 := Lib.hid hml2
    go_loopw [4, 13] (fun o i wr => ∃ (j : Nat) (out : List Int), j ≤ 10 ∧ i = .int .i64 j ∧ out.length ≤ j ∧ Hid (out ++ mayFrom t (10 - j) = mayList t) ∧ Hid (wr.ownsRow w.heap.size 3 1 o out.length (ints out)) ∧ Hid (Below w.heap.size w wr)) (fun _ i _ => 10 - (intOf i).toNat)
    case atStart => exact ⟨0, [], by omega, rfl, by simp, Lib.hid (by rw [hml.out]; rfl), Lib.hid (World.ownsRow_nil _ _ _ _), b2⟩
    case round =>
      obtain ⟨j, out, hj, rfl, hol, he, hown, hw⟩ := hrel
      by_cases hlt : j < 10
      · have he2 := he.out
        rw [hml2.out j hlt] at he2
        have hsz := hw.out.size
        have hx := hidx.out j wr hlt
        cases hmj : mayTask t j with
        | false =>
          rw [hmj] at he2 hx
          have he3 : out ++ mayFrom t (10 - (j + 1)) = mayList t := by simpa using he2
          replace he3 := Lib.hid he3
          replace hmj := Lib.hid hmj
          clear he he2
          go_wp2_with fail
          go_roundw
          case rel => exact ⟨j + 1, out, by omega, by go_num, by omega, he3, hown, hw⟩
          case measure => simp [intOf]; omega
        | true =>
          rw [hmj] at he2 hx
          have he3 : (out ++ [(j : Int)]) ++ mayFrom t (10 - (j + 1)) = mayList t := by simpa using he2
          replace he3 := Lib.hid he3
          replace hmj := Lib.hid hmj
          clear he he2
          go_wp2_with (at_builtin; go_loud (with_reducible refine wpList_app1 (by rfl) (.tmp 18) (.tmp 20) 26 (by rfl) intTy w.heap.size u4 out.length (ints out) (by with_unfolding_all rfl) (hown.out.alloc _) wr.heap.size 1 [.int .i64 j] (by with_unfolding_all rfl) (by with_unfolding_all rfl) ⟨_, _, heap_alloc_new wr _, rfl⟩ (one_int _ _) ?_ ?_ ?_ ?_))
          · unfold maxLen; omega
          · omega
          · first | omega | (simp; omega)
          intro g cap w7 hown7 hgrow7 hat7
          have hw7 := (below_al' hw.out (.cells #[.int .i64 j] 3 (0, 0)) hsz).grown hgrow7 (by simp; omega) (fun i hi => (hown.out.lt i hi).1)
          have hown7' : w7.ownsRow w.heap.size 3 1 (.slice (some ⟨g, 0, none⟩) (out.length + 1) cap) (out ++ [(j : Int)]).length (ints (out ++ [(j : Int)])) := by simpa [ints_append, ints] using hown7
          replace hw7 := Lib.hid hw7
          replace hown7' := Lib.hid hown7'
          clear hown7 hgrow7 hat7 hown hw
          go_wp2_with fail
          go_roundw
          case rel => exact ⟨j + 1, out ++ [(j : Int)], by omega, by go_num, by simp; omega, he3, hown7', hw7⟩
          case measure => simp [intOf]; omega
      · have hj10 : j = 10 := by omega
        subst hj10
        have he2 : out = mayList t := by have := he.out; simpa [mayFrom] using this
        replace he2 := Lib.hid he2
        clear he
        go_wp2_with fail
        go_ret
        rw [← he2.out]
        exact ⟨_, rfl, hown.out, hw.out⟩
end Go.Proofs.Ytpccgdkidnkppaa
