import Derived.Deep.RegionHeld3
import Derived.Test.YtpccgdkidnkppaaPk10FnRowNew
import Derived.Test.YtpccgdkidnkppaaPk13FnRowNew
import Derived.Test.YtpccgdkidnkppaaPk14FnRowNew
import Derived.Test.YtpccgdkidnkppaaPk15FnRowNew
set_option linter.unusedVariables false
set_option linter.unusedSimpArgs false
namespace Go.Proofs.Ytpccgdkidnkppaa
open Go Go.RowKit

theorem once0 (E : MkEnv) (S : Sh) (v : Value) (w : World) (ho : w.ownsRow E.B 3 1 v S.inputs.length (ints S.inputs)) (hb : Below E.B E.w0 w) (hB : E.B ≤ w.heap.size) :
    OnAt E S w.heap.size v (.slice none 0 0) (.slice none 0 0) (ost0 S) (w.alloc (.cells (onCs E S v (.slice none 0 0) (.slice none 0 0)) 104 (0, 0))) := by
  have hnil : ∀ i, (rowP E.B 3 1 (.slice none 0 0) 0 (ints [])).F i → False := fun i hi => by cases hi
  have hv : ∀ i, v.ownBlock = some i → i < w.heap.size := fun i hi => (ho.lt i hi).2
  refine ⟨heap_new rfl, fun p hp => ?_, fun i j hi hj hij b h1 h2 => ?_, fun p hp hf => ?_, hB, below_al' hb _ hB, by simp; omega⟩
  · simp only [onPs, ost0, List.mem_cons, List.not_mem_nil, or_false] at hp
    rcases hp with rfl | rfl | rfl
    · exact rowP_ok (ho.alloc _)
    · exact rowP_ok (World.ownsRow_nil _ _ _ _)
    · exact rowP_ok (World.ownsRow_nil _ _ _ _)
  · match i, j, hi, hj with
    | 0, 0, _, _ => exact hij rfl
    | 0, 1, _, _ => exact hnil b h2
    | 0, 2, _, _ => exact hnil b h2
    | 1, _, _, _ => exact hnil b h1
    | 2, _, _, _ => exact hnil b h1
  · simp only [onPs, ost0, List.mem_cons, List.not_mem_nil, or_false] at hp
    rcases hp with rfl | rfl | rfl
    · exact Nat.lt_irrefl _ (hv _ hf)
    · exact hnil _ hf
    · exact hnil _ hf

theorem onceL_nil (S : Sh) (st : OSt) : onceL S [] st = (st.done, true) := rfl
theorem onceL_cons (S : Sh) (k : Int) (ks : List Int) (st : OSt) : onceL S (k :: ks) st = if (onceP S S.made.length st k).1.2 = true then onceL S ks (onceP S S.made.length st k).2 else ([], false) := rfl

set_option maxHeartbeats 4000000 in
theorem specOrderSuspend_good (E : MkEnv) (S : Sh) (hE : E.Good S) (hnod : ∀ T ∈ S.tks.map Tk.enc, nodes T ≤ 1000000000) (Ak : Option Addr) (ck : Nat) (keys : List Int) (w : World) (hb : Below E.B E.w0 w) (hB : E.B ≤ w.heap.size) (hk : keysOk S.made.length keys = true) (hx : IntsAt E.B E.w0 Ak keys) (hm : keys.length ≤ maxLen) :
    Calls Try.prog 26 #[.agg #[.slice E.Am S.made.length E.cm, .slice E.At S.tks.length E.ct], .slice E.Ai S.inputs.length E.ci, .slice Ak keys.length ck] w fun e w' =>
      GivesOwn w.heap.size (suspP S keys) e w w' := by
  have hok2 : takesOk S.made.length S.inputs = true := by simp [takesOk, hE.ok.ins, vals_iff.2 hE.ok.vals]
  have hin : inputsOk S.made (S.tks.map Tk.enc) S.inputs = true := by rw [inputsOk, hE.ok.sheet, hok2]; rfl
  have hten := hE.ok.ten
  have hil : S.inputs.length ≤ 10 := by rw [hE.ok.ins]; exact hten
  have hc1 := fun w1 (hw : Below w.heap.size w w1) => l3Inputs_calls E.Am E.At E.Ai E.cm E.ct E.ci S.made (S.tks.map Tk.enc) S.inputs E.B E.w0 w1 (below_up' hb hB hw) (Nat.le_trans hB hw.size) hE.sheet hnod (Nat.le_trans hE.li hE.mi) hE.ins
  rw [hin] at hc1
  simp only [List.length_map] at hc1
  have hc2 := fun w1 (hw : Below w.heap.size w w1) => l4Keys_calls E.Am E.At Ak E.cm E.ct ck S.made (S.tks.map Tk.enc) keys E.B E.w0 w1 (below_up' hb hB hw) (Nat.le_trans hB hw.size) hE.sheet hnod (by omega) hm hx
  rw [hk, hE.ok.sheet] at hc2
  simp only [List.length_map] at hc2
  have hc3 := okey_calls E S hE
  have hrg := keysOk_iff.1 hk
  have hin2 := hE.ins
  rw [susp_same hE.ok]
  obtain ⟨P, hP⟩ : ∃ P, onceL S keys (ost0 S) = P := ⟨_, rfl⟩
  have hi0 := oinv0 hE.ok
  have hinv := fun st k hi => (onceP_inv hE.ok S.made.length st k hi).1
  rw [hP]
  unfold maxLen at hm
  replace hc1 := Lib.hid hc1
  replace hc2 := Lib.hid hc2
  replace hc3 := Lib.hid hc3
  replace hP := Lib.hid hP
  replace hb := Lib.hid hb
  replace hE := Lib.hid hE
  replace hx := Lib.hid hx
  replace hrg := Lib.hid hrg
  replace hin2 := Lib.hid hin2
  replace hi0 := Lib.hid hi0
  replace hinv := Lib.hid hinv
  clear hin hok2 hk hnod
  go_enter Try.func26, Try.ntmps26
  go_wp2_with fail
  refine (hc1.out _ (below_al (Below.refl _ _) _)).mono ?_
  rintro e w1 ⟨rfl, h1⟩
  have x0 : w1.cell? ⟨w.heap.size, 0, none⟩ = some (.slice E.Am S.made.length E.cm) := (h1.cell (p := ⟨w.heap.size, 0, none⟩) (by simp)).trans (by simp)
  have x1 : w1.cell? ⟨w.heap.size, 1, none⟩ = some (.slice E.At S.tks.length E.ct) := (h1.cell (p := ⟨w.heap.size, 1, none⟩) (by simp)).trans (by simp)
  have b1 := below_from h1
  have s1 : w.heap.size < w1.heap.size := by have := h1.size; simp at this; omega
  replace b1 := Lib.hid b1
  clear h1
  go_wp2_with fail
  refine (hc2.out _ b1.out).mono ?_
  rintro e w2 ⟨rfl, h2⟩
  have y0 : w2.cell? ⟨w.heap.size, 0, none⟩ = some (.slice E.Am S.made.length E.cm) := kept_cell h2 s1 x0
  have y1 : w2.cell? ⟨w.heap.size, 1, none⟩ = some (.slice E.At S.tks.length E.ct) := kept_cell h2 s1 x1
  have b2 := below_up b1.out h2
  have s2 : w.heap.size < w2.heap.size := by have := h2.size; omega
  have hB2 : E.B ≤ w2.heap.size := by omega
  have hb2 : Hid (Below E.B E.w0 w2) := Lib.hid (below_up' hb.out hB b2)
  replace b2 := Lib.hid b2
  clear h2 x0 x1 s1 b1
  go_wp2_with fail
  go_region_law ((with_reducible refine step_appI (base := E.B) (v := .slice (some ⟨w2.heap.size, 0, none⟩) 0 0) (n := 0) (xs := []) (B := E.B) (w0 := E.w0) (by rfl) (.tmp 24) (.tmp 25) (by rfl) intTy (by with_unfolding_all rfl) ?_ (by with_unfolding_all rfl) hin2.out ?_ ?_ ?_ ?_ ?_ ?_); (exact (World.ownsRow_made (base := E.B) w2 #[] 0 hB2 (by simp [maxLen]) rfl).drew); (exact (below_al' hb2.out _ hB2).drew); (simp; omega); (simp [maxLen]; omega); (omega); (simp; omega); intro v3 w3 hown hgrow hat; have hlt3 := hgrow.size; simp at hlt3; have hown' : w3.ownsRow E.B 3 1 v3 S.inputs.length (ints S.inputs) := (by { have := hown; simpa using this }); have b3 : Below w.heap.size w w3 := (by exact ((below_al' b2.out _ (by omega)).drew.grown hgrow (by simp; omega) (fun k hk => by cases hk; exact Nat.le_of_lt s2))); have hne3 : some w.heap.size ≠ (Value.slice (some ⟨w2.heap.size, 0, none⟩) 0 0).ownBlock := (by { intro e; have := Option.some.inj (show some w.heap.size = some w2.heap.size from e); omega }); have z0 : w3.cell? ⟨w.heap.size, 0, none⟩ = some (.slice E.Am S.made.length E.cm) := (hgrow.cell_far ⟨w.heap.size, 0, none⟩ (by simp; omega) hne3).trans ((cell_al s2).trans y0); have z1 : w3.cell? ⟨w.heap.size, 1, none⟩ = some (.slice E.At S.tks.length E.ct) := (hgrow.cell_far ⟨w.heap.size, 1, none⟩ (by simp; omega) hne3).trans ((cell_al s2).trans y1); obtain ⟨A3, c3, rfl, -, -, -⟩ := ownsRow_ints hown'; have hO3 := once0 E S _ w3 hown' (below_up' hb.out hB b3) (Nat.le_trans hB b3.size); have hv3 : ∀ i, (Value.slice A3 S.inputs.length c3).ownBlock = some i → w.heap.size ≤ i := (by { intro i hi; rcases hat with h | h <;> rw [h] at hi <;> cases hi <;> (simp; omega) }); replace b3 := Lib.hid b3; replace hO3 := Lib.hid hO3; replace hv3 := Lib.hid hv3; clear hown hgrow hat hown' hne3)
  all_goals
    have hF3 : ∀ i, Foot w3.heap.size (onPs E (.slice A3 S.inputs.length c3) (.slice none 0 0) (.slice none 0 0) (ost0 S)) i → w.heap.size ≤ i := fun i hi => by
      rcases hi with rfl | ⟨p, hp, hf⟩
      · exact b3.out.size
      · simp only [onPs, List.mem_cons, List.not_mem_nil, or_false] at hp
        rcases hp with rfl | rfl | rfl
        · exact hv3.out i hf
        · cases hf
        · cases hf
    replace hF3 := Lib.hid hF3
    clear y0 y1 z0 z1 hv3
    generalize hm0 : w3.heap.size = m at *
    replace hm0 := Lib.hid hm0
    go_wp2_with fail
    go_loopw [9, 10, 11] (fun i _ _ wr => ∃ (j : Nat) (st : OSt) (F : Nat → Prop), j ≤ keys.length ∧ i = .int .i64 j ∧ Hid (OnI E S m st wr F) ∧ Hid (OInv S S.made.length st) ∧
      Hid (∀ i, F i → w.heap.size ≤ i) ∧ Hid (Below w.heap.size w wr) ∧ Hid (onceL S keys (ost0 S) = onceL S (keys.drop j) st)) (fun i _ _ _ => keys.length - (intOf i).toNat)
    case atStart => exact ⟨0, ost0 S, _, Nat.zero_le _, rfl, Lib.hid ⟨_, _, _, hO3.out, rfl⟩, hi0, hF3, Lib.hid (below_al' b3.out _ b3.out.size), Lib.hid rfl⟩
    case round =>
      obtain ⟨j, st, F, hj, rfl, hM, hIv, hF, hw, he⟩ := hrel
      by_cases hlt : j < keys.length
      · have he2 := he.out
        rw [List.drop_eq_getElem_cons hlt, onceL_cons] at he2
        have hkr := hrg.out _ (List.getElem_mem hlt)
        have hkey := hc3.out m S.made.length st keys[j] wr F hkr.1 (by omega) hIv.out hM.out
        have hIv2 := hinv.out st keys[j] hIv.out
        obtain ⟨b, o, rfl, hbb, y⟩ := hx.out.at (below_up' hb.out hB hw.out) (Nat.le_trans hB hw.out.size) j hlt
        generalize keys[j] = k at *
        obtain ⟨r, hr⟩ : ∃ r, onceP S S.made.length st k = r := ⟨_, rfl⟩
        rw [hr] at he2 hkey hIv2
        replace hkey := Lib.hid hkey
        replace hr := Lib.hid hr
        replace he2 := Lib.hid he2
        replace hkr := Lib.hid hkr
        replace hIv2 := Lib.hid hIv2
        clear he
        go_wp2_with fail
        refine hkey.out.mono ?_
        rintro e w5 ⟨rfl, v1, v2, F5, hM5, t5⟩
        have hF5 : ∀ i, F5 i → w.heap.size ≤ i := fun i hi => (t5.fresh i hi).elim (hF.out i) (fun hge => Nat.le_trans hw.out.size hge)
        have hw5 := hw.out.trans (t5.below (B := w.heap.size) hw.out.size (fun i hi => hF.out i hi))
        replace hM5 := Lib.hid hM5
        replace hF5 := Lib.hid hF5
        replace hw5 := Lib.hid hw5
        clear t5 y
        cases hok : r.1.2 with
        | false =>
          rw [hok] at he2
          go_wp2_with fail
          go_ret2
          have := he2.out
          simp at this
          rw [← hP.out, this]
          exact ⟨_, rfl, by simpa [ints] using World.ownsRow_made (base := w.heap.size) w5 #[] 0 hw5.out.size (by simp [maxLen]) rfl, below_al' hw5.out _ hw5.out.size⟩
        | true =>
          rw [hok] at he2
          simp only [if_true] at he2
          go_wp2_with fail
          go_roundw
          case rel => exact ⟨j + 1, r.2, F5, by omega, by go_num, hM5, hIv2, hF5, hw5, he2⟩
          case measure => simp [intOf]; omega
      · have hd : keys.drop j = [] := List.drop_eq_nil_of_le (by omega)
        have he2 := he.out
        rw [hd, onceL_nil] at he2
        obtain ⟨vv, vd, vu, hA, -⟩ := hM.out
        have hod := hA.done
        obtain ⟨z0, z1, z2, z3, -⟩ := hA.cells
        obtain ⟨Ad, cd, rfl, hd1, hd2, hd3⟩ := ownsRow_ints hod
        have hdl : st.done.length ≤ 10 := Nat.le_trans hIv.out.done hten
        have hwz : w.heap.size ≤ wr.heap.size := hw.out.size
        have hzm : m < wr.heap.size := hA.lt
        replace he2 := Lib.hid he2
        replace hod := Lib.hid hod
        replace hd := Lib.hid hd
        replace hd3 := Lib.hid hd3
        clear he hA z0 z1 z2 hd1 hd2
        go_wp2_with (at_builtin; go_loud (with_reducible refine wpList_appI (base := w.heap.size) (v := .slice (some ⟨wr.heap.size, 0, none⟩) 0 0) (n := 0) (xs := []) (B := wr.heap.size) (w0 := wr) (by rfl) (.tmp 47) (.tmp 51) (by rfl) intTy (by with_unfolding_all rfl) ?_ (by with_unfolding_all rfl) hd3.out ?_ ?_ ?_ ?_ ?_ ?_))
        · exact World.ownsRow_made (base := w.heap.size) wr #[] 0 hwz (by simp [maxLen]) rfl
        · exact below_al (Below.refl _ _) _
        · simp
        · simp [maxLen]; omega
        · omega
        · simp; omega
        intro v9 w9 hown9 hgrow9 hat9
        have hw9 : Below w.heap.size w w9 := (below_al' hw.out _ hwz).grown hgrow9 (by simp; omega) (fun k hk => by cases hk; exact hwz)
        have hown9' : w9.ownsRow w.heap.size 3 1 v9 st.done.length (ints st.done) := by simpa using hown9
        replace hw9 := Lib.hid hw9
        replace hown9' := Lib.hid hown9'
        clear hown9 hgrow9 hat9
        go_wp2_with fail
        go_ret2
        rw [← hP.out, he2.out]
        exact ⟨_, rfl, hown9'.out, hw9.out⟩

set_option maxHeartbeats 1000000 in
theorem specOrderSuspend_bad (Am At Ai Ak : Option Addr) (cm ct ci ck : Nat) (made : List Bool) (tasks : List Task) (inputs keys : List Int) (B : Nat) (w0 : World) (w : World) (hs : SheetAt B w0 Am cm At ct made tasks) (hnod : ∀ T ∈ tasks, nodes T ≤ 1000000000) (hml : (made.length : Int) ≤ 9223372036854775807) (hi : IntsAt B w0 Ai inputs) (hli : inputs.length ≤ maxLen) (hx : IntsAt B w0 Ak keys) (hm : keys.length ≤ maxLen)
    (hb : Below B w0 w) (hB : B ≤ w.heap.size) (hbad : inputsOk made tasks inputs = true → keysOk made.length keys = false) :
    Calls Try.prog 26 #[.agg #[.slice Am made.length cm, .slice At tasks.length ct], .slice Ai inputs.length ci, .slice Ak keys.length ck] w fun e w' =>
      GivesOwn w.heap.size ([], false) e w w' := by
  have hc1 := fun w1 (hw : Below w.heap.size w w1) => l3Inputs_calls Am At Ai cm ct ci made tasks inputs B w0 w1 (below_up' hb hB hw) (Nat.le_trans hB hw.size) hs hnod hli hi
  have hc2 := fun w1 (hw : Below w.heap.size w w1) => l4Keys_calls Am At Ak cm ct ck made tasks keys B w0 w1 (below_up' hb hB hw) (Nat.le_trans hB hw.size) hs hnod hml hm hx
  generalize inputsOk made tasks inputs = d1 at *
  generalize sheetOk made tasks = d2 at *
  generalize keysOk made.length keys = d3 at *
  replace hb := Lib.hid hb
  replace hs := Lib.hid hs
  replace hi := Lib.hid hi
  replace hx := Lib.hid hx
  cases d1 with
  | false =>
    replace hc1 := Lib.hid hc1
    clear hc2 hbad
    go_enter Try.func26, Try.ntmps26
    go_wp2_with fail
    refine (hc1.out _ (below_al (Below.refl _ _) _)).mono ?_
    rintro e w1 ⟨rfl, h1⟩
    have b1 := below_from h1
    replace b1 := Lib.hid b1
    clear h1
    go_wp2_with fail
    go_ret2
    exact ⟨_, rfl, by simpa [ints] using World.ownsRow_made (base := w.heap.size) w1 #[] 0 b1.out.size (by simp [maxLen]) rfl, below_al' b1.out _ b1.out.size⟩
  | true =>
    have h3 := hbad rfl
    subst h3
    simp only [Bool.false_and] at hc2
    replace hc1 := Lib.hid hc1
    replace hc2 := Lib.hid hc2
    clear hbad
    go_enter Try.func26, Try.ntmps26
    go_wp2_with fail
    refine (hc1.out _ (below_al (Below.refl _ _) _)).mono ?_
    rintro e w1 ⟨rfl, h1⟩
    have x0 : w1.cell? ⟨w.heap.size, 0, none⟩ = some (.slice Am made.length cm) := (h1.cell (p := ⟨w.heap.size, 0, none⟩) (by simp)).trans (by simp)
    have x1 : w1.cell? ⟨w.heap.size, 1, none⟩ = some (.slice At tasks.length ct) := (h1.cell (p := ⟨w.heap.size, 1, none⟩) (by simp)).trans (by simp)
    have b1 := below_from h1
    replace b1 := Lib.hid b1
    clear h1
    go_wp2_with fail
    refine (hc2.out _ b1.out).mono ?_
    rintro e w2 ⟨rfl, h2⟩
    have b2 := below_up b1.out h2
    replace b2 := Lib.hid b2
    clear h2 x0 x1
    go_wp2_with fail
    go_ret2
    exact ⟨_, rfl, by simpa [ints] using World.ownsRow_made (base := w.heap.size) w2 #[] 0 b2.out.size (by simp [maxLen]) rfl, below_al' b2.out _ b2.out.size⟩
end Go.Proofs.Ytpccgdkidnkppaa

set_option linter.unusedVariables false
set_option linter.unusedSimpArgs false
namespace Go.Proofs.Ytpccgdkidnkppaa
open Go Go.RowKit

theorem Tk.enc_inj : ∀ (a b : Tk), a.enc = b.enc → a = b := by
  intro a
  induction a with
  | num n => intro b h; cases b <;> simp [Tk.enc] at h ⊢; exact h
  | get k => intro b h; cases b <;> simp [Tk.enc] at h ⊢; exact h
  | add x y ihx ihy => intro b h; cases b <;> simp [Tk.enc] at h ⊢; exact ⟨ihx _ h.1, ihy _ h.2⟩
  | mul x y ihx ihy => intro b h; cases b <;> simp [Tk.enc] at h ⊢; exact ⟨ihx _ h.1, ihy _ h.2⟩
  | cond x y z ihx ihy ihz => intro b h; cases b <;> simp [Tk.enc] at h ⊢; exact ⟨ihx _ h.1, ihy _ h.2.1, ihz _ h.2.2⟩
  | ix n x ih => intro b h; cases b <;> simp [Tk.enc] at h ⊢; exact ⟨h.1, ih _ h.2⟩
theorem Tk.map_inj : ∀ (a b : List Tk), a.map Tk.enc = b.map Tk.enc → a = b := by
  intro a
  induction a with
  | nil => intro b h; cases b with | nil => rfl | cons y b => simp at h
  | cons x a ih =>
    intro b h
    cases b with
    | nil => simp at h
    | cons y b =>
      simp only [List.map_cons, List.cons.injEq] at h
      rw [Tk.enc_inj _ _ h.1, ih _ h.2]
theorem allL_len {S : Sh} : ∀ (ks : List Int) (st : MkSt) (out : List Int), (allL S ks st out).1.length ≤ out.length + ks.length := by
  intro ks
  induction ks with
  | nil => intro st out; simp [allL]
  | cons k ks ih =>
    intro st out
    rw [allL]
    split
    · have := ih (keyP S S.made.length st k).2 (out ++ [(keyP S S.made.length st k).1.1])
      simp at this ⊢; omega
    · simp
theorem buildAll_len {S : Sh} (hS : S.Ok) : (buildAllP S).1.length ≤ 10 := by
  have h1 := allL_len (S := S) (keysN S.made.length) st0 []
  rw [keysN_length] at h1
  have := hS.ten
  unfold buildAllP
  simp at h1; omega
/-- the program's OrderSuspend and the reference's, on any sheet, inputs and keys -/
def SuspC (g : Nat) (made : List Bool) (tasks : List Task) (x1 x2 : List Int) (R : List Int × Bool) : Prop :=
  ∀ (w : World) (Am At : Option Addr) (cm ct : Nat) (A1 : Option Addr) (c1 : Nat) (A2 : Option Addr) (c2 : Nat) (B : Nat) (w0 : World), Below B w0 w → B ≤ w.heap.size → SheetAt B w0 Am cm At ct made tasks → IntsAt B w0 A1 x1 → x1.length ≤ c1 → c1 ≤ maxLen → IntsAt B w0 A2 x2 → x2.length ≤ c2 → c2 ≤ maxLen →
    Calls Try.prog g #[.agg #[.slice Am made.length cm, .slice At tasks.length ct], .slice A1 x1.length c1, .slice A2 x2.length c2] w (fun e w' => GivesList R e w w')
def SuspO (g : Nat) (made : List Bool) (tasks : List Task) (x1 x2 : List Int) (R : List Int × Bool) : Prop :=
  ∀ (w : World) (Am At : Option Addr) (cm ct : Nat) (A1 : Option Addr) (c1 : Nat) (A2 : Option Addr) (c2 : Nat) (B : Nat) (w0 : World), Below B w0 w → B ≤ w.heap.size → SheetAt B w0 Am cm At ct made tasks → IntsAt B w0 A1 x1 → x1.length ≤ c1 → c1 ≤ maxLen → IntsAt B w0 A2 x2 → x2.length ≤ c2 → c2 ≤ maxLen →
    Calls Try.prog g #[.agg #[.slice Am made.length cm, .slice At tasks.length ct], .slice A1 x1.length c1, .slice A2 x2.length c2] w (fun e w' => GivesOwn w.heap.size R e w w')
theorem SuspO.list {g : Nat} {made : List Bool} {tasks : List Task} {x1 x2 : List Int} {R : List Int × Bool} (h : SuspO g made tasks x1 x2 R) : SuspC g made tasks x1 x2 R :=
  fun w Am At cm ct A1 c1 A2 c2 B w0 hb hB hs hi hl hc hi2 hl2 hc2 => (h w Am At cm ct A1 c1 A2 c2 B w0 hb hB hs hi hl hc hi2 hl2 hc2).mono fun _ _ h => h.list
/-- what is known of a result: of what it is, and when -/
structure SuspFact (made : List Bool) (tasks : List Task) (x1 x2 : List Int) (R : List Int × Bool) : Prop where
  get : R.2 = true → ∃ tks, tasks = tks.map Tk.enc ∧ Sh.Ok ⟨made, tks, x1⟩ ∧ keysOk made.length x2 = true ∧ R = suspP ⟨made, tks, x1⟩ x2
  is : ∀ tks, tasks = tks.map Tk.enc → Sh.Ok ⟨made, tks, x1⟩ → keysOk made.length x2 = true → R = suspP ⟨made, tks, x1⟩ x2
structure AllFact (made : List Bool) (tasks : List Task) (x1 : List Int) (R : List Int × Bool) : Prop where
  get : R.2 = true → ∃ tks, tasks = tks.map Tk.enc ∧ Sh.Ok ⟨made, tks, x1⟩ ∧ R = buildAllP ⟨made, tks, x1⟩
  is : ∀ tks, tasks = tks.map Tk.enc → Sh.Ok ⟨made, tks, x1⟩ → R = buildAllP ⟨made, tks, x1⟩
theorem Sh.Ok.takes {made : List Bool} {tks : List Tk} {x1 : List Int} (h : Sh.Ok ⟨made, tks, x1⟩) : takesOk made.length x1 = true := by
  have h1 := h.ins
  have h2 := h.vals
  simp only at h1 h2
  simp [takesOk, h1, vals_iff.2 h2]
theorem susp_any (made : List Bool) (tasks : List Task) (x1 x2 : List Int) (hnod : ∀ T ∈ tasks, nodes T ≤ 1000000000) (hml : (made.length : Int) ≤ 9223372036854775807) :
    ∃ R : List Int × Bool, R.1.length ≤ 10 ∧ SuspFact made tasks x1 x2 R ∧
      SuspC 25 made tasks x1 x2 R ∧ SuspO 26 made tasks x1 x2 R := by
  by_cases hgood : sheetOk made tasks = true ∧ takesOk made.length x1 = true ∧ keysOk made.length x2 = true
  · obtain ⟨h1, h2, h3⟩ := hgood
    obtain ⟨tks, rfl, hS⟩ := ok_sh h1 h2
    refine ⟨suspP ⟨made, tks, x1⟩ x2, suspL_length hS x2 st0 (inv0 _), ⟨fun _ => ⟨tks, rfl, hS, h3, rfl⟩, fun tks2 he _ _ => by rw [Tk.map_inj _ _ he]⟩, fun w Am At cm ct A1 c1 A2 c2 B w0 hb hB hs hi hl hc hi2 hl2 hc2 => ?_, fun w Am At cm ct A1 c1 A2 c2 B w0 hb hB hs hi hl hc hi2 hl2 hc2 => ?_⟩
    · have := orderSuspend_good ⟨Am, cm, At, ct, A1, c1, B, w0⟩ ⟨made, tks, x1⟩ ⟨hs, hi, hl, hc, hS⟩ A2 c2 x2 w hb hB h3 hi2 (Nat.le_trans hl2 hc2)
      simp only [List.length_map]
      exact this.mono fun _ _ h => h.list
    · have := specOrderSuspend_good ⟨Am, cm, At, ct, A1, c1, B, w0⟩ ⟨made, tks, x1⟩ ⟨hs, hi, hl, hc, hS⟩ hnod A2 c2 x2 w hb hB h3 hi2 (Nat.le_trans hl2 hc2)
      simp only [List.length_map]
      exact this
  · refine ⟨([], false), by simp, ⟨fun h => (by cases h), fun tks he hS hk => (hgood ⟨by rw [he]; exact hS.sheet, hS.takes, hk⟩).elim⟩, fun w Am At cm ct A1 c1 A2 c2 B w0 hb hB hs hi hl hc hi2 hl2 hc2 => ?_, fun w Am At cm ct A1 c1 A2 c2 B w0 hb hB hs hi hl hc hi2 hl2 hc2 => ?_⟩
    · refine (orderSuspend_bad Am At A1 A2 cm ct c1 c2 made tasks x1 x2 B w0 w hs hi (Nat.le_trans hl hc) hi2 (Nat.le_trans hl2 hc2) hb hB (fun a b => ?_)).mono ?_
      · cases h : keysOk made.length x2 with
        | false => rfl
        | true => exact (hgood ⟨a, b, h⟩).elim
      · rintro e w' ⟨rfl, hb⟩
        exact ⟨none, 0, rfl, Nat.le_refl _, by simp [maxLen], RowAt.nil _ _ _ _, hb⟩
    · refine (specOrderSuspend_bad Am At A1 A2 cm ct c1 c2 made tasks x1 x2 B w0 w hs hnod hml hi (Nat.le_trans hl hc) hi2 (Nat.le_trans hl2 hc2) hb hB (fun a => ?_))
      unfold inputsOk at a
      rw [Bool.and_eq_true] at a
      cases h : keysOk made.length x2 with
      | false => rfl
      | true => exact (hgood ⟨a.1, a.2, h⟩).elim

/-- a call of BuildAll, OrderTopo, OrderFits -/
def AllC (g : Nat) (made : List Bool) (tasks : List Task) (x1 : List Int) (R : List Int × Bool) : Prop :=
  ∀ (w : World) (Am At : Option Addr) (cm ct : Nat) (A1 : Option Addr) (c1 : Nat) (B : Nat) (w0 : World), Below B w0 w → B ≤ w.heap.size → SheetAt B w0 Am cm At ct made tasks → IntsAt B w0 A1 x1 → x1.length ≤ c1 → c1 ≤ maxLen →
    Calls Try.prog g #[.agg #[.slice Am made.length cm, .slice At tasks.length ct], .slice A1 x1.length c1] w (fun e w' => GivesList R e w w')
theorem GivesRow.list {r : List Int × Bool} {e : Ending} {w w' : World} (h : GivesRow r e w w') : GivesList r e w w' := GivesOwn.list (B := w.heap.size) h
theorem all_any (made : List Bool) (tasks : List Task) (x1 : List Int) :
    ∃ R : List Int × Bool, R.1.length ≤ 10 ∧ AllFact made tasks x1 R ∧ AllC 27 made tasks x1 R := by
  by_cases hgood : sheetOk made tasks = true ∧ takesOk made.length x1 = true
  · obtain ⟨h1, h2⟩ := hgood
    obtain ⟨tks, rfl, hS⟩ := ok_sh h1 h2
    refine ⟨buildAllP ⟨made, tks, x1⟩, ?_, ⟨fun _ => ⟨tks, rfl, hS, rfl⟩, fun tks2 he _ => by rw [Tk.map_inj _ _ he]⟩, fun w Am At cm ct A1 c1 B w0 hb hB hs hi hl hc => ?_⟩
    · exact buildAll_len hS
    · have := buildAll_good ⟨Am, cm, At, ct, A1, c1, B, w0⟩ ⟨made, tks, x1⟩ ⟨hs, hi, hl, hc, hS⟩ w hb hB
      simp only [List.length_map]
      exact this.mono fun _ _ h => h.list
  · have hbad : sheetOk made tasks = true → takesOk made.length x1 = false := fun a => by
      cases h : takesOk made.length x1 with
      | false => rfl
      | true => exact (hgood ⟨a, h⟩).elim
    refine ⟨([], false), by simp, ⟨fun h => (by cases h), fun tks he hS => (hgood ⟨by rw [he]; exact hS.sheet, hS.takes⟩).elim⟩, fun w Am At cm ct A1 c1 B w0 hb hB hs hi hl hc => ?_⟩
    refine (buildAll_bad Am At A1 cm ct c1 made tasks x1 B w0 w hs hi (Nat.le_trans hl hc) hb hB hbad).mono ?_
    rintro e w' ⟨rfl, hb⟩
    exact ⟨none, 0, rfl, Nat.le_refl _, by simp [maxLen], RowAt.nil _ _ _ _, hb⟩
theorem topo_any (made : List Bool) (tasks : List Task) (keys : List Int) (hkl : keys.length ≤ maxLen) :
    ∃ R : List Int × Bool, R.1.length ≤ 10 ∧ (R.2 = true → safeP made tasks = true ∧ ∀ k, k ∈ R.1 ↔ Reach (mkK made) (mayS made tasks) keys k) ∧ AllC 21 made tasks keys R := by
  by_cases hgood : safeP made tasks = true ∧ keysOk made.length keys = true
  · obtain ⟨hsafe, hko⟩ := hgood
    let X0 : Int → Bool := fun k => @decide (Reach (mkK made) (mayS made tasks) keys k) (Classical.propDecidable _)
    have hX0 : ∀ k, X0 k = true ↔ Reach (mkK made) (mayS made tasks) keys k := fun k => by
      show @decide _ (Classical.propDecidable _) = true ↔ _
      exact @decide_eq_true_iff _ (Classical.propDecidable _)
    have hsame : ∀ X : Int → Bool, (∀ k, X k = true ↔ Reach (mkK made) (mayS made tasks) keys k) → X = X0 := fun X hX => funext fun k => Bool.eq_iff_iff.2 ((hX k).trans (hX0 k).symm)
    obtain ⟨t1, t2, t3⟩ := safe_topo hsafe hX0
    have hok : sheetOk made tasks = true := by unfold safeP at hsafe; rw [Bool.and_eq_true] at hsafe; exact hsafe.1
    simp only [sheetOk, Bool.and_eq_true, decide_eq_true_eq] at hok
    have hten : made.length ≤ 10 := hok.1.2
    refine ⟨topoP X0 (mayS made tasks) made.length (cntN X0 made.length) [], by rw [t3]; exact Nat.le_trans (cntN_le _ _) hten, fun _ => ⟨hsafe, fun k => ⟨fun hk => (hX0 k).1 (t2.sub k hk).2.2, fun hk => ?_⟩⟩, fun w Am At cm ct A1 c1 B w0 hb hB hs hi hl hc => ?_⟩
    · have hr := mkK_range (show mkK made k ≠ false by rw [hk.isMade]; simp)
      obtain ⟨q, rfl⟩ := Int.eq_ofNat_of_zero_le hr.1
      exact (sub_cnt t2.nodup t2.sub).2 t3 q (by omega) ((hX0 _).2 hk)
    · refine (orderTopo_good Am At A1 cm ct c1 made tasks keys B w0 w hb hB hs hsafe hi hkl hko).mono ?_
      rintro e w' ⟨X, hX, h⟩
      rw [hsame X hX] at h; exact h.list
  · have hbad : safeP made tasks = true → keysOk made.length keys = false := fun a => by
      cases h : keysOk made.length keys with
      | false => rfl
      | true => exact (hgood ⟨a, h⟩).elim
    refine ⟨([], false), by simp, fun h => (by cases h), fun w Am At cm ct A1 c1 B w0 hb hB hs hi hl hc => ?_⟩
    refine (orderTopo_bad Am At A1 cm ct c1 made tasks keys B w0 w hb hB hs hi hkl hbad).mono ?_
    rintro e w' ⟨rfl, hb⟩
    exact ⟨none, 0, rfl, Nat.le_refl _, by simp [maxLen], RowAt.nil _ _ _ _, hb⟩
def FitsC (g : Nat) (made : List Bool) (tasks : List Task) (x1 x2 : List Int) (r : Bool) : Prop :=
  ∀ (w : World) (Am At : Option Addr) (cm ct : Nat) (A1 : Option Addr) (c1 : Nat) (A2 : Option Addr) (c2 : Nat) (B : Nat) (w0 : World), Below B w0 w → B ≤ w.heap.size → SheetAt B w0 Am cm At ct made tasks → IntsAt B w0 A1 x1 → x1.length ≤ c1 → c1 ≤ maxLen → IntsAt B w0 A2 x2 → x2.length ≤ c2 → c2 ≤ maxLen →
    Calls Try.prog g #[.agg #[.slice Am made.length cm, .slice At tasks.length ct], .slice A1 x1.length c1, .slice A2 x2.length c2] w (fun e w' => e = .returned (.bool r) ∧ Below w.heap.size w w')
theorem fits_any {made : List Bool} {tks : List Tk} {x1 : List Int} (hS : Sh.Ok ⟨made, tks, x1⟩) (x2 : List Int) :
    FitsC 16 made (tks.map Tk.enc) x1 x2 (orderFitsP ⟨made, tks, x1⟩ x2) := by
  intro w Am At cm ct A1 c1 A2 c2 B w0 hb hB hs hi hl hc hi2 hl2 hc2
  have := orderFits_good ⟨Am, cm, At, ct, A1, c1, B, w0⟩ ⟨made, tks, x1⟩ ⟨hs, hi, hl, hc, hS⟩ A2 c2 x2 w hb hB hi2 hl2 hc2
  simp only [List.length_map]
  exact this
end Go.Proofs.Ytpccgdkidnkppaa

set_option linter.unusedVariables false
set_option linter.unusedSimpArgs false
namespace Go.Proofs.Ytpccgdkidnkppaa
open Go Go.RowKit

set_option maxHeartbeats 4000000 in
theorem l91Keys_calls (R : RdEnv) (hR : R.Good) (p : Nat) (hp : p + 100 ≤ 1000000) (Am At : Option Addr) (nm cm nt ct : Nat) (w : World) (h : RdAt R p w) (hn : nm ≤ 20) :
    Calls Try.prog 69 #[.pointer (some ⟨R.g, 0, none⟩), .agg #[.slice Am nm cm, .slice At nt ct]] w (DrawIn R p 100 4 w) := by
  have hs : InSt R w (.slice Am nm cm) (.slice At nt ct) p [] (.slice (some ⟨w.heap.size + 1, 0, none⟩) 0 0) ((w.alloc (.cells #[.slice Am nm cm, .slice At nt ct] 31 (0, 0))).alloc (.cells #[] 3 (0, 0))) :=
    ⟨h.up (below_al (below_al (Below.refl _ _) _) _), ((Turn.refl _ _).alloc _).alloc _, by simpa [ints] using World.ownsRow_made (base := w.heap.size) (w.alloc (.cells #[.slice Am nm cm, .slice At nt ct] 31 (0, 0))) #[] 0 (by simp) (by simp [maxLen]) rfl, (heap_old (by simp)).trans (heap_new rfl), block_lt h.blk, h.size⟩
  have h1 := pick_calls R hR p (by omega) 3 _ hs.rd
  replace h1 := Lib.hid h1
  replace hs := Lib.hid hs
  clear h
  go_enter Try.func69, Try.ntmps69
  go_wp2_with fail
  refine h1.out.mono ?_
  rintro e w1 ⟨k, rfl, hk0, hk1, hr, ht⟩
  obtain ⟨q, rfl⟩ := Int.eq_ofNat_of_zero_le hk0
  have hq3 : q < 3 := by omega
  have hs1 := hs.out.step hr ht
  replace hs1 := Lib.hid hs1
  clear h1 hs hr ht hk1 hk0
  go_wp2_with fail
  go_loopw [5, 6] (fun o i wr => ∃ (t : Nat) (xs : List Int) (p2 : Nat), t ≤ 3 ∧ xs.length + t ≤ 3 ∧ p2 + t ≤ p + 4 ∧ p ≤ p2 ∧ i = .int .i64 t ∧ Hid (InSt R w (.slice Am nm cm) (.slice At nt ct) p2 xs o wr)) (fun _ i _ => (intOf i).toNat)
  case atStart => exact ⟨1 + q, [], p + 1, by omega, by simp; omega, by omega, by omega, by go_num, hs1⟩
  case round =>
    obtain ⟨t, xs, p2, ht3, hlen, hp2, hpp, rfl, hL⟩ := hrel
    have b0 : wr.cell? ⟨w.heap.size, 0, none⟩ = some (.slice Am nm cm) := cellm hL.out.box 0
    have hz := block_lt hL.out.box
    by_cases hgo : 0 < t ∧ 0 < nm
    · obtain ⟨ht0, hnm0⟩ := hgo
      have hc := pick_calls R hR p2 (by omega) nm wr.drew (hL.out.rd.up (Below.refl _ _).drew)
      have hwz := hL.out.turn.size
      replace hc := Lib.hid hc
      go_wp2_with fail
      go_region_held3 (fun w' => w'.cell? ⟨w.heap.size, 0, none⟩ = some (.slice Am nm cm)) (first | exact k4 | exact k0 | exact (cell_al hz2).trans k0 | exact b0)
        (first
          | ((with_reducible refine step_app1 (by rfl) (.tmp 21) (.tmp 33) 26 (by rfl) intTy w.heap.size u5 xs.length (ints xs) (by with_unfolding_all rfl) (hL2.out.own.alloc _) w2.heap.size 1 [.int .i64 _] (by with_unfolding_all rfl) (by with_unfolding_all rfl) ⟨_, _, heap_alloc_new w2 _, rfl⟩ (one_int _ _) ?_ ?_ ?_ ?_); (unfold maxLen; omega); (omega); (simp; omega); intro g cap w4 hown hgrow hat; have k4 : w4.cell? ⟨w.heap.size, 0, none⟩ = some (.slice Am nm cm) := cellm (hL2.out.app hgrow hown (v' := .slice (some ⟨g, 0, none⟩) (xs.length + 1) cap)).box 0)
          | (go_at_call 70; refine hc.out.mono ?_; rintro e w2 ⟨x, rfl, hx0, hx1, hr2, ht2⟩; have hL2 := (hL.out.step (hL.out.rd.up (Below.refl _ _).drew) (Turn.refl _ _).drew).step hr2 ht2; have k0 : w2.cell? ⟨w.heap.size, 0, none⟩ = some (.slice Am nm cm) := cellm hL2.box 0; have hwz2 := hL2.turn.size; have hz2 := block_lt hL2.box; replace hL2 := Lib.hid hL2))
      all_goals
        have hL4 := hL2.out.app (v' := .slice (some ⟨g, 0, none⟩) (xs.length + 1) cap) hgrow hown
        replace hL4 := Lib.hid hL4
        clear hown hgrow hat hL hL2 k0 k4 b0
        go_wp2_with fail
        go_roundw
        case rel => exact ⟨t - 1, _, p2 + 1, by omega, by simp; omega, by omega, by omega, by go_num, hL4⟩
        case measure => simp [intOf]; omega
    · have hc := pick_calls R hR p2 (by omega) 25 wr hL.out.rd
      replace hc := Lib.hid hc
      have hcase : (¬ 0 < t) ∨ (0 < t ∧ ¬ 0 < nm) := by
        by_cases h : 0 < t
        · exact .inr ⟨h, fun h2 => hgo ⟨h, h2⟩⟩
        · exact .inl h
      clear hgo
      rcases hcase with hq1 | ⟨hq1, hq2⟩
      all_goals
        go_wp2_with fail
        refine hc.out.mono ?_
        rintro e w2 ⟨x, rfl, hx0, hx1, hr2, ht2⟩
        have hL2 := hL.out.step hr2 ht2
        have hwz2 := hL2.turn.size
        clear hc hr2 ht2 hL b0 hz
        replace hL2 := Lib.hid hL2
        by_cases hx : x = 0
        · subst hx
          have hL3 := hL2.out.alloc (.cells #[.int .i64 (-1), .int .i64 10, .int .i64 9] 3 (0, 0))
          have hnum := l91Num_calls R hR (p2 + 1) (by omega) w2.heap.size 3 [-1, 10, 9] _ hL3.rd (by simp) (by simp) (by omega) (by simp) (by have h1 := hL2.out.glt; have h2 := hL2.out.turn.size; omega)
            (by intro i hi; rw [cellm (heap_new rfl) i]; rcases (show i = 0 ∨ i = 1 ∨ i = 2 by simp at hi; omega) with rfl | rfl | rfl <;> rfl)
          replace hL3 := Lib.hid hL3
          replace hnum := Lib.hid hnum
          clear hL2
          go_wp2_with fail
          refine hnum.out.mono ?_
          rintro e w3 ⟨x3, rfl, _, hr3, ht3⟩
          have hL4 := hL3.out.step hr3 ht3
          replace hL4 := Lib.hid hL4
          clear hL3 hnum hr3 ht3
          go_wp2_with (at_builtin; go_loud (with_reducible refine wpList_app1 (by rfl) (.tmp 38) (.tmp 42) 26 (by rfl) intTy w.heap.size u5 xs.length (ints xs) (by with_unfolding_all rfl) (hL4.out.own.alloc _) w3.heap.size 1 [.int .i64 x3] (by with_unfolding_all rfl) (by with_unfolding_all rfl) ⟨_, _, heap_alloc_new w3 _, rfl⟩ (one_int _ _) ?_ ?_ ?_ ?_))
          · unfold maxLen; omega
          · omega
          · have := hL4.out.turn.size; simp; omega
          intro g cap w4 hown hgrow hat
          have hL5 := hL4.out.app (x := x3) (v' := .slice (some ⟨g, 0, none⟩) (xs.length + 1) cap) hgrow hown
          replace hL5 := Lib.hid hL5
          clear hown hgrow hat hL4
          go_wp2_with fail
          go_ret
          exact ⟨p2 + 1 + 1, xs ++ [x3], _, rfl, by simp; omega, by omega, by omega, hL5.out.rd, hL5.out.turn, hL5.out.own⟩
        · have hx' : (x == 0) = false := by simp [hx]
          go_wp2_with fail
          go_ret
          exact ⟨p2 + 1, xs, u5, rfl, by omega, by omega, by omega, hL2.out.rd, hL2.out.turn, hL2.out.own⟩
end Go.Proofs.Ytpccgdkidnkppaa

set_option linter.unusedVariables false
set_option linter.unusedSimpArgs false
namespace Go.Proofs.Ytpccgdkidnkppaa
open Go Go.RowKit

/-! a world without its blocks below lo: what is read there lies in blocks from lo on -/
def mask (lo : Nat) (w : World) : World := { w with heap := w.heap.mapIdx fun i o => if i < lo then .map #[] 0 else o }
@[simp] theorem mask_size (lo : Nat) (w : World) : (mask lo w).heap.size = w.heap.size := by simp [mask]
theorem mask_heap (lo : Nat) (w : World) (i : Nat) : (mask lo w).heap[i]? = w.heap[i]?.map fun o => if i < lo then .map #[] 0 else o := by
  simp [mask, Array.getElem?_mapIdx]
theorem mask_hi {lo i : Nat} (w : World) (h : lo ≤ i) : (mask lo w).heap[i]? = w.heap[i]? := by
  rw [mask_heap]
  cases e : w.heap[i]? with
  | none => rfl
  | some o => simp [show ¬ i < lo by omega]
theorem mask_cell {lo : Nat} {w : World} {b o : Nat} {v : Value} (h : (mask lo w).cell? ⟨b, o, none⟩ = some v) : w.cell? ⟨b, o, none⟩ = some v := by
  by_cases hb : b < lo
  · unfold World.cell? at h
    rw [mask_heap] at h
    cases e : w.heap[b]? with
    | none => simp [e] at h
    | some ob => simp [e, hb] at h
  · exact (World.cell?_of_block (w := w) (mask_hi (lo := lo) (i := b) w (by omega))).symm.trans h
theorem mask_below {lo B : Nat} {w w' : World} (ho : w'.os = w.os) (ht : w'.tape = w.tape) (hp : w'.output = w.output) (hs : w.heap.size ≤ w'.heap.size) (hB : B ≤ w.heap.size) (h : ∀ i, lo ≤ i → i < B → w'.heap[i]? = w.heap[i]?) : Below B (mask lo w) (mask lo w') := by
  refine ⟨ho, ht, hp, by simpa using hs, fun k hk => ?_⟩
  by_cases e : k < lo
  · rw [mask_heap, mask_heap]
    have h1 : k < w.heap.size := by omega
    have h2 : k < w'.heap.size := by omega
    rw [Array.getElem?_eq_getElem h1, Array.getElem?_eq_getElem h2]
    simp [e]
  · rw [mask_hi _ (by omega), mask_hi _ (by omega)]
    exact h k (by omega) hk
theorem mask_turn {F F' : Nat → Prop} {lo : Nat} {w w' : World} (t : Turn F F' w w') (hF : ∀ i, F i → i < lo) : Below w.heap.size (mask lo w) (mask lo w') :=
  mask_below t.os t.tape t.output t.size (Nat.le_refl _) fun i hi hs => t.block i hs fun hf => by have := hF i hf; omega
theorem mask_up {lo : Nat} {w w' : World} (t : Below w.heap.size w w') : Below w.heap.size (mask lo w) (mask lo w') :=
  mask_below t.os t.tape t.output t.size (Nat.le_refl _) fun i hi hs => t.block i hs
theorem mask_set {lo b : Nat} (w : World) (h : b < lo) (o : Nat) (v : Value) : Below w.heap.size (mask lo w) (mask lo (w.setCell ⟨b, o, none⟩ v)) :=
  mask_below rfl rfl rfl (by simp) (Nat.le_refl _) fun i hi hs => setCell_far (by omega)
theorem mask_less {lo lo' : Nat} (w : World) (h : lo' ≤ lo) {b o : Nat} {v : Value} (hc : (mask lo w).cell? ⟨b, o, none⟩ = some v) : (mask lo' w).cell? ⟨b, o, none⟩ = some v := by
  by_cases hb : b < lo
  · unfold World.cell? at hc
    rw [mask_heap] at hc
    cases e : w.heap[b]? with
    | none => simp [e] at hc
    | some ob => simp [e, hb] at hc
  · rw [World.cell?_of_block (w := w) (mask_hi (lo := lo') (i := b) w (by omega))]
    exact mask_cell hc

theorem RowAt.imp {α : Type} {f : α → Value} {B B' : Nat} {w w' : World} {A : Option Addr} {xs : List α} (h : RowAt f B w A xs) (hB : B ≤ B') (hw : ∀ b o v, b < B → w.cell? ⟨b, o, none⟩ = some v → w'.cell? ⟨b, o, none⟩ = some v) : RowAt f B' w' A xs := by
  intro i hi
  obtain ⟨b, o, e, hlt, hc⟩ := h i hi
  exact ⟨b, o, e, by omega, hw _ _ _ hlt hc⟩
mutual
theorem TaskIs.imp {B B' : Nat} {w0 w : World} (hB : B ≤ B') (hw : ∀ b o v, b < B → w0.cell? ⟨b, o, none⟩ = some v → w.cell? ⟨b, o, none⟩ = some v) : ∀ (t : Task) (v : Value), TaskIs B w0 v t → TaskIs B' w v t
  | .mk k n ps, v, h => by
    rw [TaskIs] at h ⊢
    obtain ⟨A, c, e, hc, hm, hp⟩ := h
    exact ⟨A, c, e, hc, hm, PartsIs.imp hB hw ps A 0 hp⟩
theorem PartsIs.imp {B B' : Nat} {w0 w : World} (hB : B ≤ B') (hw : ∀ b o v, b < B → w0.cell? ⟨b, o, none⟩ = some v → w.cell? ⟨b, o, none⟩ = some v) : ∀ (ps : List Task) (A : Option Addr) (i : Nat), PartsIs B w0 A i ps → PartsIs B' w A i ps
  | [], A, i, _ => by rw [PartsIs]; trivial
  | t :: ts, A, i, h => by
    rw [PartsIs] at h ⊢
    obtain ⟨⟨b, o, x, y, z, e, hlt, hx, hy, hz, ht⟩, hts⟩ := h
    exact ⟨⟨b, o, x, y, z, e, by omega, hw _ _ _ hlt hx, hw _ _ _ hlt hy, hw _ _ _ hlt hz, TaskIs.imp hB hw t _ ht⟩, PartsIs.imp hB hw ts A (i + 1) hts⟩
end
theorem SheetAt.imp {B B' : Nat} {w w' : World} {Am At : Option Addr} {cm ct : Nat} {made : List Bool} {tasks : List Task} (h : SheetAt B w Am cm At ct made tasks) (hB : B ≤ B') (hw : ∀ b o v, b < B → w.cell? ⟨b, o, none⟩ = some v → w'.cell? ⟨b, o, none⟩ = some v) : SheetAt B' w' Am cm At ct made tasks :=
  ⟨h.lm, h.mm, h.lt, h.mt, h.made.imp hB hw, PartsIs.imp hB hw _ _ _ h.tasks⟩
theorem SheetAt.up {B B' : Nat} {w w' : World} {Am At : Option Addr} {cm ct : Nat} {made : List Bool} {tasks : List Task} (h : SheetAt B w Am cm At ct made tasks) (hb : Below B w w') (hB : B ≤ B') : SheetAt B' w' Am cm At ct made tasks :=
  h.imp hB fun b o v hlt hc => (hb.cell (p := ⟨b, o, none⟩) hlt).trans hc
theorem SheetAt.unmask {lo B : Nat} {w : World} {Am At : Option Addr} {cm ct : Nat} {made : List Bool} {tasks : List Task} (h : SheetAt B (mask lo w) Am cm At ct made tasks) : SheetAt B w Am cm At ct made tasks :=
  h.imp (Nat.le_refl _) fun b o v _ hc => mask_cell hc
theorem RowAt.unmask {α : Type} {f : α → Value} {lo B : Nat} {w : World} {A : Option Addr} {xs : List α} (h : RowAt f B (mask lo w) A xs) : RowAt f B w A xs := h.imp (Nat.le_refl _) fun b o v _ hc => mask_cell hc

section
variable {g B lo : Nat} {G : Rows} {made : List Bool} {ts : List (Value × Value × Value)} {vm vt : Value} {w : World}
theorem Sht.mask (h : Sht g B lo G made ts vm vt w) : Sht g B lo G made ts vm vt (mask lo w) :=
  ⟨ownsRow_block h.om (fun i hi => mask_hi w (h.om.lt i hi).1), ownsRow_block h.ot (fun i hi => mask_hi w (h.ot.lt i hi).1),
   fun b r m hb => by
     obtain ⟨h1, h2, cs, h3, h4⟩ := h.ty b r m hb
     exact ⟨h1, h2, cs, (mask_hi w (h.new b _ hb)).trans h3, h4⟩,
   h.tv, h.sep, h.new, h.glo⟩
/-- a drawn sheet, read in blocks from lo on -/
theorem Sht.readsM (h : Sht g B lo G made ts vm vt w) : ∃ Am cm At ct tasks, vm = .slice Am made.length cm ∧ vt = .slice At tasks.length ct ∧ tasks.length = ts.length ∧ SheetAt w.heap.size (Go.Proofs.Ytpccgdkidnkppaa.mask lo w) Am cm At ct made tasks ∧ ∀ T ∈ tasks, nodes T ≤ 13 := by
  obtain ⟨Am, cm, At, ct, tasks, h1, h2, h3, h4, h5⟩ := h.mask.reads
  exact ⟨Am, cm, At, ct, tasks, h1, h2, h3, by simpa using h4, fun T hT => by have := h5 T hT; simpa [nb] using this⟩
end
theorem rowM {w : World} {base lo : Nat} {e : TypeId} {v : Value} {xs : List Int} (h : w.ownsRow base e 1 v xs.length (ints xs)) (hl : lo ≤ base) : ∃ A c, v = .slice A xs.length c ∧ xs.length ≤ c ∧ c ≤ maxLen ∧ IntsAt w.heap.size (mask lo w) A xs := by
  obtain ⟨A, c, h1, h2, h3, h4⟩ := ownsRow_ints (ownsRow_block (w' := mask lo w) h (fun i hi => mask_hi w (by have := (h.lt i hi).1; omega)))
  exact ⟨A, c, h1, h2, h3, by simpa using h4⟩

theorem SheetAt.grow {B B' : Nat} {w : World} {Am At : Option Addr} {cm ct : Nat} {made : List Bool} {tasks : List Task} (h : SheetAt B w Am cm At ct made tasks) (hB : B ≤ B') : SheetAt B' w Am cm At ct made tasks := h.up (Below.refl _ _) hB
theorem RowAt.grow {α : Type} {f : α → Value} {B B' : Nat} {w : World} {A : Option Addr} {xs : List α} (h : RowAt f B w A xs) (hB : B ≤ B') : RowAt f B' w A xs := h.up (Below.refl _ _) hB
/-! what draws of a sheet and rows of numbers bring -/
structure Args2 (w : World) (Am : Option Addr) (cm : Nat) (At : Option Addr) (ct : Nat) (made : List Bool) (tasks : List Task) (Ai : Option Addr) (ci : Nat) (inputs : List Int) (Ak : Option Addr) (ck : Nat) (keys : List Int) : Prop where
  base : ArgsAt w Am cm At ct made tasks Ai ci inputs
  keysAt : IntsAt w.heap.size w Ak keys
  klen : keys.length ≤ 10
  kcap : keys.length ≤ ck
  kmax : ck ≤ maxLen
def DrawTwoP (w : World) (e : Ending) (w' : World) : Prop :=
  ∃ Am cm At ct made tasks Ai ci inputs Ak ck keys, e = .returned (.tuple #[.agg #[.slice Am made.length cm, .slice At tasks.length ct], .slice Ai inputs.length ci, .slice Ak keys.length ck]) ∧ Args2 w' Am cm At ct made tasks Ai ci inputs Ak ck keys ∧ Below w.heap.size w w'
theorem drawTwo_done {lo : Nat} {w w4 : World} {Am At Ai Ak : Option Addr} {cm ct ci ck : Nat} {made : List Bool} {tasks : List Task} {xs ks : List Int} (hlo : w.heap.size < lo) (hS : SheetAt w4.heap.size (mask lo w4) Am cm At ct made tasks) (hI : IntsAt w4.heap.size (mask lo w4) Ai xs) (hK : IntsAt w4.heap.size (mask lo w4) Ak ks)
    (h1 : tasks.length = made.length) (h2 : made.length ≤ 8) (h3 : ∀ T ∈ tasks, nodes T ≤ 13) (h4 : xs.length ≤ 9) (h5 : xs.length ≤ ci) (h6 : ci ≤ maxLen) (h7 : ks.length ≤ 10) (h8 : ks.length ≤ ck) (h9 : ck ≤ maxLen) (hb : Below w.heap.size w w4) (x y : Value) :
    DrawTwoP w (.returned (.tuple #[.agg #[.slice Am made.length cm, .slice At tasks.length ct], .slice Ai xs.length ci, .slice Ak ks.length ck])) ((w4.setCell ⟨w.heap.size, 0, none⟩ x).setCell ⟨w.heap.size, 1, none⟩ y) := by
  have hm := (mask_set w4 hlo 0 x).trans ((mask_set (w4.setCell ⟨w.heap.size, 0, none⟩ x) hlo 1 y).mono (by simp))
  have hz : w4.heap.size ≤ ((w4.setCell ⟨w.heap.size, 0, none⟩ x).setCell ⟨w.heap.size, 1, none⟩ y).heap.size := by simp
  exact ⟨Am, cm, At, ct, made, tasks, Ai, ci, xs, Ak, ck, ks, rfl, ⟨⟨(hS.up hm hz).unmask, (hI.up hm hz).unmask, h1, h2, h3, h4, h5, h6⟩, (hK.up hm hz).unmask, h7, h8, h9⟩,
    (hb.setCell (p := ⟨w.heap.size, 0, none⟩) (Nat.le_refl _) x).setCell (p := ⟨w.heap.size, 1, none⟩) (Nat.le_refl _) y⟩
end Go.Proofs.Ytpccgdkidnkppaa

set_option linter.unusedVariables false
set_option linter.unusedSimpArgs false
namespace Go.Proofs.Ytpccgdkidnkppaa
open Go Go.RowKit

theorem rowTy : ElemTy Try.prog 52 26 (.slice none 0 0) 1 24 := ⟨Try.underlying52, by kernel_rfl, rfl, by omega⟩
theorem ownsRow_base {w : World} {base base2 : Nat} {e : TypeId} {size : Nat} {v : Value} {n : Nat} {xs : List Value} (h : w.ownsRow base2 e size v n xs) (hb : base ≤ base2) : w.ownsRow base e size v n xs := by
  refine ⟨h.1, ?_⟩
  rcases h.2 with hn | ⟨g, cap, cur, e1, hg, rest⟩
  · exact .inl hn
  · exact .inr ⟨g, cap, cur, e1, Nat.le_trans hb hg, rest⟩
/-- a row of rows of numbers, each in a block of its own -/
structure OwnRR (base H : Nat) (w : World) (v : Value) (vs : List Value) (ll : List (List Int)) : Prop where
  out : w.ownsRow base 26 1 v ll.length vs
  inn : ∀ i (h : i < vs.length) (h2 : i < ll.length), w.ownsRow base 3 1 vs[i] ll[i].length (ints ll[i])
  apart : ∀ i j (hi : i < vs.length) (hj : j < vs.length) (g : Nat), vs[i].ownBlock = some g → vs[j].ownBlock = some g → i = j
  sep : ∀ u ∈ vs, ∀ g : Nat, u.ownBlock = some g → v.ownBlock ≠ some g
  lt : ∀ u ∈ vs, ∀ g : Nat, u.ownBlock = some g → g < H
  vlt : ∀ g : Nat, v.ownBlock = some g → g < H
section
variable {base H H2 : Nat} {w w2 : World} {v v' x : Value} {vs : List Value} {ll : List (List Int)}
theorem OwnRR.len (h : OwnRR base H w v vs ll) : vs.length = ll.length := by have := h.out.1; omega
theorem OwnRR.mono (h : OwnRR base H w v vs ll) (hH : H ≤ H2) : OwnRR base H2 w v vs ll :=
  ⟨h.out, h.inn, h.apart, h.sep, fun u hu g hg => Nat.lt_of_lt_of_le (h.lt u hu g hg) hH, fun g hg => Nat.lt_of_lt_of_le (h.vlt g hg) hH⟩
theorem OwnRR.blocks (h : OwnRR base H w v vs ll) (hk : ∀ i, i < H → w2.heap[i]? = w.heap[i]?) : OwnRR base H w2 v vs ll :=
  ⟨ownsRow_block h.out fun i hi => hk i (h.vlt i hi), fun i h1 h2 => ownsRow_block (h.inn i h1 h2) fun g hg => hk g (h.lt _ (List.getElem_mem h1) g hg), h.apart, h.sep, h.lt, h.vlt⟩
theorem OwnRR.up (h : OwnRR base H w v vs ll) (hb : Below H w w2) (hH : H ≤ w.heap.size) : OwnRR base H w2 v vs ll := h.blocks fun i hi => hb.block i hi
theorem OwnRR.lower {base2 : Nat} (h : OwnRR base2 H w v vs ll) (hb : base ≤ base2) : OwnRR base H w v vs ll :=
  ⟨ownsRow_base h.out hb, fun i h1 h2 => ownsRow_base (h.inn i h1 h2) hb, h.apart, h.sep, h.lt, h.vlt⟩
theorem OwnRR.nil (w : World) (hv : w.ownsRow base 26 1 v 0 []) (hlt : ∀ g : Nat, v.ownBlock = some g → g < H) : OwnRR base H w v [] [] :=
  ⟨hv, fun i h => (by simp at h), fun i j hi => (by simp at hi), fun u hu => (by cases hu), fun u hu => (by cases hu), hlt⟩
theorem OwnRR.app {o : Obj} {g cap : Nat} {xs : List Int} (h : OwnRR base H w v vs ll) (hx : w.ownsRow H 3 1 x xs.length (ints xs)) (hbH : base ≤ H) (hH : H ≤ w.heap.size) (hg : (w.alloc o).grownBy w2 v.ownBlock)
    (ho : w2.ownsRow base 26 1 (.slice (some ⟨g, 0, none⟩) (ll.length + 1) cap) (ll.length + 1) (vs ++ [x])) (hat : v.ownBlock = some g ∨ g = (w.alloc o).heap.size) : OwnRR base w2.heap.size w2 (.slice (some ⟨g, 0, none⟩) (ll.length + 1) cap) (vs ++ [x]) (ll ++ [xs]) := by
  have hgl := ho.lt g rfl
  have hz2 : w.heap.size + 1 ≤ w2.heap.size := by have := hg.size; simpa using this
  have hxl := fun i hi => (hx.lt i hi)
  have hlen := h.len
  have hxg : ∀ b : Nat, x.ownBlock = some b → b ≠ g := by
    intro b hb e
    subst e
    rcases hat with e | e
    · have := h.vlt _ e; have := (hxl _ hb).1; omega
    · have := (hxl _ hb).2; simp at e; omega
  have hsg : ∀ u ∈ vs, ∀ b : Nat, u.ownBlock = some b → b ≠ g := by
    intro u hu b hb e
    subst e
    rcases hat with e | e
    · exact h.sep u hu _ hb e
    · have := h.lt u hu _ hb; simp at e; omega
  refine ⟨by simpa using ho, ?_, ?_, ?_, ?_, ?_⟩
  · intro i h1 h2
    by_cases e : i < ll.length
    · rw [List.getElem_append_left (by omega), List.getElem_append_left e]
      exact ownsRow_block (h.inn i (by omega) e) fun b hb => far_grown hg (by have := h.lt _ (List.getElem_mem _) b hb; omega) (h.sep _ (List.getElem_mem _) b hb)
    · have e2 : i = ll.length := by simp at h2; omega
      subst e2
      rw [List.getElem_append_right (by omega), List.getElem_append_right (by omega)]
      simp only [hlen, Nat.sub_self, List.getElem_cons_zero]
      have h3 := ownsRow_block (w' := w2) hx fun b hb => far_grown hg (hxl b hb).2 (fun e => by have := h.vlt b e; have := (hxl b hb).1; omega)
      exact ownsRow_base h3 hbH
  · intro i j hi hj b h1 h2
    by_cases ei : i < vs.length
    · by_cases ej : j < vs.length
      · rw [List.getElem_append_left ei] at h1
        rw [List.getElem_append_left ej] at h2
        exact h.apart i j ei ej b h1 h2
      · exfalso
        have e2 : j = vs.length := by simp at hj; omega
        subst e2
        rw [List.getElem_append_left ei] at h1
        rw [List.getElem_append_right (by omega)] at h2
        simp only [Nat.sub_self, List.getElem_cons_zero] at h2
        have := h.lt _ (List.getElem_mem ei) b h1; have := (hxl b h2).1; omega
    · have e1 : i = vs.length := by simp at hi; omega
      subst e1
      by_cases ej : j < vs.length
      · exfalso
        rw [List.getElem_append_left ej] at h2
        rw [List.getElem_append_right (by omega)] at h1
        simp only [Nat.sub_self, List.getElem_cons_zero] at h1
        have := h.lt _ (List.getElem_mem ej) b h2; have := (hxl b h1).1; omega
      · simp at hj; omega
  · intro u hu b hb e
    have e2 : g = b := by simpa [Value.ownBlock] using e
    subst e2
    rcases List.mem_append.1 hu with hu | hu
    · exact hsg u hu _ hb rfl
    · rw [List.mem_singleton.1 hu] at hb; exact hxg _ hb rfl
  · intro u hu b hb
    rcases List.mem_append.1 hu with hu | hu
    · have := h.lt u hu b hb; omega
    · rw [List.mem_singleton.1 hu] at hb; have := (hxl b hb).2; omega
  · intro b hb
    have e2 : g = b := by simpa [Value.ownBlock] using hb
    omega
end
/-- rows of numbers, to read -/
def RowsAt (B : Nat) (w : World) (A : Option Addr) (ll : List (List Int)) : Prop :=
  ∀ i (h : i < ll.length), ∃ (b o : Nat) (Ar : Option Addr) (cr : Nat), A = some ⟨b, o, none⟩ ∧ b < B ∧ w.cell? ⟨b, o + i, none⟩ = some (.slice Ar ll[i].length cr) ∧ ll[i].length ≤ cr ∧ cr ≤ maxLen ∧ IntsAt B w Ar ll[i]
theorem OwnRR.rows {base H : Nat} {w : World} {v : Value} {vs : List Value} {ll : List (List Int)} (h : OwnRR base H w v vs ll) : ∃ A c, v = .slice A ll.length c ∧ ll.length ≤ c ∧ c ≤ maxLen ∧ RowsAt w.heap.size w A ll := by
  obtain ⟨A, c, rfl, h1, h2, h3⟩ := ownsRow_cells h.out
  refine ⟨A, c, rfl, h1, h2, fun i hi => ?_⟩
  have hl := h.len
  obtain ⟨b, e, hb, hc⟩ := h3 i (by omega)
  obtain ⟨Ar, cr, e1, e2, e3, e4⟩ := ownsRow_ints (h.inn i (by omega) hi)
  exact ⟨b, 0, Ar, cr, e, hb, by rw [Nat.zero_add, hc, e1], e2, e3, e4⟩
theorem RowsAt.up {B B' : Nat} {w0 w : World} {A : Option Addr} {ll : List (List Int)} (h : RowsAt B w0 A ll) (hb : Below B w0 w) (hB : B ≤ B') : RowsAt B' w A ll := by
  intro i hi
  obtain ⟨b, o, Ar, cr, e, hlt, c1, c2, c3, c4⟩ := h i hi
  exact ⟨b, o, Ar, cr, e, by omega, (hb.cell (p := ⟨b, o + i, none⟩) hlt).trans c1, c2, c3, c4.up hb hB⟩
def GivesRR (R : List (List Int) × Bool) (e : Ending) (w w' : World) : Prop :=
  ∃ v vs, e = .returned (.tuple #[v, .bool R.2]) ∧ OwnRR w.heap.size w'.heap.size w' v vs R.1 ∧ Below w.heap.size w w'
end Go.Proofs.Ytpccgdkidnkppaa
