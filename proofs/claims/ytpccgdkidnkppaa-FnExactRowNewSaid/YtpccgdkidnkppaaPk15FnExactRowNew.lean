import Derived.Deep.RegionHeld3
import Derived.Deep.QuietTactic
import Derived.BigQuiet
import Derived.Test.YtpccgdkidnkppaaPk1FnExactRowNew
import Derived.Test.YtpccgdkidnkppaaPk8FnExactRowNew
import Derived.Test.YtpccgdkidnkppaaPk12FnExactRowNew
import Derived.Test.YtpccgdkidnkppaaPk13FnExactRowNew
import Derived.Test.YtpccgdkidnkppaaPk14FnExactRowNew
set_option linter.unusedVariables false
set_option linter.unusedSimpArgs false
namespace Go.Proofs.Ytpccgdkidnkppaa
open Go Go.RowKit

/-! rows of orders -/
abbrev Ordr := List Int × List Int
structure OrdIs (B : Nat) (w0 : World) (Ai : Option Addr) (ci : Nat) (Ak : Option Addr) (ck : Nat) (x : Ordr) : Prop where
  ia : IntsAt B w0 Ai x.1
  il : x.1.length ≤ ci
  im : ci ≤ maxLen
  ka : IntsAt B w0 Ak x.2
  kl : x.2.length ≤ ck
  km : ck ≤ maxLen
def OrdsAt (B : Nat) (w0 : World) (A : Option Addr) (l : List Ordr) : Prop :=
  ∀ i (h : i < l.length), ∃ (b o : Nat) (Ai : Option Addr) (ci : Nat) (Ak : Option Addr) (ck : Nat), A = some ⟨b, o, none⟩ ∧ b < B ∧
    w0.cell? ⟨b, o + i * 2, none⟩ = some (.slice Ai l[i].1.length ci) ∧ w0.cell? ⟨b, o + i * 2 + 1, none⟩ = some (.slice Ak l[i].2.length ck) ∧ OrdIs B w0 Ai ci Ak ck l[i]
theorem OrdsAt.at {B : Nat} {w0 w : World} {A : Option Addr} {l : List Ordr} (h : OrdsAt B w0 A l) (hb : Below B w0 w) (hB : B ≤ w.heap.size) (i : Nat) (hi : i < l.length) : ∃ (b o : Nat) (Ai : Option Addr) (ci : Nat) (Ak : Option Addr) (ck : Nat), A = some ⟨b, o, none⟩ ∧ b < w.heap.size ∧
    w.cell? ⟨b, o + i * 2, none⟩ = some (.slice Ai l[i].1.length ci) ∧ w.cell? ⟨b, o + i * 2 + 1, none⟩ = some (.slice Ak l[i].2.length ck) ∧ OrdIs B w0 Ai ci Ak ck l[i] := by
  obtain ⟨b, o, Ai, ci, Ak, ck, e, hlt, c1, c2, hi⟩ := h i hi
  exact ⟨b, o, Ai, ci, Ak, ck, e, by omega, (hb.cell (p := ⟨b, o + i * 2, none⟩) hlt).trans c1, (hb.cell (p := ⟨b, o + i * 2 + 1, none⟩) hlt).trans c2, hi⟩

theorem oindexFunc_calls (p : Ordr → Bool) (g : Nat) (first cap : Array Value) (hg : Enters Try.prog g) (A : Option Addr) (c : Nat) (l : List (Ordr)) (B : Nat) (w0 w : World) (hb : Below B w0 w) (hB : B ≤ w.heap.size) (hm : l.length ≤ maxLen) (hx : OrdsAt B w0 A l)
    (hf : ∀ x w' Ai ci Ak ck, x ∈ l → OrdIs B w0 Ai ci Ak ck x → Below w.heap.size w w' → Calls Try.prog g (first ++ #[.agg #[.slice Ai x.1.length ci, .slice Ak x.2.length ck]] ++ cap) w' (fun e w'' => e = .returned (.bool (p x)) ∧ Below w'.heap.size w' w'')) :
    Calls Try.prog 157 #[.slice A l.length c, .func (.func g) first cap] w fun e w' => e = .returned (.int .i64 (idx p l)) ∧ Below w.heap.size w w' := by
  unfold maxLen at hm
  replace hx := Lib.hid hx
  replace hb := Lib.hid hb
  replace hf := Lib.hid hf
  go_enter Try.func157, Try.ntmps157
  go_wp2
  go_loopw [5, 8] (fun _ i wr => ∃ k : Nat, k ≤ l.length ∧ i = .int .i64 k ∧ Hid (Below w.heap.size w wr) ∧ Hid (∀ j (hj : j < l.length), j < k → p l[j] = false)) (fun _ i _ => l.length - (intOf i).toNat)
  case atStart => exact ⟨0, Nat.zero_le _, rfl, Lib.hid (Below.refl _ _), Lib.hid (fun j _ h => by omega)⟩
  case round =>
    obtain ⟨k, hk, rfl, hw, hno⟩ := hrel
    by_cases hlt : k < l.length
    · obtain ⟨b, o, Ai, ci, Ak, ck, rfl, hbl, hc1, hc2, hoi⟩ := hx.out.at (below_up' hb.out hB hw.out) (Nat.le_trans hB hw.out.size) k hlt
      go_wp2_with ((with_reducible refine wpList_call_value (by rfl) (.tmp 11) _ _ (by rfl) g first cap (by with_unfolding_all rfl) hg ?_); refine (hf.out l[k] _ Ai ci Ak ck (List.getElem_mem _) hoi hw.out).mono ?_; rintro e w' ⟨rfl, h3⟩; replace h3 := Lib.hid h3; refine ⟨_, rfl, ?_⟩)
      · have hp : p l[k] = true := by assumption
        have hr : idx p l = k := idx_found hlt (fun j hj => hno.out j _ hj) hp
        go_ret
        exact ⟨by rw [hr]; rfl, below_up hw.out h3.out⟩
      · have hp : p l[k] = false := by assumption
        go_roundw
        case rel => exact ⟨k + 1, by omega, by go_num, Lib.hid (below_up hw.out h3.out), Lib.hid (fun j hj h => if e : j = k then by subst e; exact hp else hno.out j hj (by omega))⟩
        case measure => simp [intOf]; omega
    · have hr : idx p l = -1 := idx_none (fun j hj => hno.out j hj (by omega))
      replace hr := Lib.hid hr
      go_wp2
      go_ret
      exact ⟨by rw [hr.out]; rfl, hw.out⟩
theorem ocontainsFunc_calls (p : Ordr → Bool) (g : Nat) (first cap : Array Value) (hg : Enters Try.prog g) (A : Option Addr) (c : Nat) (l : List (Ordr)) (B : Nat) (w0 w : World) (hb : Below B w0 w) (hB : B ≤ w.heap.size) (hm : l.length ≤ maxLen) (hx : OrdsAt B w0 A l)
    (hf : ∀ x w' Ai ci Ak ck, x ∈ l → OrdIs B w0 Ai ci Ak ck x → Below w.heap.size w w' → Calls Try.prog g (first ++ #[.agg #[.slice Ai x.1.length ci, .slice Ak x.2.length ck]] ++ cap) w' (fun e w'' => e = .returned (.bool (p x)) ∧ Below w'.heap.size w' w'')) :
    Calls Try.prog 136 #[.slice A l.length c, .func (.func g) first cap] w fun e w' => e = .returned (.bool (l.any p)) ∧ Below w.heap.size w w' := by
  have h := oindexFunc_calls p g first cap hg A c l B w0 w hb hB hm hx hf
  replace h := Lib.hid h
  clear hx hb hf
  go_enter Try.func136, Try.ntmps136
  go_wp2_with fail
  refine h.out.mono ?_
  rintro e w1 ⟨rfl, h3⟩
  replace h3 := Lib.hid h3
  have hr := idx_any p l
  generalize idx p l = n at *
  replace hr := Lib.hid hr
  go_wp2_with fail
  go_ret
  exact ⟨by rw [← hr.out]; rfl, h3.out⟩

def fitO (n : Nat) (x : Ordr) : Bool := takesOk n x.1 && keysOk n x.2
def rowOkP (made : List Bool) (tasks : List Task) (l : List Ordr) : Bool := safeP made tasks && decide (l.length ≤ 6) && l.all (fitO made.length)

theorem ofits_calls (A A2 Ai Ak : Option Addr) (n c n2 c2 ci ck : Nat) (x : Ordr) (B : Nat) (w0 w : World) (hb : Below B w0 w) (hB : B ≤ w.heap.size) (h : OrdIs B w0 Ai ci Ak ck x) :
    Calls Try.prog 138 #[.agg #[.slice A n c, .slice A2 n2 c2], .agg #[.slice Ai x.1.length ci, .slice Ak x.2.length ck]] w fun e w' => e = .returned (.bool (fitO n x)) ∧ Below w.heap.size w w' := by
  have hc1 := fun w1 (hw : Below w.heap.size w w1) => takes_calls A A2 Ai n c n2 c2 ci x.1 B w0 w1 (below_up' hb hB hw) (Nat.le_trans hB hw.size) (Nat.le_trans h.il h.im) h.ia
  have hc2 := fun w1 (hw : Below w.heap.size w w1) => all_calls A A2 Ak n c n2 c2 ck x.2 B w0 w1 (below_up' hb hB hw) (Nat.le_trans hB hw.size) (Nat.le_trans h.kl h.km) h.ka
  have hr : fitO n x = (takesOk n x.1 && keysOk n x.2) := rfl
  generalize fitO n x = r at *
  subst hr
  have hal := below_al (below_al (Below.refl w.heap.size w) (.cells #[.slice A n c, .slice A2 n2 c2] 31 (0, 0))) (.cells #[.slice Ai x.1.length ci, .slice Ak x.2.length ck] 116 (0, 0))
  have k0 := hc1 _ hal
  replace k0 := Lib.hid k0
  replace hc2 := Lib.hid hc2
  replace hal := Lib.hid hal
  clear hc1 h hb
  go_enter Try.func138, Try.ntmps138
  go_wp2_with fail
  refine k0.out.mono ?_
  rintro e w1 ⟨rfl, h1⟩
  have z1 := h1.size
  simp at z1
  have b1 := hal.out.trans (h1.mono (by simp; omega))
  have x0 : w1.cell? ⟨w.heap.size, 0, none⟩ = some (.slice A n c) := (h1.cell (p := ⟨w.heap.size, 0, none⟩) (by simp; omega)).trans ((cell_al (by simp)).trans (cellm (heap_alloc_new w _) 0))
  have x1 : w1.cell? ⟨w.heap.size, 1, none⟩ = some (.slice A2 n2 c2) := (h1.cell (p := ⟨w.heap.size, 1, none⟩) (by simp; omega)).trans ((cell_al (by simp)).trans (cellm (heap_alloc_new w _) 1))
  have y1 : w1.cell? ⟨w.heap.size + 1, 1, none⟩ = some (.slice Ak x.2.length ck) := (h1.cell (p := ⟨w.heap.size + 1, 1, none⟩) (by simp)).trans (by simp)
  have k1 := hc2.out w1 b1
  replace k1 := Lib.hid k1
  replace b1 := Lib.hid b1
  clear h1 hal k0 hc2
  cases hq : takesOk n x.1 with
  | false =>
    replace hq := Lib.hid hq
    clear x0 x1 y1
    go_wp2_with fail
    go_ret
    exact ⟨by rw [hq.out]; rfl, b1.out⟩
  | true =>
    replace hq := Lib.hid hq
    go_wp2_with fail
    refine k1.out.mono ?_
    rintro e w2 ⟨rfl, h2⟩
    have b2 := b1.out.trans (h2.mono b1.out.size)
    clear x0 x1 y1
    go_wp2_with fail
    go_ret
    exact ⟨by rw [hq.out]; rfl, b2⟩

theorem rowOk1_calls (b : Nat) (A A2 Ai Ak : Option Addr) (n c n2 c2 ci ck : Nat) (x : Ordr) (B : Nat) (w0 w : World) (hb : Below B w0 w) (hB : B ≤ w.heap.size) (h : OrdIs B w0 Ai ci Ak ck x) (x0 : w.cell? ⟨b, 0, none⟩ = some (.slice A n c)) (x1 : w.cell? ⟨b, 1, none⟩ = some (.slice A2 n2 c2)) (hbl : b < w.heap.size) :
    Calls Try.prog 137 #[.agg #[.slice Ai x.1.length ci, .slice Ak x.2.length ck], .pointer (some ⟨b, 0, none⟩)] w fun e w' => e = .returned (.bool (!fitO n x)) ∧ Below w.heap.size w w' := by
  have hal := below_al (Below.refl w.heap.size w) (.cells #[.slice Ai x.1.length ci, .slice Ak x.2.length ck] 116 (0, 0))
  have k0 := ofits_calls A A2 Ai Ak n c n2 c2 ci ck x B w0 _ (below_up' hb hB hal) (Nat.le_trans hB hal.size) h
  generalize fitO n x = r at *
  replace k0 := Lib.hid k0
  replace hal := Lib.hid hal
  clear h hb
  go_enter Try.func137, Try.ntmps137
  go_wp2_with fail
  refine k0.out.mono ?_
  rintro e w1 ⟨rfl, h1⟩
  have b1 := hal.out.trans (h1.mono hal.out.size)
  clear x0 x1
  go_wp2_with fail
  go_ret
  exact ⟨rfl, b1⟩

set_option maxHeartbeats 1000000 in
theorem rowOk_calls (Am At Ao : Option Addr) (cm ct co : Nat) (made : List Bool) (tasks : List Task) (l : List Ordr) (B : Nat) (w0 w : World) (hb : Below B w0 w) (hB : B ≤ w.heap.size) (hs : SheetAt B w0 Am cm At ct made tasks) (hl : l.length ≤ maxLen) (hx : OrdsAt B w0 Ao l) :
    Calls Try.prog 93 #[.agg #[.slice Am made.length cm, .slice At tasks.length ct], .slice Ao l.length co] w fun e w' => e = .returned (.bool (rowOkP made tasks l)) ∧ Below w.heap.size w w' := by
  have hal := below_al (Below.refl w.heap.size w) (.cells #[.slice Am made.length cm, .slice At tasks.length ct] 31 (0, 0))
  have k0 := sheetSafe_calls Am At cm ct made tasks B w0 _ (below_up' hb hB hal) (Nat.le_trans hB hal.size) hs
  have hc := fun w1 (hw : Below w.heap.size w w1) (x0 : w1.cell? ⟨w.heap.size, 0, none⟩ = some (.slice Am made.length cm)) (x1 : w1.cell? ⟨w.heap.size, 1, none⟩ = some (.slice At tasks.length ct)) (hz : w.heap.size < w1.heap.size) =>
    ocontainsFunc_calls (fun x => !fitO made.length x) 137 #[] #[.pointer (some ⟨w.heap.size, 0, none⟩)] (enters_of Try.func137 (by kernel_rfl) rfl) Ao co l B w0 w1 (below_up' hb hB hw) (Nat.le_trans hB hw.size) hl hx
      (fun x w' Ai ci Ak ck _ hi h2 => by
        have := rowOk1_calls w.heap.size Am At Ai Ak made.length cm tasks.length ct ci ck x B w0 w' (below_up' (below_up' hb hB hw) (Nat.le_trans hB hw.size) h2) (Nat.le_trans hB (Nat.le_trans hw.size h2.size)) hi ((h2.cell (p := ⟨w.heap.size, 0, none⟩) hz).trans x0) ((h2.cell (p := ⟨w.heap.size, 1, none⟩) hz).trans x1) (by have := h2.size; omega)
        simpa using this)
  have hr : rowOkP made tasks l = (safeP made tasks && (decide ((l.length : Int) ≤ 6) && !(l.any fun x => !fitO made.length x))) := by
    unfold rowOkP
    rw [Bool.and_assoc]
    congr 1
    rw [show (!(l.any fun x => !fitO made.length x)) = l.all (fitO made.length) by simp [List.any_eq_not_all_not]]
    congr 1
    rw [decide_eq_decide]; omega
  generalize rowOkP made tasks l = r at *
  generalize (l.any fun x => !fitO made.length x) = q at *
  subst hr
  unfold maxLen at hl
  replace k0 := Lib.hid k0
  replace hc := Lib.hid hc
  replace hal := Lib.hid hal
  clear hs hb hx
  go_enter Try.func93, Try.ntmps93
  go_wp2_with fail
  refine k0.out.mono ?_
  rintro e w1 ⟨rfl, h1⟩
  have z1 := h1.size
  simp at z1
  have b1 := hal.out.trans (h1.mono (by simp))
  cases hq : safeP made tasks with
  | false =>
    replace hq := Lib.hid hq
    go_wp2_with fail
    go_ret
    exact ⟨by rw [hq.out]; rfl, b1⟩
  | true =>
    replace hq := Lib.hid hq
    have x0 : w1.cell? ⟨w.heap.size, 0, none⟩ = some (.slice Am made.length cm) := (h1.cell (p := ⟨w.heap.size, 0, none⟩) (by simp)).trans (cellm (heap_alloc_new w _) 0)
    have x1 : w1.cell? ⟨w.heap.size, 1, none⟩ = some (.slice At tasks.length ct) := (h1.cell (p := ⟨w.heap.size, 1, none⟩) (by simp)).trans (cellm (heap_alloc_new w _) 1)
    by_cases h6 : (l.length : Int) ≤ 6
    · have k1 := hc.out w1 b1 x0 x1 (by omega)
      replace k1 := Lib.hid k1
      replace b1 := Lib.hid b1
      clear hc h1 x0 x1
      go_wp2_with fail
      refine k1.out.mono ?_
      rintro e w2 ⟨rfl, h2⟩
      have b2 := b1.out.trans (h2.mono b1.out.size)
      go_wp2_with fail
      go_ret
      exact ⟨by rw [hq.out, decide_eq_true h6]; rfl, b2⟩
    · replace b1 := Lib.hid b1
      clear hc h1 x0 x1
      go_wp2_with fail
      go_ret
      exact ⟨by rw [hq.out, decide_eq_false (by omega)]; rfl, b1.out⟩

set_option maxHeartbeats 2000000 in
theorem specRowOk_calls (Am At Ao : Option Addr) (cm ct co : Nat) (made : List Bool) (tasks : List Task) (l : List Ordr) (B : Nat) (w0 w : World) (hb : Below B w0 w) (hB : B ≤ w.heap.size) (hs : SheetAt B w0 Am cm At ct made tasks) (hnod : ∀ T ∈ tasks, nodes T ≤ 1000000000) (hml : (made.length : Int) ≤ 9223372036854775807) (hl : l.length ≤ maxLen) (hx : OrdsAt B w0 Ao l) :
    Calls Try.prog 94 #[.agg #[.slice Am made.length cm, .slice At tasks.length ct], .slice Ao l.length co] w fun e w' => e = .returned (.bool (rowOkP made tasks l)) ∧ Below w.heap.size w w' := by
  have hal := below_al (Below.refl w.heap.size w) (.cells #[.slice Am made.length cm, .slice At tasks.length ct] 31 (0, 0))
  have k0 := specSheetSafe_calls Am At cm ct made tasks B w0 _ (below_up' hb hB hal) (Nat.le_trans hB hal.size) hs hnod
  have hc1 := fun (w1 : World) (hw : Below w.heap.size w w1) (A : Option Addr) (c : Nat) (xs : List Int) (hm : xs.length ≤ maxLen) (h : IntsAt B w0 A xs) => l3Inputs_calls Am At A cm ct c made tasks xs B w0 w1 (below_up' hb hB hw) (Nat.le_trans hB hw.size) hs hnod hm h
  have hc2 := fun (w1 : World) (hw : Below w.heap.size w w1) (A : Option Addr) (c : Nat) (xs : List Int) (hm : xs.length ≤ maxLen) (h : IntsAt B w0 A xs) => l4Keys_calls Am At A cm ct c made tasks xs B w0 w1 (below_up' hb hB hw) (Nat.le_trans hB hw.size) hs hnod hml hm h
  have hso : safeP made tasks = true → sheetOk made tasks = true := fun h => by unfold safeP at h; rw [Bool.and_eq_true] at h; exact h.1
  have hr : rowOkP made tasks l = (safeP made tasks && decide (l.length ≤ 6) && l.all (fitO made.length)) := rfl
  have hm := hl
  unfold maxLen at hl
  by_cases h6 : 6 < l.length
  · have hr2 : rowOkP made tasks l = false := by rw [hr, decide_eq_false (by omega)]; simp
    rw [hr2]
    clear hr hr2 k0 hc1 hc2 hso hx hb hs
    replace hal := Lib.hid hal
    go_enter Try.func94, Try.ntmps94
    go_wp2_with fail
    go_ret
    exact ⟨rfl, hal.out⟩
  cases hsf : safeP made tasks with
  | false =>
    have hr2 : rowOkP made tasks l = false := by rw [hr, hsf]; rfl
    rw [hr2]
    rw [hsf] at k0
    replace k0 := Lib.hid k0
    clear hr hr2 hc1 hc2 hso hx hb hs hsf
    replace hal := Lib.hid hal
    go_enter Try.func94, Try.ntmps94
    go_wp2_with fail
    refine k0.out.mono ?_
    rintro e w1 ⟨rfl, h1⟩
    have b1 := hal.out.trans (h1.mono hal.out.size)
    go_wp2_with fail
    go_ret
    exact ⟨rfl, b1⟩
  | true =>
  have hok := hso hsf
  rw [hsf] at k0
  have hr2 : rowOkP made tasks l = l.all (fitO made.length) := by rw [hr, hsf]; simp; omega
  rw [hr2]
  simp only [inputsOk, hok, Bool.true_and, Bool.and_true] at hc1 hc2
  replace k0 := Lib.hid k0
  replace hc1 := Lib.hid hc1
  replace hc2 := Lib.hid hc2
  replace hx := Lib.hid hx
  replace hb := Lib.hid hb
  clear hr hr2 hso hs hsf hok hnod hml
  generalize hres : l.all (fitO made.length) = res
  replace hres := Lib.hid hres
  replace hal := Lib.hid hal
  go_enter Try.func94, Try.ntmps94
  go_wp2_with fail
  refine k0.out.mono ?_
  rintro e w1 ⟨rfl, h1⟩
  have z1 := h1.size
  simp at z1
  have x0 : w1.cell? ⟨w.heap.size, 0, none⟩ = some (.slice Am made.length cm) := (h1.cell (p := ⟨w.heap.size, 0, none⟩) (by simp)).trans (cellm (heap_alloc_new w _) 0)
  have x1 : w1.cell? ⟨w.heap.size, 1, none⟩ = some (.slice At tasks.length ct) := (h1.cell (p := ⟨w.heap.size, 1, none⟩) (by simp)).trans (cellm (heap_alloc_new w _) 1)
  have b1 := hal.out.trans (h1.mono hal.out.size)
  replace b1 := Lib.hid b1
  have hs0 : w.heap.size < w1.heap.size := z1
  clear h1 k0 hal
  go_wp2_with fail
  go_loopw [5] (fun i wr => ∃ (j : Nat), j ≤ l.length ∧ i = .int .i64 j ∧ Hid (∀ x ∈ l.take j, fitO made.length x = true) ∧ Hid (Below w1.heap.size w1 wr)) (fun i _ => l.length - (intOf i).toNat)
  case atStart => exact ⟨0, Nat.zero_le _, rfl, Lib.hid (by simp), Lib.hid (Below.refl _ _)⟩
  case round =>
    obtain ⟨j, hj, rfl, hyes, hw⟩ := hrel
    obtain ⟨w9, hw9⟩ : ∃ w9, w9 = wr := ⟨_, rfl⟩
    subst hw9
    have hww := b1.out.trans (hw.out.mono b1.out.size)
    have y0 := (hw.out.cell (p := ⟨w.heap.size, 0, none⟩) hs0).trans x0
    have y1 := (hw.out.cell (p := ⟨w.heap.size, 1, none⟩) hs0).trans x1
    have z91 := hw.out.size
    by_cases hlt : j < l.length
    · obtain ⟨b, o, Ai, ci, Ak, ck, rfl, hbl, c1, c2, hoi⟩ := hx.out.at (below_up' hb.out hB hww) (Nat.le_trans hB hww.size) j hlt
      have k1 := hc1.out w9.drew hww.drew Ai ci l[j].1 (Nat.le_trans hoi.il hoi.im) hoi.ia
      have hf : fitO made.length l[j] = (takesOk made.length l[j].1 && keysOk made.length l[j].2) := rfl
      have hts := List.take_succ_eq_append_getElem hlt
      have hs9 : w.heap.size < w9.heap.size := by omega
      generalize ht : takesOk made.length l[j].1 = tk at *
      generalize hkk : keysOk made.length l[j].2 = kk at *
      replace hf := Lib.hid hf
      replace k1 := Lib.hid k1
      replace hww := Lib.hid hww
      replace hts := Lib.hid hts
      have hfin : fitO made.length l[j] = false → res = false := fun h => by
        rw [← hres.out, List.all_eq_false]
        exact ⟨l[j], List.getElem_mem _, by rw [h]; simp⟩
      replace hfin := Lib.hid hfin
      cases tk with
      | false =>
        have hr := hfin.out hf.out
        subst hr
        replace ht := Lib.hid ht
        clear hfin hf hyes hts hoi hc1 hc2 hkk
        go_wp2_with fail
        first
          | go_region_law (first | (go_simp; go_at_call 84; refine k1.out.mono ?_; rintro e w10 ⟨rfl, h10⟩; replace h10 := Lib.hid h10))
          | fail "law"
        all_goals
          have hw10 := hww.out.drew.trans (h10.out.mono hww.out.size)
          replace hw10 := Lib.hid hw10
          clear h10 y0 y1 c1 c2
          go_wp2_with fail
          go_ret
          exact ⟨rfl, hw10.out⟩
      | true =>
        have k2 := fun (w10 : World) (h10 : Below w9.drew.heap.size w9.drew w10) => hc2.out w10 (hww.out.drew.trans (h10.mono hww.out.size)) Ak ck l[j].2 (Nat.le_trans hoi.kl hoi.km) hoi.ka
        rw [hkk] at k2
        replace k2 := Lib.hid k2
        replace ht := Lib.hid ht
        replace hkk := Lib.hid hkk
        clear hoi hc1 hc2
        go_wp2_with fail
        go_region_held3 (fun w' => w'.cell? ⟨w.heap.size, 0, none⟩ = some (.slice Am made.length cm) ∧ w'.cell? ⟨w.heap.size, 1, none⟩ = some (.slice At tasks.length ct) ∧ w'.cell? ⟨b, o + j * 2, none⟩ = some (.slice Ai l[j].1.length ci) ∧ w'.cell? ⟨b, o + j * 2 + 1, none⟩ = some (.slice Ak l[j].2.length ck)) (first | exact ⟨m1, m2, m3, m4⟩ | exact ⟨l1, l2, l3, l4⟩ | exact ⟨y0, y1, c1, c2⟩)
          (first
            | (go_at_call 55; refine (k2.out _ h10).mono ?_; rintro e w11 ⟨rfl, h11⟩; have s9' := Nat.lt_of_lt_of_le hs9 (show w9.heap.size ≤ w10.heap.size from h10.size); have sbl := Nat.lt_of_lt_of_le hbl (show w9.heap.size ≤ w10.heap.size from h10.size); have m1 := kept_cell h11 s9' l1; have m2 := kept_cell h11 s9' l2; have m3 := kept_cell h11 sbl l3; have m4 := kept_cell h11 sbl l4)
            | (go_at_call 84; refine k1.out.mono ?_; rintro e w10 ⟨rfl, h10⟩; have l1 := kept_cell h10 hs9 y0; have l2 := kept_cell h10 hs9 y1; have l3 := kept_cell h10 hbl c1; have l4 := kept_cell h10 hbl c2))
        all_goals
          have hw11 := hw.out.drew.trans ((h10.trans (h11.mono h10.size)).mono hw.out.size)
          have hb11 := hww.out.drew.trans ((h10.trans (h11.mono h10.size)).mono hww.out.size)
          replace hw11 := Lib.hid hw11
          replace hb11 := Lib.hid hb11
          clear h10 h11 l1 l2 l3 l4 m1 m2 m3 m4 y0 y1 c1 c2 k1 k2
          cases kk with
          | false =>
            have hr := hfin.out hf.out
            subst hr
            go_wp2_with fail
            go_ret
            exact ⟨rfl, hb11.out⟩
          | true =>
            have hy2 : ∀ x ∈ l.take (j + 1), fitO made.length x = true := fun x hx => by
              rw [hts.out, List.mem_append] at hx
              rcases hx with hx | hx
              · exact hyes.out x hx
              · rw [List.mem_singleton.1 hx]; exact hf.out
            replace hy2 := Lib.hid hy2
            go_wp2_with fail
            go_roundw
            case rel => exact ⟨j + 1, by omega, by go_num, hy2, hw11⟩
            case measure => simp [intOf]; omega
    · have : res = true := by
        rw [← hres.out, List.all_eq_true]
        intro x hx
        exact hyes.out x (by rw [List.take_of_length_le (by omega)]; exact hx)
      subst this
      go_wp2_with fail
      go_ret
      exact ⟨rfl, hww⟩
end Go.Proofs.Ytpccgdkidnkppaa

set_option linter.unusedVariables false
set_option linter.unusedSimpArgs false
namespace Go.Proofs.Ytpccgdkidnkppaa
open Go Go.RowKit

/-! what a task fetches, each once -/
def usesL : List (Int × Int) → List Int → List Int
  | [], out => out
  | f :: fs, out => usesL fs (if out.contains f.1 then out else out ++ [f.1])
def onceL2 : List (Int × Int) → List (Int × Int) → List (Int × Int)
  | [], out => out
  | f :: fs, out => onceL2 fs (if out.any (fun g => g.1 == f.1) then out else out ++ [f])
theorem any_keys (out : List (Int × Int)) (k : Int) : out.any (fun g => g.1 == k) = (out.map Prod.fst).contains k := by
  induction out with
  | nil => rfl
  | cons g gs ih =>
    rw [List.any_cons, List.map_cons, List.contains_cons, ih]
    congr 1
    rw [Bool.eq_iff_iff, beq_iff_eq, beq_iff_eq]
    exact eq_comm
theorem once_map : ∀ (l out : List (Int × Int)), (onceL2 l out).map Prod.fst = usesL l (out.map Prod.fst) := by
  intro l
  induction l with
  | nil => intro out; rfl
  | cons f fs ih =>
    intro out
    rw [onceL2, usesL, ih, any_keys]
    split
    · rfl
    · rw [List.map_append]; rfl
theorem usesL_mem : ∀ (l : List (Int × Int)) (out : List Int) (j : Int), j ∈ usesL l out ↔ j ∈ out ∨ ∃ f ∈ l, f.1 = j := by
  intro l
  induction l with
  | nil => intro out j; simp [usesL]
  | cons f fs ih =>
    intro out j
    rw [usesL, ih]
    by_cases h : out.contains f.1 = true
    · rw [if_pos h]
      have hf : f.1 ∈ out := by simpa using h
      constructor
      · rintro (h | ⟨g, hg, e⟩)
        · exact .inl h
        · exact .inr ⟨g, List.mem_cons_of_mem _ hg, e⟩
      · rintro (h | ⟨g, hg, e⟩)
        · exact .inl h
        · rcases List.mem_cons.1 hg with rfl | hg
          · exact .inl (e ▸ hf)
          · exact .inr ⟨g, hg, e⟩
    · rw [if_neg h]
      constructor
      · rintro (h | ⟨g, hg, e⟩)
        · rcases List.mem_append.1 h with h | h
          · exact .inl h
          · exact .inr ⟨f, List.mem_cons_self .., (List.mem_singleton.1 h).symm⟩
        · exact .inr ⟨g, List.mem_cons_of_mem _ hg, e⟩
      · rintro (h | ⟨g, hg, e⟩)
        · exact .inl (List.mem_append_left _ h)
        · rcases List.mem_cons.1 hg with rfl | hg
          · exact .inl (List.mem_append_right _ (by rw [e]; exact List.mem_singleton.2 rfl))
          · exact .inr ⟨g, hg, e⟩
theorem onceL2_length : ∀ (l out : List (Int × Int)), (onceL2 l out).length ≤ l.length + out.length := by
  intro l
  induction l with
  | nil => intro out; simp [onceL2]
  | cons f fs ih =>
    intro out
    rw [onceL2]
    by_cases h : out.any (fun g => g.1 == f.1) = true
    · rw [if_pos h]; have := ih out; simp only [List.length_cons]; omega
    · rw [if_neg h]; have := ih (out ++ [f]); simp only [List.length_cons, List.length_append, List.length_nil] at this ⊢; omega
theorem usesL_length : ∀ (l : List (Int × Int)) (out : List Int), (usesL l out).length ≤ l.length + out.length := by
  intro l
  induction l with
  | nil => intro out; simp [usesL]
  | cons f fs ih =>
    intro out
    rw [usesL]
    by_cases h : out.contains f.1 = true
    · rw [if_pos h]; have := ih out; simp only [List.length_cons]; omega
    · rw [if_neg h]; have := ih (out ++ [f.1]); simp only [List.length_cons, List.length_append, List.length_nil] at this ⊢; omega

theorem fetched_itr (t : Tk) (xs : List Int) : fetchedP t xs = t.itr.run (fetF xs) [] := Tk.run_itr _ (fun s k h => by simp [fetF] at h) t []
theorem fet_length (xs : List Int) : ∀ (m : Itr) (n : Nat) (l : List (Int × Int)), m.le n → (m.run (fetF xs) l).2.length ≤ l.length + n := by
  intro m
  induction m with
  | done v => intro n l _; simp [Itr.run]
  | ask k c ih =>
    intro n l h
    cases n with
    | zero => exact h.elim
    | succ n =>
      rw [Itr.run_yes (by simp [fetF])]
      have := ih (fetF xs l k).1.1 n (fetF xs l k).2 (h _)
      simp [fetF] at this ⊢
      omega
theorem fetched_length (t : Tk) (xs : List Int) : (fetchedP t xs).2.length ≤ t.fets := by
  rw [fetched_itr]
  have := fet_length xs t.itr t.fets [] (Tk.itr_le t)
  simpa using this
theorem fet_keys (xs : List Int) : ∀ (m : Itr) (l : List (Int × Int)), m.ok → (∀ f ∈ l, 0 ≤ f.1 ∧ f.1 ≤ 9 ∧ f.2 = atK xs f.1) → ∀ f ∈ (m.run (fetF xs) l).2, 0 ≤ f.1 ∧ f.1 ≤ 9 ∧ f.2 = atK xs f.1 := by
  intro m
  induction m with
  | done v => intro l _ h; exact h
  | ask k c ih =>
    intro l h hl
    obtain ⟨h0, h9, hc⟩ := h
    rw [Itr.run_yes (by simp [fetF])]
    refine ih _ _ (hc _) (fun f hf => ?_)
    rcases List.mem_append.1 hf with hf | hf
    · exact hl f hf
    · rw [List.mem_singleton.1 hf]; exact ⟨h0, h9, rfl⟩
theorem fetched_keys {t : Tk} (h : t.ok) (xs : List Int) : ∀ f ∈ (fetchedP t xs).2, 0 ≤ f.1 ∧ f.1 ≤ 9 ∧ f.2 = atK xs f.1 := by
  rw [fetched_itr]
  exact fet_keys xs t.itr [] (Tk.itr_ok t h) (fun f hf => by cases hf)
def usesP (t : Tk) (xs : List Int) : List Int := usesL (fetchedP t xs).2 []
theorem usesP_length (t : Tk) (xs : List Int) : (usesP t xs).length ≤ t.fets := by
  have h1 := usesL_length (fetchedP t xs).2 []
  have h2 := fetched_length t xs
  unfold usesP
  simp at h1; omega
theorem usesP_keys {t : Tk} (h : t.ok) (xs : List Int) : ∀ j ∈ usesP t xs, 0 ≤ j ∧ j ≤ 9 := by
  intro j hj
  rcases (usesL_mem _ _ _).1 hj with h1 | ⟨f, hf, rfl⟩
  · cases h1
  · have := fetched_keys h xs f hf
    exact ⟨this.1, this.2.1⟩

/-! whether an order fits -/
def fitAt (S : Sh) (vals order : List Int) (i : Nat) (k : Int) : Bool := mkK S.made k && !(order.take i).contains k && (usesP (S.tk k) vals).all (fun j => !mkK S.made j || (order.take i).contains j)
def fitsL (S : Sh) (vals order : List Int) (i : Nat) : Bool := (List.range' i (order.length - i)).all fun j => fitAt S vals order j (order.getD j 0)
def fitsP (S : Sh) (vals order : List Int) : Bool := fitsL S vals order 0
theorem fitsL_step {S : Sh} {vals order : List Int} {i : Nat} (h : i < order.length) : fitsL S vals order i = (fitAt S vals order i order[i] && fitsL S vals order (i + 1)) := by
  unfold fitsL
  obtain ⟨n, hn⟩ : ∃ n, order.length - i = n + 1 := ⟨order.length - i - 1, by omega⟩
  rw [hn, List.range'_succ, List.all_cons, show order.length - (i + 1) = n by omega]
  congr 2
  simp [h]
theorem fitsL_end {S : Sh} {vals order : List Int} {i : Nat} (h : ¬ i < order.length) : fitsL S vals order i = true := by
  unfold fitsL
  rw [show order.length - i = 0 by omega]
  rfl
theorem fitsP_iff {S : Sh} {vals order : List Int} : fitsP S vals order = true ↔ ∀ i (hi : i < order.length), fitAt S vals order i order[i] = true := by
  unfold fitsP fitsL
  rw [List.all_eq_true]
  constructor
  · intro h i hi
    have := h i (by rw [List.mem_range']; exact ⟨i, by omega, by omega⟩)
    simpa [hi] using this
  · intro h j hj
    rw [List.mem_range'] at hj
    obtain ⟨q, hq, rfl⟩ := hj
    have hl : q < order.length := by omega
    have := h q hl
    simpa [hl] using this
/-- an order without its last key -/
theorem fits_last {S : Sh} {vals order : List Int} (h : fitsP S vals order = true) : fitsP S vals (order.take (order.length - 1)) = true := by
  rw [fitsP_iff] at h ⊢
  intro i hi
  rw [List.length_take] at hi
  have h1 := h i (by omega)
  rw [List.getElem_take]
  unfold fitAt at h1 ⊢
  rw [List.take_take, Nat.min_eq_left (by omega)]
  exact h1
end Go.Proofs.Ytpccgdkidnkppaa

set_option linter.unusedVariables false
set_option linter.unusedSimpArgs false
namespace Go.Proofs.Ytpccgdkidnkppaa
open Go Go.RowKit

/-! the reference's set: a list that grows while it is gone through -/
structure BInv (mk : Int → Bool) (may : Int → List Int) (n : Nat) (keys : List Int) (Y : Int → Bool) (row : List Int) (i : Nat) : Prop where
  sound : ∀ k, Y k = true → Reach mk may keys k
  src : ∀ x ∈ row, x ∈ keys ∨ ∃ k, Y k = true ∧ x ∈ may k
  done : ∀ j (h : j < row.length), j < i → mk row[j] = true → Y row[j] = true
  next : ∀ k, Y k = true → ∀ j ∈ may k, j ∈ row
  has : ∀ k ∈ keys, k ∈ row
  len : row.length ≤ keys.length + 10 * cntN Y n
section
variable {mk : Int → Bool} {may : Int → List Int} {n : Nat} {keys : List Int} {Y : Int → Bool} {row : List Int} {i : Nat}
theorem BInv.start : BInv mk may n keys (fun _ => false) keys 0 :=
  ⟨fun k h => (by cases h), fun x h => .inl h, fun j h h2 => (by omega), fun k h => (by cases h), fun k h => h, by omega⟩
theorem BInv.skip (h : BInv mk may n keys Y row i) (hi : i < row.length) (hs : mk row[i] = false ∨ Y row[i] = true) : BInv mk may n keys Y row (i + 1) :=
  ⟨h.sound, h.src, fun j hj hji hm => by
    by_cases e : j = i
    · subst e
      rcases hs with hs | hs
      · rw [hs] at hm; cases hm
      · exact hs
    · exact h.done j hj (by omega) hm, h.next, h.has, h.len⟩
theorem BInv.push (h : BInv mk may n keys Y row i) (hi : i < row.length) {q : Nat} (hq : row[i] = (q : Int)) (hqn : q < n) (hm : mk q = true) (hy : Y q = false) (hl : (may q).length ≤ 10) : BInv mk may n keys (setX Y q) (row ++ may q) (i + 1) := by
  have hYk : ∀ k, Y k = true → setX Y q k = true := fun k hk => by simp only [setX]; split <;> simp [hk]
  have hR : Reach mk may keys (q : Int) := by
    rcases h.src _ (List.getElem_mem hi) with h1 | ⟨k, h1, h2⟩
    · rw [hq] at h1; exact .here _ h1 hm
    · rw [hq] at h2; exact .next k _ (h.sound k h1) h2 hm
  refine ⟨fun k hk => ?_, fun x hx => ?_, fun j hj hji hmj => ?_, fun k hk j hj => ?_, fun k hk => List.mem_append_left _ (h.has k hk), ?_⟩
  · by_cases e : k = q
    · rw [e]; exact hR
    · simp only [setX, if_neg e] at hk; exact h.sound k hk
  · rcases List.mem_append.1 hx with hx | hx
    · rcases h.src x hx with h1 | ⟨k, h1, h2⟩
      · exact .inl h1
      · exact .inr ⟨k, hYk k h1, h2⟩
    · exact .inr ⟨q, by simp [setX], hx⟩
  · have hjl : j < row.length := by omega
    rw [List.getElem_append_left hjl] at hmj ⊢
    by_cases e : j = i
    · subst e; rw [hq]; simp [setX]
    · exact hYk _ (h.done j hjl (by omega) hmj)
  · by_cases e : k = q
    · rw [e] at hj; exact List.mem_append_right _ hj
    · simp only [setX, if_neg e] at hk; exact List.mem_append_left _ (h.next k hk j hj)
  · rw [List.length_append, cntN_set hqn hy]
    have := h.len
    omega
theorem BInv.reach (h : BInv mk may n keys Y row i) (hi : row.length ≤ i) (k : Int) : Y k = true ↔ Reach mk may keys k := by
  have hall : ∀ x ∈ row, mk x = true → Y x = true := fun x hx hm => by
    obtain ⟨j, hj, rfl⟩ := List.getElem_of_mem hx
    exact h.done j hj (by omega) hm
  refine ⟨h.sound k, fun hk => ?_⟩
  induction hk with
  | here k h1 h2 => exact hall k (h.has k h1) h2
  | next k j _ h1 h2 ih => exact hall j (h.next k ih j h1) h2
theorem BInv.range (h : BInv mk may n keys Y row i) (hk : ∀ k ∈ keys, 0 ≤ k ∧ k < n) (hm : ∀ k, ∀ j ∈ may k, 0 ≤ j ∧ j < n) : ∀ x ∈ row, 0 ≤ x ∧ x < n := fun x hx => by
  rcases h.src x hx with h1 | ⟨k, _, h2⟩
  · exact hk x h1
  · exact hm k x h2
end

/-! the reference's order: the least one that is free, while there is one -/
section
variable {X : Int → Bool} {may : Int → List Int} {n : Nat}
structure STopo (X : Int → Bool) (may : Int → List Int) (n : Nat) (R : List Int) (out : List Int) : Prop where
  ok : TOk X may n out
  rest : out.length ≤ cntN X n ∧ topoP X may n (cntN X n - out.length) out = (R, true)
theorem STopo.start (h : (topoP X may n (cntN X n) []).2 = true) : STopo X may n (topoP X may n (cntN X n) []).1 [] := ⟨TOk.nil, by simp, by
  rw [show cntN X n - ([] : List Int).length = cntN X n by simp]
  exact Prod.ext rfl h⟩
theorem STopo.some {R out : List Int} {q : Nat} (h : STopo X may n R out) (hq : nextK X may n out = some q) : STopo X may n R (out ++ [(q : Int)]) := by
  obtain ⟨hqn, hf⟩ := nextK_some hq
  have hp := h.ok.push hqn hf
  have hl := (sub_cnt hp.nodup hp.sub).1
  simp only [List.length_append, List.length_singleton] at hl
  refine ⟨hp, by simpa using hl, ?_⟩
  have hr := h.rest.2
  obtain ⟨m, hm⟩ : ∃ m, cntN X n - out.length = m + 1 := ⟨cntN X n - out.length - 1, by omega⟩
  rw [hm, topoP, hq] at hr
  rw [List.length_append, List.length_singleton, show cntN X n - (out.length + 1) = m by omega]
  exact hr
theorem STopo.none {R out : List Int} (h : STopo X may n R out) (hq : nextK X may n out = none) : out = R := by
  have hr := h.rest.2
  cases hm : cntN X n - out.length with
  | zero => rw [hm, topoP] at hr; exact (Prod.mk.inj hr).1
  | succ m => rw [hm, topoP, hq] at hr; cases hr
theorem STopo.len {R out : List Int} (h : STopo X may n R out) : out.length ≤ n := Nat.le_trans h.rest.1 (cntN_le _ _)
end
/-- of a safe sheet, each set that holds what its keys may fetch has an order -/
theorem safe_topo {made : List Bool} {tasks : List Task} (h : safeP made tasks = true) {X : Int → Bool} {keys : List Int} (hX : ∀ k, X k = true ↔ Reach (mkK made) (mayS made tasks) keys k) :
    (topoP X (mayS made tasks) made.length (cntN X made.length) []).2 = true ∧ TOk X (mayS made tasks) made.length (topoP X (mayS made tasks) made.length (cntN X made.length) []).1 ∧ (topoP X (mayS made tasks) made.length (cntN X made.length) []).1.length = cntN X made.length := by
  have hok : sheetOk made tasks = true := by unfold safeP at h; rw [Bool.and_eq_true] at h; exact h.1
  have hcl : ∀ k : Nat, k < made.length → X k = true → ∀ j ∈ mayS made tasks k, X j = true ∧ 0 ≤ j ∧ j < made.length := fun k _ hk j hj => by
    have hm := mayS_made j hj
    exact ⟨(hX j).2 (.next k j ((hX k).1 hk) hj hm.1), hm.2⟩
  rcases topoP_spec hcl (cntN X made.length) [] TOk.nil (by simp) with h1 | ⟨_, k, hk, _, hw⟩
  · exact h1
  · exact (hw ((safeP_iff hok).1 h k hk)).elim

/-! what is fetched may be fetched -/
theorem fet_in (xs : List Int) {P : Int → Prop} : ∀ (m : Itr) (l : List (Int × Int)), m.In P → (∀ f ∈ l, P f.1) → ∀ f ∈ (m.run (fetF xs) l).2, P f.1 := by
  intro m
  induction m with
  | done v => intro l _ h; exact h
  | ask k c ih =>
    intro l h hl
    rw [Itr.run_yes (by simp [fetF])]
    refine ih _ _ (h.2 _) (fun f hf => ?_)
    rcases List.mem_append.1 hf with hf | hf
    · exact hl f hf
    · rw [List.mem_singleton.1 hf]; exact h.1
theorem uses_may (t : Tk) (xs : List Int) : ∀ j ∈ usesP t xs, mayTask t.enc j = true := by
  intro j hj
  rcases (usesL_mem _ _ _).1 hj with h1 | ⟨f, hf, rfl⟩
  · cases h1
  · rw [fetched_itr] at hf
    exact fet_in xs t.itr [] t.itr_In (fun f hf => by cases hf) f hf
/-- a made key that is fetched may be fetched -/
theorem uses_mayS {S : Sh} (hS : S.Ok) {q : Nat} (hq : q < S.made.length) (xs : List Int) {j : Int} (hj : j ∈ usesP (S.tk q) xs) (hm : mkK S.made j = true) : j ∈ mayS S.made (S.tks.map Tk.enc) q := by
  have hqt : q < S.tks.length := by have := hS.len; omega
  have hr := mkK_range (show mkK S.made j ≠ false by rw [hm]; simp)
  have h2 := uses_may _ _ j hj
  unfold mayS mayMade
  rw [List.mem_filter]
  refine ⟨mem_mayList.2 ?_, hm⟩
  rw [taskAt_get (by simpa using hqt), List.getElem_map]
  rw [tk_at hqt] at h2
  have := hS.ten
  exact ⟨hS.okT hqt, by omega, by omega, h2⟩
/-- a topological order fits all inputs -/
theorem topo_fits {S : Sh} (hS : S.Ok) (vals : List Int) {X : Int → Bool} {keys out : List Int} (hX : ∀ k, X k = true ↔ Reach (mkK S.made) (mayS S.made (S.tks.map Tk.enc)) keys k)
    (h : TOk X (mayS S.made (S.tks.map Tk.enc)) S.made.length out) : fitsP S vals out = true := by
  rw [fitsP_iff]
  intro i hi
  have hs := h.sub _ (List.getElem_mem hi)
  have hmk := ((hX _).1 hs.2.2).isMade
  obtain ⟨q, hq⟩ := Int.eq_ofNat_of_zero_le hs.1
  unfold fitAt
  rw [hmk, Bool.true_and, Bool.and_eq_true, List.all_eq_true]
  refine ⟨?_, fun j hj => ?_⟩
  · rw [Bool.not_eq_true', List.contains_eq_mem, decide_eq_false_iff_not]
    intro hm
    obtain ⟨a, ha, e⟩ := List.getElem_of_mem hm
    rw [List.length_take] at ha
    rw [List.getElem_take] at e
    have := (List.getElem?_inj (i := a) (j := i) (show a < out.length by omega) h.nodup).1 (by rw [List.getElem?_eq_getElem (show a < out.length by omega), List.getElem?_eq_getElem hi, e])
    omega
  · cases hm : mkK S.made j with
    | false => rfl
    | true =>
      have hj2 : j ∈ mayS S.made (S.tks.map Tk.enc) out[i] := by
        rw [hq] at hj ⊢
        exact uses_mayS hS (by omega) vals hj hm
      have := h.behind i hi j hj2
      simpa using this
end Go.Proofs.Ytpccgdkidnkppaa

set_option linter.unusedVariables false
set_option linter.unusedSimpArgs false
namespace Go.Proofs.Ytpccgdkidnkppaa
open Go Go.RowKit

/-! a row of numbers, nil or not, is appended to a row that the call owns -/
section
variable {P : Program} {w : World} {t e : TypeId} {z : Value} {bytes : Nat} {base n c B : Nat} {v : Value} {xs : List Value} {A : Option Addr} {ys : List Int} {w0 : World}
theorem run_appI (ty : TypeId) (hE : ElemTy P t e z 1 bytes) (hown : w.ownsRow base e 1 v n xs) (hy : IntsAt B w0 A ys) (hb : Below B w0 w) (hB : B ≤ w.heap.size)
    (h63 : n + ys.length ≤ maxLen) (hbytes : (n + ys.length) * bytes ≤ 140737488355328) (hbase : base ≤ w.heap.size) :
    ∃ v' w', (Builtin.append_ #[t, t] ty #[v, .slice A ys.length c]).run P w = .ok v' w' ∧ w'.ownsRow base e 1 v' (n + ys.length) (xs ++ ints ys) ∧ w.grownBy w' v.ownBlock ∧ (v'.ownBlock = v.ownBlock ∨ v'.ownBlock = some w.heap.size) := by
  obtain ⟨i, hi, hz0, hz1, hz2⟩ := info_parts hE.hi
  cases A with
  | none =>
    have h0 : ys = [] := by
      cases ys with
      | nil => rfl
      | cons y ys => obtain ⟨b, o, e, _⟩ := hy 0 (by simp); cases e
    subst h0
    refine ⟨v, w, ?_, by simpa [ints] using hown, World.grownBy.refl w _, .inl rfl⟩
    have ht := run_underlying (P := P) (w := w) hE.ht
    rcases hown.2 with ⟨rfl, rfl⟩ | ⟨g, cap, cur, rfl, _, _, hnc, _⟩
    · simp [Builtin.append_, ht, sizeOf, typeInfo, hi, Builtin.lenOf, Builtin.firstCells]
    · simp [Builtin.append_, ht, sizeOf, typeInfo, hi, Builtin.lenOf, Builtin.firstCells, hnc, storeCells]
  | some ad =>
    obtain ⟨v', w', hr, h2, h3, _, h5⟩ := run_append_own_at (P := P) w base t ty e i z 1 bytes hE.ht hi hz0 hz1 hz2 hE.hz hE.hs v n xs hown ad ys.length c (ints ys) (by simp [ints]) (fun j u hu => by
      have hj : j < ys.length := by have := (List.getElem?_eq_some_iff.1 hu).1; simpa [ints] using this
      obtain ⟨b, o, e, hlt, hc⟩ := hy.at hb hB j hj
      cases e
      rw [Addr.add_lit, hc]
      simpa [ints, hj] using hu) (fun u hu => by
      simp only [ints, List.mem_map] at hu
      obtain ⟨x, _, rfl⟩ := hu
      rfl) h63 hbytes hbase
    exact ⟨v', w', hr, h2, h3, h5⟩
variable {ops : Array Oper} {o : Oper} {a : Act} {K : Act → World → Prop} {Q : Exit → Act → World → Prop} {X : Prop}
theorem wp_appI (s x : Operand) (ho : o.op = .call { callee := .builtin .append, args := #[s, x], argTypes := #[t, t] }) (hE : ElemTy P t e z 1 bytes) (hs : a.eval s = v) (hown : w.ownsRow base e 1 v n xs) (hx : a.eval x = .slice A ys.length c) (hy : IntsAt B w0 A ys) (hb : Below B w0 w) (hB : B ≤ w.heap.size)
    (h63 : n + ys.length ≤ maxLen) (hbytes : (n + ys.length) * bytes ≤ 140737488355328) (hbase : base ≤ w.heap.size)
    (h : ∀ v' w', w'.ownsRow base e 1 v' (n + ys.length) (xs ++ ints ys) → w.grownBy w' v.ownBlock → (v'.ownBlock = v.ownBlock ∨ v'.ownBlock = some w.heap.size) → K (a.put o.dst v') w') : o.wp P a w K Q := by
  obtain ⟨v', w', hrun, h2, h3, h4⟩ := run_appI (c := c) o.type hE hown hy hb hB h63 hbytes hbase
  unfold Oper.wp execOp
  simp only [ho, resolve, invoke, builtin, Sem.run_bind, Sem.run_pure, Result.andThen_ok, List.map_toArray, List.map_cons, List.map_nil, hs, hx, hrun]
  exact h v' w' h2 h3 h4
theorem wpList_appI {rest : List Oper} (hgd : o.guard = none) (s x : Operand) (ho : o.op = .call { callee := .builtin .append, args := #[s, x], argTypes := #[t, t] }) (hE : ElemTy P t e z 1 bytes) (hs : a.eval s = v) (hown : w.ownsRow base e 1 v n xs) (hx : a.eval x = .slice A ys.length c) (hy : IntsAt B w0 A ys) (hb : Below B w0 w) (hB : B ≤ w.heap.size)
    (h63 : n + ys.length ≤ maxLen) (hbytes : (n + ys.length) * bytes ≤ 140737488355328) (hbase : base ≤ w.heap.size)
    (h : ∀ v' w', w'.ownsRow base e 1 v' (n + ys.length) (xs ++ ints ys) → w.grownBy w' v.ownBlock → (v'.ownBlock = v.ownBlock ∨ v'.ownBlock = some w.heap.size) → wpList P ops Q rest (a.put o.dst v') w') : wpList P ops Q (o :: rest) a w :=
  wpList_plain hgd fun _ hK => wp_appI s x ho hE hs hown hx hy hb hB h63 hbytes hbase fun v' w' h2 h3 h4 => hK _ _ (h v' w' h2 h3 h4)
theorem step_appI (hgd : o.guard = none) (s x : Operand) (ho : o.op = .call { callee := .builtin .append, args := #[s, x], argTypes := #[t, t] }) (hE : ElemTy P t e z 1 bytes) (hs : a.eval s = v) (hown : w.ownsRow base e 1 v n xs) (hx : a.eval x = .slice A ys.length c) (hy : IntsAt B w0 A ys) (hb : Below B w0 w) (hB : B ≤ w.heap.size)
    (h63 : n + ys.length ≤ maxLen) (hbytes : (n + ys.length) * bytes ≤ 140737488355328) (hbase : base ≤ w.heap.size)
    (h : ∀ v' w', w'.ownsRow base e 1 v' (n + ys.length) (xs ++ ints ys) → w.grownBy w' v.ownBlock → (v'.ownBlock = v.ownBlock ∨ v'.ownBlock = some w.heap.size) → K (a.put o.dst v') w') : if Region.wanted o (yielded ops a.tmps) = true then Oper.wp P o a w K Q else X := by
  rw [if_pos (by simp [Region.wanted, hgd])]
  exact wp_appI s x ho hE hs hown hx hy hb hB h63 hbytes hbase h
end
end Go.Proofs.Ytpccgdkidnkppaa

set_option linter.unusedVariables false
set_option linter.unusedSimpArgs false
namespace Go.Proofs.Ytpccgdkidnkppaa
open Go Go.RowKit

theorem l4Free_calls (A A2 : Option Addr) (c c2 : Nat) (xs ys : List Int) (w : World) (hx : IntsAt w.heap.size w A xs) (hy : IntsAt w.heap.size w A2 ys) (hl : xs.length ≤ maxLen) (hl2 : ys.length ≤ maxLen) :
    Calls Try.prog 78 #[.slice A xs.length c, .slice A2 ys.length c2] w fun e w' => e = .returned (.bool (ys.all fun y => xs.contains y)) ∧ w = w' := by
  have hhas := fun (k : Int) => l2Has_calls A c xs k w.heap.size w w (Below.refl _ _) (Nat.le_refl _) hl hx
  unfold maxLen at hl2
  replace hhas := Lib.hid hhas
  replace hy := Lib.hid hy
  clear hx
  go_enter Try.func78, Try.ntmps78
  go_wp2_with fail
  go_loopw [5] (fun i wr => ∃ (j : Nat), j ≤ ys.length ∧ i = .int .i64 j ∧ wr = w ∧ Hid ((ys.all fun y => xs.contains y) = (ys.drop j).all fun y => xs.contains y)) (fun i _ => ys.length - (intOf i).toNat)
  case atStart => exact ⟨0, Nat.zero_le _, rfl, rfl, Lib.hid rfl⟩
  case round =>
    obtain ⟨j, hj, rfl, rfl, he⟩ := hrel
    by_cases hlt : j < ys.length
    · have he2 := he.out
      rw [List.drop_eq_getElem_cons hlt, List.all_cons] at he2
      obtain ⟨b, o, rfl, hbb, y⟩ := hy.out.at (Below.refl _ _) (Nat.le_refl _) j hlt
      have hcall := hhas.out ys[j]
      generalize ys[j] = k at *
      cases hck : xs.contains k with
      | true =>
        rw [hck] at hcall he2
        simp only [Bool.true_and] at he2
        replace he2 := Lib.hid he2
        replace hcall := Lib.hid hcall
        replace hck := Lib.hid hck
        go_wp2_with fail
        refine hcall.out.mono ?_
        rintro e w5 ⟨rfl, rfl⟩
        go_wp2_with fail
        go_roundw
        case rel => exact ⟨j + 1, by omega, by go_num, by first | rfl | trivial, he2⟩
        case measure => simp [intOf]; omega
      | false =>
        rw [hck] at hcall he2
        simp only [Bool.false_and] at he2
        replace he2 := Lib.hid he2
        replace hcall := Lib.hid hcall
        replace hck := Lib.hid hck
        go_wp2_with fail
        refine hcall.out.mono ?_
        rintro e w5 ⟨rfl, rfl⟩
        go_wp2_with fail
        go_ret
        exact ⟨by rw [he2.out]; rfl, by first | rfl | trivial⟩
    · have he2 := he.out
      rw [List.drop_eq_nil_of_le (by omega)] at he2
      replace he2 := Lib.hid he2
      go_wp2_with fail
      go_ret
      exact ⟨by rw [he2.out]; rfl, by first | rfl | trivial⟩

/-- a set of keys in memory, as a row of truths -/
def GivesBelow (made : List Bool) (may : Int → List Int) (keys : List Int) (w : World) (e : Ending) (w' : World) : Prop :=
  ∃ b X, e = .returned (.slice (some ⟨b, 0, none⟩) made.length made.length) ∧ RowBlk vB 4 w' b ((keysN made.length).map X) ∧ w.heap.size ≤ b ∧ (∀ k, X k = true ↔ Reach (mkK made) may keys k) ∧ Below w.heap.size w w'

set_option maxRecDepth 5000 in
set_option maxHeartbeats 1500000 in
theorem l4Below_calls (Am At Ak : Option Addr) (cm ct ck : Nat) (made : List Bool) (tasks : List Task) (keys : List Int) (B : Nat) (w0 w : World) (hb : Below B w0 w) (hB : B ≤ w.heap.size) (hs : SheetAt B w0 Am cm At ct made tasks) (hlen : made.length = tasks.length) (hten : made.length ≤ 10) (hnod : ∀ T ∈ tasks, nodes T ≤ 1000000000) (hx : IntsAt B w0 Ak keys) (hkl : keys.length ≤ 1048576) (hko : keysOk made.length keys = true) :
    Calls Try.prog 77 #[.agg #[.slice Am made.length cm, .slice At tasks.length ct], .slice Ak keys.length ck] w (GivesBelow made (mayS made tasks) keys w) := by
  have hc2 := fun w1 (hw : Below w.heap.size w w1) (q : Nat) (hq : q < tasks.length) => l3May_calls Am At cm ct made tasks B w0 w1 (below_up' hb hB hw) (Nat.le_trans hB hw.size) hs q hq (by omega) hten (hnod _ (List.getElem_mem hq))
  have hmay : ∀ (q : Nat) (hq : q < tasks.length), mayMade made tasks[q] = mayS made tasks q := fun q hq => by unfold mayS; rw [taskAt_get hq]
  have hmr : ∀ (k : Int), ∀ j ∈ mayS made tasks k, 0 ≤ j ∧ j < made.length := fun k j hj => (mayS_made j hj).2
  have hml : ∀ k : Int, (mayS made tasks k).length ≤ 10 := fun k => Nat.le_trans (List.length_filter_le _ _) (mayList_len _)
  have hmd := fun (q : Nat) (hq : q < made.length) w1 (hw : Below w.heap.size w w1) => hs.made.at (below_up' hb hB hw) (Nat.le_trans hB hw.size) q hq
  have hmkq : ∀ (q : Nat) (hq : q < made.length), mkK made q = made[q] := fun q hq => by unfold mkK; rw [if_neg (by omega), Int.toNat_natCast, getD_at _ hq]
  have hmk := make_bools made.length (by omega)
  have hrg := keysOk_iff.1 hko
  generalize mayS made tasks = may at *
  replace hc2 := Lib.hid hc2
  replace hmay := Lib.hid hmay
  replace hmr := Lib.hid hmr
  replace hml := Lib.hid hml
  replace hmd := Lib.hid hmd
  replace hmkq := Lib.hid hmkq
  replace hrg := Lib.hid hrg
  replace hlen := Lib.hid hlen
  replace hb := Lib.hid hb
  replace hx := Lib.hid hx
  clear hs hnod hko
  go_enter Try.func77, Try.ntmps77
  go_wp2_with (at_builtin; go_loud (with_reducible refine wpList_appI (base := w.heap.size) (v := .slice (some ⟨w.heap.size + 1 + 1, 0, none⟩) 0 0) (n := 0) (xs := []) (B := B) (w0 := w0) (by rfl) (.tmp 13) (.tmp 14) (by rfl) intTy (by with_unfolding_all rfl) ?_ (by with_unfolding_all rfl) hx.out ?_ ?_ ?_ ?_ ?_ ?_))
  · simpa using World.ownsRow_made (base := w.heap.size) (size := 1) (e := 3) ((w.alloc (.cells #[.slice Am made.length cm, .slice At tasks.length ct] 31 (0, 0))).alloc (.cells (madeCells #[.bool false] made.length) 4 (0, 0))) #[] 0 (by simp; omega) (by simp [maxLen]) rfl
  · exact below_al' (below_al' (below_al' hb.out _ hB) _ (by simp; omega)) _ (by simp; omega)
  · simp; omega
  · simp [maxLen]; omega
  · omega
  · simp; omega
  intro v1 w1 hown1 hgrow1 hat1
  have hW0 : Below w.heap.size w (((w.alloc (.cells #[.slice Am made.length cm, .slice At tasks.length ct] 31 (0, 0))).alloc (.cells (madeCells #[.bool false] made.length) 4 (0, 0))).alloc (.cells #[] 3 (0, 0))) := below_al (below_al (below_al (Below.refl _ _) _) _) _
  have b1 : Below w.heap.size w w1 := hW0.grown hgrow1 (by simp; omega) (fun k hk => by have := Option.some.inj (show some (w.heap.size + 1 + 1) = some k from hk); omega)
  have hbox1 : w1.heap[w.heap.size]? = some (.cells #[.slice Am made.length cm, .slice At tasks.length ct] 31 (0, 0)) := (hgrow1.block _ (by simp; omega) (fun e => by have := Option.some.inj (show some w.heap.size = some (w.heap.size + 1 + 1) from e); omega)).trans ((heap_old (by simp; omega)).trans ((heap_old (by simp)).trans (heap_new rfl)))
  have hR1 : RowBlk vB 4 w1 (w.heap.size + 1) ((keysN made.length).map (fun _ => false)) := by
    rw [← keysN_rep]
    exact made_blk ((hgrow1.block _ (by simp) (fun e => by have := Option.some.inj (show some (w.heap.size + 1) = some (w.heap.size + 1 + 1) from e); omega)).trans ((heap_old (by simp)).trans (heap_new (by simp))))
  have hown1' : w1.ownsRow w.heap.size 3 1 v1 keys.length (ints keys) := by simpa using hown1
  replace b1 := Lib.hid b1
  replace hbox1 := Lib.hid hbox1
  replace hR1 := Lib.hid hR1
  replace hown1' := Lib.hid hown1'
  clear hown1 hgrow1 hat1 hW0 hmk
  go_wp2_with fail
  go_loopw [6, 7, 8] (fun r i _ wr => ∃ (j : Nat) (Y : Int → Bool) (row : List Int), j ≤ row.length ∧ row.length ≤ 1048676 ∧ i = .int .i64 j ∧ Hid (BInv (mkK made) may made.length keys Y row j) ∧ Hid (wr.ownsRow w.heap.size 3 1 r row.length (ints row)) ∧ Hid (RowBlk vB 4 wr (w.heap.size + 1) ((keysN made.length).map Y)) ∧ Hid (wr.heap[w.heap.size]? = some (.cells #[.slice Am made.length cm, .slice At tasks.length ct] 31 (0, 0))) ∧ Hid (Below w.heap.size w wr)) (fun r i _ _ => 1048676 - (intOf i).toNat)
  case atStart => exact ⟨0, fun _ => false, keys, Nat.zero_le _, by omega, rfl, Lib.hid BInv.start, hown1', hR1, hbox1, b1⟩
  case round =>
    obtain ⟨j, Y, row, hj, hrl, rfl, hI, hown, hR, hbox, hw⟩ := hrel
    obtain ⟨Ar, cr, er, hr1, hr2, hir⟩ := ownsRow_ints hown.out
    subst er
    unfold maxLen at hr2
    replace hir := Lib.hid hir
    by_cases hlt : j < row.length
    · obtain ⟨b, o, eA, hbb, y⟩ := hir.out.at (Below.refl _ _) (Nat.le_refl _) j hlt
      subst eA
      have hkr := hI.out.range hrg.out hmr.out _ (List.getElem_mem hlt)
      have hskip := hI.out.skip hlt
      have hpush := fun q hq => hI.out.push hlt (q := q) hq
      generalize hk : row[j] = k at *
      obtain ⟨q, rfl⟩ := Int.eq_ofNat_of_zero_le hkr.1
      have hq : q < made.length := by omega
      have hqt : q < tasks.length := by have := hlen.out; omega
      have hmkq' := hmkq.out q hq
      have z := hR.out.cell (i := q) (by simpa [keysN] using hq)
      simp only [List.getElem_map, keysN_get] at z
      have hbz := hR.out.lt
      have hz := block_lt hbox.out
      have hwz := hw.out.size
      replace hk := Lib.hid hk
      clear hkr
      cases hY : Y q with
      | true =>
        rw [hY] at z
        have hs := hskip (.inr hY)
        replace hs := Lib.hid hs
        replace hpush := Lib.hid hpush
        replace hY := Lib.hid hY
        replace hmkq' := Lib.hid hmkq'
        clear hskip
        go_wp2_with fail
        go_roundw
        case rel => exact ⟨j + 1, Y, row, by omega, hrl, by go_num, hs, hown, hR, hbox, hw⟩
        case measure => simp [intOf]; omega
      | false =>
        rw [hY] at z
        obtain ⟨bm, om, rfl, hbm, cm2⟩ := hmd.out q hq wr hw.out
        have x0 : wr.cell? ⟨w.heap.size, 0, none⟩ = some (.slice (some ⟨bm, om, none⟩) made.length cm) := (cellm hbox.out 0).trans rfl
        have x1 : wr.cell? ⟨w.heap.size, 1, none⟩ = some (.slice At tasks.length ct) := (cellm hbox.out 1).trans rfl
        generalize made[q] = mq at *
        cases mq with
        | false =>
          have hs := hskip (.inl hmkq')
          replace hs := Lib.hid hs
          replace hpush := Lib.hid hpush
          replace hY := Lib.hid hY
          replace hmkq' := Lib.hid hmkq'
          clear hskip
          go_wp2_with fail
          go_roundw
          case rel => exact ⟨j + 1, Y, row, by omega, hrl, by go_num, hs, hown, hR, hbox, hw⟩
          case measure => simp [intOf]; omega
        | true =>
          have hp := hpush q rfl hq hmkq' hY (hml.out q)
          have hRs := hR.out.set q true
          rw [keysN_set] at hRs
          have hbS : Below w.heap.size w (wr.setCell ⟨w.heap.size + 1, q, none⟩ (.bool true)) := hw.out.setCell (by simp) _
          have hboxS := (setCell_far (v := .bool true) (w := wr) (m := w.heap.size + 1) (j := q) (show w.heap.size ≠ w.heap.size + 1 by omega)).trans hbox.out
          have hne := ownsRow_ne hown.out hR.out (fun c e => by cases e)
          have hownS : (wr.setCell ⟨w.heap.size + 1, q, none⟩ (.bool true)).ownsRow w.heap.size 3 1 (.slice (some ⟨b, o, none⟩) row.length cr) row.length (ints row) := ownsRow_block hown.out (fun i hi => setCell_far (own_far hi hne))
          have hcall := hc2.out _ hbS q hqt
          rw [hmay.out q hqt] at hcall
          have hplen := hp.len
          have hcn := cntN_le (setX Y q) made.length
          have hmlq := hml.out q
          rw [List.length_append] at hplen
          have q0 : (wr.setCell ⟨w.heap.size + 1, q, none⟩ (.bool true)).cell? ⟨w.heap.size, 0, none⟩ = some (.slice (some ⟨bm, om, none⟩) made.length cm) := (cellm hboxS 0).trans rfl
          have q1 : (wr.setCell ⟨w.heap.size + 1, q, none⟩ (.bool true)).cell? ⟨w.heap.size, 1, none⟩ = some (.slice At tasks.length ct) := (cellm hboxS 1).trans rfl
          have f0 := hR.out.frozen q
          generalize may q = L at *
          replace hp := Lib.hid hp
          replace hRs := Lib.hid hRs
          replace hbS := Lib.hid hbS
          replace hboxS := Lib.hid hboxS
          replace hownS := Lib.hid hownS
          replace hcall := Lib.hid hcall
          replace hpush := Lib.hid hpush
          replace hY := Lib.hid hY
          replace hmkq' := Lib.hid hmkq'
          replace hne := Lib.hid hne
          clear hskip hown hR hbox hw
          go_wp2_with fail
          refine hcall.out.mono ?_
          rintro e w5 ⟨vL, rfl, hownL, h5⟩
          have hown5 := ownsRow_block hownS.out (fun i hi => h5.block i (hownS.out.lt i hi).2)
          have hR5 := hRs.out.turn (h5.block _ hRs.out.lt)
          have hbox5 := (h5.block _ (block_lt hboxS.out)).trans hboxS.out
          have hb5 := below_up hbS.out h5
          obtain ⟨AL, cL, rfl, hL1, hL2, hiL⟩ := ownsRow_ints hownL
          have hw5z := hb5.size
          replace hown5 := Lib.hid hown5
          replace hR5 := Lib.hid hR5
          replace hbox5 := Lib.hid hbox5
          replace hb5 := Lib.hid hb5
          replace hiL := Lib.hid hiL
          clear hcall hownL h5 hownS hRs hboxS hbS q0 q1 x0 x1 z f0
          unfold maxLen at hL2
          go_wp2_with (at_builtin; go_loud (with_reducible refine wpList_appI (base := w.heap.size) (v := .slice (some ⟨b, o, none⟩) row.length cr) (n := row.length) (xs := ints row) (B := w5.heap.size) (w0 := w5) (by rfl) (.tmp 41) (.tmp 44) (by rfl) intTy (by with_unfolding_all rfl) hown5.out (by with_unfolding_all rfl) hiL.out (Below.refl _ _) (Nat.le_refl _) ?_ ?_ ?_ ?_))
          · unfold maxLen; omega
          · omega
          · omega
          intro v7 w7 hown7 hgrow7 hat7
          have hR7 := hR5.out.turn (hgrow7.block _ hR5.out.lt (fun e => ownsRow_ne hown5.out hR5.out (fun c e => by cases e) e.symm))
          have hbox7 := (hgrow7.block _ (block_lt hbox5.out) (fun e => ownsRow_ne hown5.out hbox5.out (fun c e => by cases e) e.symm)).trans hbox5.out
          have hb7 := hb5.out.grown hgrow7 hw5z (fun i hi => (hown5.out.lt i hi).1)
          have hown7' : w7.ownsRow w.heap.size 3 1 v7 (row ++ L).length (ints (row ++ L)) := by
            rw [ints_append, List.length_append]; exact hown7
          replace hR7 := Lib.hid hR7
          replace hbox7 := Lib.hid hbox7
          replace hb7 := Lib.hid hb7
          replace hown7' := Lib.hid hown7'
          clear hown7 hgrow7 hat7 hown5 hR5 hbox5 hb5
          go_wp2_with fail
          go_roundw
          case rel => exact ⟨j + 1, setX Y q, row ++ L, by simp; omega, by simp; omega, by go_num, hp, hown7', hR7, hbox7, hb7⟩
          case measure => simp [intOf]; omega
    · have hreach := hI.out.reach (by omega)
      replace hreach := Lib.hid hreach
      go_wp2_with fail
      go_ret
      exact ⟨_, Y, rfl, hR.out, by omega, hreach.out, hw.out⟩
end Go.Proofs.Ytpccgdkidnkppaa
