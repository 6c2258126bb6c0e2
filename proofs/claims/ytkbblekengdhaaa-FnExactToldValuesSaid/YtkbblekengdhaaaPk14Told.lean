import Derived.Deep.RegionHeld3
import Derived.Laws.EntriesVeiled
import Derived.Test.YtkbblekengdhaaaPk9Told
import Derived.Test.YtkbblekengdhaaaPk10Told
import Derived.Test.YtkbblekengdhaaaPk11Told
import Derived.Test.YtkbblekengdhaaaPk12Told
import Derived.Test.YtkbblekengdhaaaPk13Told
set_option linter.unusedVariables false
set_option linter.unusedSimpArgs false
namespace Go.Proofs.Ytkbblekengdhaaa
open Go Go.RowKit

theorem vmap_made {P : Program} {tk : TypeId} {W : World} {b : Nat} {f : Int → Option Value} (hb : W.heap[b]? = some (.map #[] 0)) (hf : ∀ k, f k = none) : VMap P tk W b f 0 := by
  obtain rfl : f = fun _ => none := funext hf
  exact ⟨.map [], ⟨#[], 0, hb, ⟨by simp, Go.MapKept.stamped_empty 0, by simp⟩, Nat.le_refl _, rfl⟩, rfl, fun k _ => ⟨rfl, fun z => rfl⟩⟩

/-- a result that is the set of what is reached -/
def GivesSet (made : List Bool) (nx : Int → List Int) (keys : List Int) (w : World) (e : Ending) (w' : World) : Prop :=
  ∃ mb X, e = .returned (.map (some mb)) ∧ VMap Try.prog 3 w' mb (setF X) (cntN X made.length) ∧ (∀ k, X k = true ↔ Reach (mkK made) nx keys k) ∧ w.heap.size ≤ mb ∧ Below w.heap.size w w'

set_option maxRecDepth 5000 in
set_option maxHeartbeats 8000000 in
theorem reached_calls (Am At Ak : Option Addr) (cm nt ct ck : Nat) (made : List Bool) (g : Nat) (first cap : Array Value) (nx : Int → List Int) (keys : List Int) (w : World) (hten : made.length ≤ 10) (hmade : BoolsAt w.heap.size w Am made) (hg : Enters Try.prog g)
    (hnx : ∀ k w', mkK made k = true → Below w.heap.size w w' → w.heap.size ≤ w'.heap.size → Calls Try.prog g (first ++ #[.int .i64 k] ++ cap) w' (fun e w'' => ∃ v, e = .returned v ∧ w''.ownsRow w'.heap.size 3 1 v (nx k).length (ints (nx k)) ∧ Below w'.heap.size w' w''))
    (hk : IntsAt w.heap.size w Ak keys) (hkl : keys.length ≤ maxLen) :
    Calls Try.prog 108 #[.agg #[.slice Am made.length cm, .slice At nt ct], .slice Ak keys.length ck, .func (.func g) first cap] w (GivesSet made nx keys w) := by
  have hcall := reached1_calls Am At cm nt ct made g first cap nx w.heap.size w hten hmade hg hnx (w.heap.size) (w.heap.size + 1 + 1 + 1) (w.heap.size + 1 + 1 + 1 + 1) (w.heap.size + 1) (w.heap.size + 1 + 1) made.length (fun _ => false)
  replace hcall := Lib.hid hcall
  replace hk := Lib.hid hk
  clear hnx hmade
  have hmm := @run_makeMap Try.prog
  go_enter Try.func108, Try.ntmps108
  go_wp2_with ((with_reducible refine wpList_call_value (by rfl) (.tmp 11) _ _ (by rfl) 143 #[] #[.pointer (some ⟨w.heap.size, 0, none⟩), .pointer (some ⟨w.heap.size + 1 + 1 + 1, 0, none⟩), .pointer (some ⟨w.heap.size + 1 + 1 + 1 + 1, 0, none⟩), .pointer (some ⟨w.heap.size + 1, 0, none⟩)] (by with_unfolding_all rfl) (enters_of Try.func143 (by kernel_rfl) rfl) ?_))
  refine (hcall.out _ Ak ck keys (by rw [cntN_zero]; rfl) ⟨?_, ?_, ?_, ?_, ?_, ?_, ?_, ?_, ?_⟩ ?_ hkl).mono ?_
  · exact (heap_old (by first | (simp; done) | (simp; omega))).trans ((heap_old (by first | (simp; done) | (simp; omega))).trans ((heap_old (by first | (simp; done) | (simp; omega))).trans ((heap_old (by simp)).trans (heap_new rfl))))
  · exact ⟨_, (heap_old (by simp)).trans (heap_new (by simp))⟩
  · exact ⟨_, heap_new (by simp)⟩
  · exact ⟨_, (heap_old (by first | (simp; done) | (simp; omega))).trans ((heap_old (by first | (simp; done) | (simp; omega))).trans ((heap_old (by simp)).trans (heap_new (by simp))))⟩
  · rw [cntN_zero]
    exact vmap_made ((heap_old (by first | (simp; done) | (simp; omega))).trans ((heap_old (by simp)).trans (heap_new (by simp)))) (fun k => by simp [setF])
  · intro k hk; cases hk
  · omega
  · exact below_al (below_al (below_al (below_al (below_al (Below.refl _ _) _) _) _) _) _
  · simp; omega
  · exact hk.out.up (below_al (below_al (below_al (below_al (below_al (Below.refl _ _) _) _) _) _) _) (by simp; omega)
  rintro e w1 ⟨⟨v, rfl⟩, Y, hC, hR, hT⟩
  have o0 := hC.vo.cell
  have hb1 := hC.below
  have hM := hC.m
  have hr := hR.reach
  replace hb1 := Lib.hid hb1
  replace hM := Lib.hid hM
  replace hr := Lib.hid hr
  clear hC hR hT
  refine ⟨_, rfl, ?_⟩
  go_wp2_with fail
  go_ret
  exact ⟨_, Y, rfl, hM.out, hr.out, by omega, hb1.out⟩

set_option maxRecDepth 5000 in
set_option maxHeartbeats 8000000 in
theorem sheetSafe_calls (Am At : Option Addr) (cm ct : Nat) (made : List Bool) (tasks : List Task) (B : Nat) (w0 w : World) (hb : Below B w0 w) (hB : B ≤ w.heap.size) (hs : SheetAt B w0 Am cm At ct made tasks) :
    Calls Try.prog 68 #[.agg #[.slice Am made.length cm, .slice At tasks.length ct]] w fun e w' => e = .returned (.bool (safeP made tasks)) ∧ Below w.heap.size w w' := by
  have hc1 := fun w1 (hw : Below w.heap.size w w1) => sheetOk_calls Am At cm ct made tasks B w0 w1 (below_up' hb hB hw) (Nat.le_trans hB hw.size) hs
  have hsf : safeP made tasks = implSafeP made tasks := (safe_same made tasks).symm
  unfold implSafeP at hsf
  cases hok : sheetOk made tasks with
  | false =>
    rw [hok] at hc1 hsf
    replace hc1 := Lib.hid hc1
    replace hsf := Lib.hid hsf
    clear hok hs hb
    go_enter Try.func68, Try.ntmps68
    go_wp2_with fail
    refine (hc1.out _ (below_al (Below.refl _ _) _)).mono ?_
    rintro e w1 ⟨rfl, h1⟩
    go_wp2_with fail
    go_ret
    exact ⟨by rw [hsf.out]; rfl, below_from h1⟩
  | true =>
    rw [hok, Bool.true_and] at hsf
    rw [hok] at hc1
    have hok2 := hok
    simp only [sheetOk, Bool.and_eq_true, decide_eq_true_eq] at hok
    have hlen := hok.1.1
    have hten := hok.1.2
    have hkc := fun w1 => keys_calls Am At made.length cm tasks.length ct w1 (by omega)
    have hrc := fun w1 (hw : Below w.heap.size w w1) (Ak : Option Addr) (ck : Nat) (hk : IntsAt w1.heap.size w1 Ak (keysN made.length)) =>
      reached_calls Am At Ak cm tasks.length ct ck made 109 #[.agg #[.slice Am made.length cm, .slice At tasks.length ct]] #[] (mayS made tasks) (keysN made.length) w1 hten (hs.made.up (below_up' hb hB hw) (Nat.le_trans hB hw.size))
        (enters_of Try.func109 (by kernel_rfl) rfl) (fun k w' hm h1 h2 => by
          have hkr := mkK_range (show mkK made k ≠ false by rw [hm]; simp)
          obtain ⟨q, rfl⟩ := Int.eq_ofNat_of_zero_le hkr.1
          have hq : q < tasks.length := by omega
          have := sheetMay_calls Am At cm ct made tasks B w0 w' (below_up' (below_up' hb hB hw) (Nat.le_trans hB hw.size) h1) (Nat.le_trans hB (Nat.le_trans hw.size h2)) hs q hq
          rw [show mayMade made tasks[q] = mayS made tasks q by unfold mayS; rw [taskAt_get hq]] at this
          simpa using this) hk (by rw [keysN_length]; unfold maxLen; omega)
    have htc := fun w1 (hw : Below w.heap.size w w1) (mb : Nat) (X : Int → Bool) (hM : VMap Try.prog 3 w1 mb (setF X) (cntN X made.length)) => topo_calls Am At cm ct made tasks B w0 w1 (below_up' hb hB hw) (Nat.le_trans hB hw.size) hs hlen hten mb _ X hM (Nat.le_trans (cntN_le _ _) hten)
    have hXall : ∀ X : Int → Bool, (∀ k, X k = true ↔ Reach (mkK made) (mayS made tasks) (keysN made.length) k) → X = mkK made := by
      intro X hX
      funext k
      rw [Bool.eq_iff_iff, hX]
      refine ⟨fun h => h.isMade, fun h => .here k ?_ h⟩
      exact mem_keysN.2 (mkK_range (by rw [h]; simp))
    replace hc1 := Lib.hid hc1
    replace hsf := Lib.hid hsf
    replace hkc := Lib.hid hkc
    replace hrc := Lib.hid hrc
    replace htc := Lib.hid htc
    replace hXall := Lib.hid hXall
    replace hlen := Lib.hid hlen
    clear hok hok2 hs hb
    go_enter Try.func68, Try.ntmps68
    go_wp2_with fail
    refine (hc1.out _ (below_al (Below.refl _ _) _)).mono ?_
    rintro e w1 ⟨rfl, h1⟩
    have x0 : w1.cell? ⟨w.heap.size, 0, none⟩ = some (.slice Am made.length cm) := (h1.cell (p := ⟨w.heap.size, 0, none⟩) (by simp)).trans (by simp)
    have x1 : w1.cell? ⟨w.heap.size, 1, none⟩ = some (.slice At tasks.length ct) := (h1.cell (p := ⟨w.heap.size, 1, none⟩) (by simp)).trans (by simp)
    have b1 : Below w.heap.size w w1 := below_from h1
    have s1 : w.heap.size < w1.heap.size := by have := h1.size; simp at this; omega
    replace b1 := Lib.hid b1
    clear h1 hc1
    go_wp2_with fail
    go_region_held3 (fun w' => w'.cell? ⟨w.heap.size, 0, none⟩ = some (.slice Am made.length cm) ∧ w'.cell? ⟨w.heap.size, 1, none⟩ = some (.slice At tasks.length ct) ∧ w.heap.size < w'.heap.size ∧ Hid (Below w.heap.size w w')) (first | exact ⟨l0, l1, l2, l3⟩ | exact ⟨j0, j1, j2, j3⟩ | exact ⟨k0, k1, k2, k3⟩ | exact ⟨x0, x1, s1, Lib.hid b1.out.drew⟩ | exact ⟨x0, x1, s1, b1⟩)
      (first
        | (go_at_call 78; refine (hkc.out _).mono ?_; rintro e w2 ⟨v2, rfl, hown2, h2⟩; obtain ⟨Ak, ck, rfl, hk1, hk2, hk3⟩ := ownsRow_ints hown2; have k0 : w2.cell? ⟨w.heap.size, 0, none⟩ = some (.slice Am made.length cm) := kept_cell h2 s1 x0; have k1 : w2.cell? ⟨w.heap.size, 1, none⟩ = some (.slice At tasks.length ct) := kept_cell h2 s1 x1; have k2 : w.heap.size < w2.heap.size := by { have := h2.size; simp at this; omega }; have k3 : Hid (Below w.heap.size w w2) := Lib.hid (below_up b1.out.drew h2); replace hk3 := Lib.hid hk3; clear h2 hown2)
        | (go_at_call 108; refine (hrc.out _ k3.out Ak ck hk3.out).mono ?_; rintro e w3 ⟨mb, X, rfl, hM3, hX3, hmb3, h3⟩; have j0 : w3.cell? ⟨w.heap.size, 0, none⟩ = some (.slice Am made.length cm) := kept_cell h3 k2 k0; have j1 : w3.cell? ⟨w.heap.size, 1, none⟩ = some (.slice At tasks.length ct) := kept_cell h3 k2 k1; have j2 : w.heap.size < w3.heap.size := by { have := h3.size; omega }; have j3 : Hid (Below w.heap.size w w3) := Lib.hid (below_up k3.out h3); clear h3)
        | (go_at_call 107; refine (htc.out _ j3.out mb X hM3).mono ?_; rintro e w4 ⟨v4, rfl, hown4, h4⟩; have l0 : w4.cell? ⟨w.heap.size, 0, none⟩ = some (.slice Am made.length cm) := kept_cell h4 j2 j0; have l1 : w4.cell? ⟨w.heap.size, 1, none⟩ = some (.slice At tasks.length ct) := kept_cell h4 j2 j1; have l2 : w.heap.size < w4.heap.size := by { have := h4.size; omega }; have l3 : Hid (Below w.heap.size w w4) := Lib.hid (below_up j3.out h4)))
    all_goals
      have hfin : safeP made tasks = (topoP X (mayS made tasks) made.length (cntN X made.length) []).2 := by rw [hsf.out, hXall.out X hX3]
      replace hfin := Lib.hid hfin
      go_wp2_with fail
      go_ret
      exact ⟨by rw [hfin.out]; rfl, l3.out⟩
end Go.Proofs.Ytkbblekengdhaaa

set_option linter.unusedVariables false
set_option linter.unusedSimpArgs false
namespace Go.Proofs.Ytkbblekengdhaaa
open Go Go.RowKit

theorem all1_calls (b : Nat) (A A2 : Option Addr) (n c n2 c2 : Nat) (k : Int) (w : World) (x0 : w.cell? ⟨b, 0, none⟩ = some (.slice A n c)) (x1 : w.cell? ⟨b, 1, none⟩ = some (.slice A2 n2 c2)) :
    Calls Try.prog 145 #[.int .i64 k, .pointer (some ⟨b, 0, none⟩)] w fun e w' => e = .returned (.bool (!decide (0 ≤ k ∧ k < n))) ∧ Below w.heap.size w w' := by
  have h := has_calls A A2 n c n2 c2 k w
  generalize hd : decide (0 ≤ k ∧ k < n) = d at *
  replace hd := Lib.hid hd
  replace h := Lib.hid h
  go_enter Try.func145, Try.ntmps145
  go_wp2_with fail
  refine h.out.mono ?_
  rintro e w1 ⟨rfl, h1⟩
  replace h1 := Lib.hid h1
  go_wp2_with fail
  go_ret
  exact ⟨rfl, h1.out⟩
theorem any_keysOk (n : Nat) (keys : List Int) : (!(keys.any fun k => !decide (0 ≤ k ∧ k < n))) = keysOk n keys := by
  unfold keysOk
  induction keys with
  | nil => rfl
  | cons k ks ih => rw [List.any_cons, List.all_cons, ← ih]; cases decide (0 ≤ k ∧ k < (n : Int)) <;> simp
theorem all_calls (A A2 Ak : Option Addr) (n c n2 c2 ck : Nat) (keys : List Int) (B : Nat) (w0 w : World) (hb : Below B w0 w) (hB : B ≤ w.heap.size) (hm : keys.length ≤ maxLen) (hx : IntsAt B w0 Ak keys) :
    Calls Try.prog 112 #[.agg #[.slice A n c, .slice A2 n2 c2], .slice Ak keys.length ck] w fun e w' => e = .returned (.bool (keysOk n keys)) ∧ Below w.heap.size w w' := by
  have h := containsFunc_calls (fun k => !decide (0 ≤ k ∧ k < n)) 145 #[] #[.pointer (some ⟨w.heap.size, 0, none⟩)] (enters_of Try.func145 (by kernel_rfl) rfl) Ak ck keys B w0 (w.alloc (.cells #[.slice A n c, .slice A2 n2 c2] 26 (0, 0)))
    (below_al' hb _ hB) (by simp; omega) hm hx (fun x w' _ hw => by
      have x0 : w'.cell? ⟨w.heap.size, 0, none⟩ = some (.slice A n c) := (hw.cell (p := ⟨w.heap.size, 0, none⟩) (by simp)).trans (by simp)
      have x1 : w'.cell? ⟨w.heap.size, 1, none⟩ = some (.slice A2 n2 c2) := (hw.cell (p := ⟨w.heap.size, 1, none⟩) (by simp)).trans (by simp)
      simpa using all1_calls w.heap.size A A2 n c n2 c2 x w' x0 x1)
  have hr := any_keysOk n keys
  generalize (keys.any fun k => !decide (0 ≤ k ∧ k < n)) = q at *
  rw [← hr]
  replace h := Lib.hid h
  clear hr hx hb
  go_enter Try.func112, Try.ntmps112
  go_wp2_with fail
  refine h.out.mono ?_
  rintro e w1 ⟨rfl, h1⟩
  replace h1 := Lib.hid h1
  go_wp2_with fail
  go_ret
  exact ⟨rfl, below_from h1.out⟩

end Go.Proofs.Ytkbblekengdhaaa

set_option linter.unusedVariables false
set_option linter.unusedSimpArgs false
namespace Go.Proofs.Ytkbblekengdhaaa
open Go Go.RowKit

theorem own_low2 {w : World} {base base' : Nat} {e : TypeId} {size : Nat} {v : Value} {n : Nat} {xs : List Value} (h : w.ownsRow base e size v n xs) (hl : base' ≤ base) : w.ownsRow base' e size v n xs := by
  obtain ⟨h1, h2⟩ := h
  refine ⟨h1, h2.imp id ?_⟩
  rintro ⟨g, cap, cur, hv, hb, h3⟩
  exact ⟨g, cap, cur, hv, Nat.le_trans hl hb, h3⟩
/-- an order of all that is reached -/
def GivesTopo (made : List Bool) (tasks : List Task) (keys : List Int) (w : World) (e : Ending) (w' : World) : Prop :=
  ∃ X, (∀ k, X k = true ↔ Reach (mkK made) (mayS made tasks) keys k) ∧ GivesRow (topoP X (mayS made tasks) made.length (cntN X made.length) []) e w w'

set_option maxRecDepth 5000 in
set_option maxHeartbeats 8000000 in
theorem orderTopo_good (Am At Ak : Option Addr) (cm ct ck : Nat) (made : List Bool) (tasks : List Task) (keys : List Int) (B : Nat) (w0 w : World) (hb : Below B w0 w) (hB : B ≤ w.heap.size) (hs : SheetAt B w0 Am cm At ct made tasks) (hsafe : safeP made tasks = true) (hx : IntsAt B w0 Ak keys) (hkl : keys.length ≤ maxLen) (hko : keysOk made.length keys = true) :
    Calls Try.prog 77 #[.agg #[.slice Am made.length cm, .slice At tasks.length ct], .slice Ak keys.length ck] w (GivesTopo made tasks keys w) := by
  have hok : sheetOk made tasks = true := by unfold safeP at hsafe; rw [Bool.and_eq_true] at hsafe; exact hsafe.1
  simp only [sheetOk, Bool.and_eq_true, decide_eq_true_eq] at hok
  have hlen : made.length = tasks.length := hok.1.1
  have hten : made.length ≤ 10 := hok.1.2
  have hc1 := fun w1 (hw : Below w.heap.size w w1) => sheetSafe_calls Am At cm ct made tasks B w0 w1 (below_up' hb hB hw) (Nat.le_trans hB hw.size) hs
  rw [hsafe] at hc1
  have hc3 := fun w1 (hw : Below w.heap.size w w1) => all_calls Am At Ak made.length cm tasks.length ct ck keys B w0 w1 (below_up' hb hB hw) (Nat.le_trans hB hw.size) hkl hx
  rw [hko] at hc3
  have hrc := fun w1 (hw : Below w.heap.size w w1) =>
    reached_calls Am At Ak cm tasks.length ct ck made 109 #[.agg #[.slice Am made.length cm, .slice At tasks.length ct]] #[] (mayS made tasks) keys w1 hten (hs.made.up (below_up' hb hB hw) (Nat.le_trans hB hw.size))
      (enters_of Try.func109 (by kernel_rfl) rfl) (fun k w' hm h1 h2 => by
        have hkr := mkK_range (show mkK made k ≠ false by rw [hm]; simp)
        obtain ⟨q, rfl⟩ := Int.eq_ofNat_of_zero_le hkr.1
        have hq : q < tasks.length := by omega
        have := sheetMay_calls Am At cm ct made tasks B w0 w' (below_up' (below_up' hb hB hw) (Nat.le_trans hB hw.size) h1) (Nat.le_trans hB (Nat.le_trans hw.size h2)) hs q hq
        rw [show mayMade made tasks[q] = mayS made tasks q by unfold mayS; rw [taskAt_get hq]] at this
        simpa using this) (hx.up (below_up' hb hB hw) (Nat.le_trans hB hw.size)) hkl
  have htc := fun w1 (hw : Below w.heap.size w w1) (mb : Nat) (X : Int → Bool) (hM : VMap Try.prog 3 w1 mb (setF X) (cntN X made.length)) => topo_calls Am At cm ct made tasks B w0 w1 (below_up' hb hB hw) (Nat.le_trans hB hw.size) hs hlen hten mb _ X hM (Nat.le_trans (cntN_le _ _) hten)
  replace hc1 := Lib.hid hc1
  replace hc3 := Lib.hid hc3
  replace hrc := Lib.hid hrc
  replace htc := Lib.hid htc
  replace hsafe := Lib.hid hsafe
  replace hlen := Lib.hid hlen
  clear hs hb hx hok hko
  go_enter Try.func77, Try.ntmps77
  go_wp2_with fail
  refine (hc1.out _ (below_al (Below.refl _ _) _)).mono ?_
  rintro e w1 ⟨rfl, h1⟩
  have x0 : w1.cell? ⟨w.heap.size, 0, none⟩ = some (.slice Am made.length cm) := (h1.cell (p := ⟨w.heap.size, 0, none⟩) (by simp)).trans (by simp)
  have x1 : w1.cell? ⟨w.heap.size, 1, none⟩ = some (.slice At tasks.length ct) := (h1.cell (p := ⟨w.heap.size, 1, none⟩) (by simp)).trans (by simp)
  have b1 := below_from h1
  have s1 : w.heap.size < w1.heap.size := by have := h1.size; simp at this; omega
  replace b1 := Lib.hid b1
  clear h1 hc1
  go_wp2_with fail
  refine (hc3.out _ b1.out).mono ?_
  rintro e w2 ⟨rfl, h2⟩
  have y0 : w2.cell? ⟨w.heap.size, 0, none⟩ = some (.slice Am made.length cm) := kept_cell h2 s1 x0
  have y1 : w2.cell? ⟨w.heap.size, 1, none⟩ = some (.slice At tasks.length ct) := kept_cell h2 s1 x1
  have b2 := below_up b1.out h2
  have s2 : w.heap.size < w2.heap.size := by have := h2.size; omega
  replace b2 := Lib.hid b2
  clear h2 x0 x1 s1 b1 hc3
  go_wp2_with fail
  go_region_held3 (fun w' => w'.cell? ⟨w.heap.size, 0, none⟩ = some (.slice Am made.length cm) ∧ w'.cell? ⟨w.heap.size, 1, none⟩ = some (.slice At tasks.length ct)) (first | exact ⟨l0, l1⟩ | exact ⟨j0, j1⟩ | exact ⟨y0, y1⟩)
    (first
      | (go_at_call 108; refine (hrc.out _ b2.out.drew).mono ?_; rintro e w3 ⟨mb, X, rfl, hM3, hX3, hmb3, h3⟩; have j0 : w3.cell? ⟨w.heap.size, 0, none⟩ = some (.slice Am made.length cm) := kept_cell h3 s2 y0; have j1 : w3.cell? ⟨w.heap.size, 1, none⟩ = some (.slice At tasks.length ct) := kept_cell h3 s2 y1; have j2 : w.heap.size < w3.heap.size := by { have := h3.size; simp at this; omega }; have j3 : Hid (Below w.heap.size w w3) := Lib.hid (below_up b2.out.drew h3); clear h3)
      | (go_at_call 107; refine (htc.out _ j3.out mb X hM3).mono ?_; rintro e w4 ⟨v4, rfl, hown4, h4⟩; have l0 : w4.cell? ⟨w.heap.size, 0, none⟩ = some (.slice Am made.length cm) := kept_cell h4 j2 j0; have l1 : w4.cell? ⟨w.heap.size, 1, none⟩ = some (.slice At tasks.length ct) := kept_cell h4 j2 j1; have l3 : Hid (Below w.heap.size w w4) := Lib.hid (below_up j3.out h4)))
  all_goals
    have hown4' := own_low2 hown4 j3.out.size
    replace hown4' := Lib.hid hown4'
    go_wp2_with fail
    go_ret2
    exact ⟨X, hX3, _, rfl, hown4'.out, l3.out⟩
end Go.Proofs.Ytkbblekengdhaaa

set_option linter.unusedVariables false
set_option linter.unusedSimpArgs false
namespace Go.Proofs.Ytkbblekengdhaaa
open Go Go.RowKit

/-- the reference's order while it grows -/
structure TSt (w : World) (box : Obj) (bd n : Nat) (X : Int → Bool) (out : List Int) (vo : Value) (wr : World) : Prop where
  own : wr.ownsRow w.heap.size 3 1 vo out.length (ints out)
  blw : RowBlk vB 4 wr bd ((keysN n).map X)
  box : wr.heap[w.heap.size]? = some box
  below : Below w.heap.size w wr
section
variable {w wr w2 : World} {box o : Obj} {bd n : Nat} {X : Int → Bool} {out : List Int} {vo v' : Value} {x : Int}
theorem TSt.up (h : TSt w box bd n X out vo wr) (hb : Below wr.heap.size wr w2) : TSt w box bd n X out vo w2 :=
  ⟨ownsRow_block h.own (fun i hi => hb.block i (h.own.lt i hi).2), h.blw.turn (hb.block _ h.blw.lt), (hb.block _ (block_lt h.box)).trans h.box, below_up h.below hb⟩
theorem TSt.app (h : TSt w box bd n X out vo wr) (hbx : ∀ c, box ≠ .cells c 3 (0, 0)) (hg : (wr.alloc o).grownBy w2 vo.ownBlock) (ho : w2.ownsRow w.heap.size 3 1 v' (out.length + 1) (ints out ++ [.int .i64 x])) : TSt w box bd n X (out ++ [x]) v' w2 :=
  ⟨by rw [ints_append, List.length_append, List.length_singleton]; exact ho,
   h.blw.turn (far_grown hg h.blw.lt (ownsRow_ne h.own h.blw (fun c e => by cases e))),
   (far_grown hg (block_lt h.box) (ownsRow_ne h.own h.box hbx)).trans h.box,
   (below_al' h.below o h.below.size).grown hg (by have := h.below.size; simp; omega) (fun i hi => (h.own.lt i hi).1)⟩
end
theorem nextK_no {X : Int → Bool} {may : Int → List Int} {n : Nat} {out : List Int} (h : ∀ j : Nat, j < n → freeK X may out j = false) : nextK X may n out = none := by
  unfold nextK
  rw [List.find?_eq_none]
  intro q hq
  rw [h q (List.mem_range.1 hq)]
  simp
def boolN : Value → Nat
  | .bool true => 1
  | _ => 0

set_option maxRecDepth 5000 in
set_option maxHeartbeats 8000000 in
theorem specOrderTopo_good (Am At Ak : Option Addr) (cm ct ck : Nat) (made : List Bool) (tasks : List Task) (keys : List Int) (B : Nat) (w0 w : World) (hb : Below B w0 w) (hB : B ≤ w.heap.size) (hs : SheetAt B w0 Am cm At ct made tasks) (hsafe : safeP made tasks = true) (hnod : ∀ T ∈ tasks, nodes T ≤ 1000000000) (hx : IntsAt B w0 Ak keys) (hkl : keys.length ≤ 1048576) (hko : keysOk made.length keys = true) :
    Calls Try.prog 86 #[.agg #[.slice Am made.length cm, .slice At tasks.length ct], .slice Ak keys.length ck] w (GivesTopo made tasks keys w) := by
  have hok : sheetOk made tasks = true := by unfold safeP at hsafe; rw [Bool.and_eq_true] at hsafe; exact hsafe.1
  have hok' := hok
  simp only [sheetOk, Bool.and_eq_true, decide_eq_true_eq] at hok
  have hlen : made.length = tasks.length := hok.1.1
  have hten : made.length ≤ 10 := hok.1.2
  have hc1 := fun w1 (hw : Below w.heap.size w w1) => specSheetSafe_calls Am At cm ct made tasks B w0 w1 (below_up' hb hB hw) (Nat.le_trans hB hw.size) hs hnod
  rw [hsafe] at hc1
  have hc2 := fun w1 (hw : Below w.heap.size w w1) => l4Keys_calls Am At Ak cm ct ck made tasks keys B w0 w1 (below_up' hb hB hw) (Nat.le_trans hB hw.size) hs hnod (by omega) (by unfold maxLen; omega) hx
  rw [hko, hok'] at hc2
  have hc3 := fun w1 (hw : Below w.heap.size w w1) => l4Below_calls Am At Ak cm ct ck made tasks keys B w0 w1 (below_up' hb hB hw) (Nat.le_trans hB hw.size) hs hlen hten hnod hx hkl hko
  have hc4 := fun w1 (hw : Below w.heap.size w w1) (q : Nat) (hq : q < tasks.length) => l3May_calls Am At cm ct made tasks B w0 w1 (below_up' hb hB hw) (Nat.le_trans hB hw.size) hs q hq (by omega) hten (hnod _ (List.getElem_mem hq))
  have hmay : ∀ (q : Nat) (hq : q < tasks.length), mayMade made tasks[q] = mayS made tasks q := fun q hq => by unfold mayS; rw [taskAt_get hq]
  have hst := fun X hX => STopo.start (safe_topo hsafe (X := X) (keys := keys) hX).1
  unfold GivesTopo
  generalize mayS made tasks = may at *
  replace hc1 := Lib.hid hc1
  replace hc2 := Lib.hid hc2
  replace hc3 := Lib.hid hc3
  replace hc4 := Lib.hid hc4
  replace hmay := Lib.hid hmay
  replace hst := Lib.hid hst
  replace hlen := Lib.hid hlen
  clear hs hb hx hok hok' hko hnod hsafe
  go_enter Try.func86, Try.ntmps86
  go_wp2_with fail
  have hown0 : ((w.alloc (.cells #[.slice Am made.length cm, .slice At tasks.length ct] 26 (0, 0))).alloc (.cells #[] 3 (0, 0))).ownsRow w.heap.size 3 1 (.slice (some ⟨w.heap.size + 1, 0, none⟩) 0 0) 0 (ints []) := by
    simpa [ints] using World.ownsRow_made (base := w.heap.size) (w.alloc (.cells #[.slice Am made.length cm, .slice At tasks.length ct] 26 (0, 0))) #[] 0 (by simp) (by simp [maxLen]) rfl
  refine (hc1.out _ (below_al (below_al (Below.refl _ _) _) _)).mono ?_
  rintro e w1 ⟨rfl, h1⟩
  have hbox1 : w1.heap[w.heap.size]? = some (.cells #[.slice Am made.length cm, .slice At tasks.length ct] 26 (0, 0)) := (h1.block _ (by simp; omega)).trans ((heap_old (by simp)).trans (heap_new rfl))
  have hown1 := ownsRow_block hown0 (fun i hi => h1.block i (hown0.lt i hi).2)
  have b1 : Below w.heap.size w w1 := below_from (below_from h1)
  have x0 : w1.cell? ⟨w.heap.size, 0, none⟩ = some (.slice Am made.length cm) := (cellm hbox1 0).trans rfl
  have x1 : w1.cell? ⟨w.heap.size, 1, none⟩ = some (.slice At tasks.length ct) := (cellm hbox1 1).trans rfl
  have s1 := block_lt hbox1
  replace b1 := Lib.hid b1
  replace hown1 := Lib.hid hown1
  replace hbox1 := Lib.hid hbox1
  clear h1 hown0
  go_wp2_with fail
  refine (hc2.out _ b1.out).mono ?_
  rintro e w2 ⟨rfl, h2⟩
  have hbox2 := (h2.block _ s1).trans hbox1.out
  have hown2 := ownsRow_block hown1.out (fun i hi => h2.block i (hown1.out.lt i hi).2)
  have b2 := below_up b1.out h2
  have y0 : w2.cell? ⟨w.heap.size, 0, none⟩ = some (.slice Am made.length cm) := (cellm hbox2 0).trans rfl
  have y1 : w2.cell? ⟨w.heap.size, 1, none⟩ = some (.slice At tasks.length ct) := (cellm hbox2 1).trans rfl
  have s2 := block_lt hbox2
  replace b2 := Lib.hid b2
  replace hown2 := Lib.hid hown2
  replace hbox2 := Lib.hid hbox2
  clear h2 x0 x1 s1 b1 hown1 hbox1
  go_wp2_with fail
  refine (hc3.out _ b2.out).mono ?_
  rintro e w3 ⟨bd, X, rfl, hR, hbd, hX, h3⟩
  have hT3 : TSt w (.cells #[.slice Am made.length cm, .slice At tasks.length ct] 26 (0, 0)) bd made.length X [] _ w3 := ⟨ownsRow_block hown2.out (fun i hi => h3.block i (hown2.out.lt i hi).2), hR, (h3.block _ s2).trans hbox2.out, below_up b2.out h3⟩
  have hst0 := hst.out X hX
  obtain ⟨R, hR0⟩ : ∃ R, topoP X may made.length (cntN X made.length) [] = R := ⟨_, rfl⟩
  rw [hR0] at hst0
  have hR2 : R.2 = true := by
    have := hst0.rest.2
    simp only [List.length_nil, Nat.sub_zero] at this
    rw [hR0] at this
    rw [this]
  replace hT3 := Lib.hid hT3
  replace hst0 := Lib.hid hst0
  replace hX := Lib.hid hX
  replace hR0 := Lib.hid hR0
  replace hR2 := Lib.hid hR2
  clear h3 hR y0 y1 s2 b2 hown2 hbox2 hst
  go_wp2_with fail
  go_loopw [6, 8, 9] (fun o ag _ wr => ∃ (out : List Int) (g : Bool), ag = .bool g ∧ out.length ≤ made.length ∧ lenOf o = out.length ∧ Hid (STopo X may made.length R.1 out) ∧ Hid (g = false → nextK X may made.length out = none) ∧ Hid (TSt w (.cells #[.slice Am made.length cm, .slice At tasks.length ct] 26 (0, 0)) bd made.length X out o wr)) (fun o ag _ _ => 2 * (made.length - lenOf o) + boolN ag)
  case atStart => exact ⟨[], true, rfl, by simp, rfl, hst0, Lib.hid (fun h => by cases h), hT3⟩
  case round =>
    obtain ⟨out, g, rfl, hol, hlo, hS, hg, hT⟩ := hrel
    cases g with
    | false =>
      have hfin := hS.out.none (hg.out rfl)
      have hT2 := hT.out
      rw [hfin] at hT2
      replace hfin := Lib.hid hfin
      replace hT2 := Lib.hid hT2
      clear hT hS hg hol hlo
      go_wp2_with fail
      go_ret2
      exact ⟨X, hX.out, _, by rw [hR0.out, hR2.out]; rfl, by rw [hR0.out]; exact hT2.out.own, hT2.out.below⟩
    | true =>
      clear hg
      go_wp2_with fail
      obtain ⟨w9, hw9⟩ : ∃ w9, w9 = wr := ⟨_, rfl⟩
      subst hw9
      go_loopw [6, 8, 9] (fun o ag i wr => ∃ (q : Nat) (out2 : List Int) (g : Bool), q ≤ made.length ∧ i = .int .i64 q ∧ ag = .bool g ∧ lenOf o = out2.length ∧ out2.length ≤ 11 ∧ Hid ((g = false ∧ out2 = out ∧ ∀ j : Nat, j < q → freeK X may out j = false) ∨ (g = true ∧ ∃ p, nextK X may made.length out = some p ∧ out2 = out ++ [(p : Int)])) ∧ Hid (TSt w (.cells #[.slice Am made.length cm, .slice At tasks.length ct] 26 (0, 0)) bd made.length X out2 o wr)) (fun _ _ i _ => made.length - (intOf i).toNat)
      case atStart => exact ⟨0, out, false, Nat.zero_le _, rfl, rfl, hlo, by omega, Lib.hid (.inl ⟨rfl, rfl, fun j hj => by omega⟩), hT⟩
      case round =>
        obtain ⟨q, out2, g, hq, rfl, rfl, hlo2, hl11, hcs, hT2⟩ := hrel
        cases g with
        | true =>
          obtain ⟨p, hp, ho2⟩ : ∃ p, nextK X may made.length out = some p ∧ out2 = out ++ [(p : Int)] := hcs.out.elim (fun h => by cases h.1) (fun h => h.2)
          have hS2 := hS.out.some hp
          rw [← ho2] at hS2
          have hl2 := hS2.len
          have hlen2 : out2.length = out.length + 1 := by rw [ho2]; simp
          replace hS2 := Lib.hid hS2
          replace hp := Lib.hid hp
          replace ho2 := Lib.hid ho2
          replace hlen2 := Lib.hid hlen2
          replace hlo := Lib.hid hlo
          replace hlo2 := Lib.hid hlo2
          by_cases hlt : q < made.length
          all_goals
            go_wp2_with fail
            go_roundw
            case rel => exact ⟨out2, true, rfl, hl2, hlo2.out, hS2, Lib.hid (fun h => by cases h), hT2⟩
            case measure => have h1 := hlen2.out; have h2 := hlo.out; have h3 := hlo2.out; simp only [boolN, h2, h3] at *; omega
        | false =>
          obtain ⟨ho2, hfr⟩ : out2 = out ∧ ∀ j : Nat, j < q → freeK X may out j = false := hcs.out.elim (fun h => h.2) (fun h => by cases h.1)
          subst ho2
          replace hlo := Lib.hid hlo
          replace hlo2 := Lib.hid hlo2
          by_cases hlt : q < made.length
          · have hqt : q < tasks.length := by have := hlen.out; omega
            have z := hT2.out.blw.cell (i := q) (by simpa [keysN] using hlt)
            simp only [List.getElem_map, keysN_get] at z
            have hbz := hT2.out.blw.lt
            have hsk : freeK X may out2 q = false → ∀ j : Nat, j < q + 1 → freeK X may out2 j = false := fun h j hj => by
              by_cases e : j = q
              · rw [e]; exact h
              · exact hfr j (by omega)
            have hfk : freeK X may out2 q = (X q && !out2.contains (q : Int) && (may q).all fun j => out2.contains j) := rfl
            have hnx : freeK X may out2 q = true → nextK X may made.length out2 = some q := fun h => nextK_at hlt h hfr
            replace hsk := Lib.hid hsk
            replace hnx := Lib.hid hnx
            replace hfr := Lib.hid hfr
            obtain ⟨Ao, co, eo, ho1, ho2, hio⟩ := ownsRow_ints hT2.out.own
            subst eo
            have hol2 := Nat.le_trans ho1 ho2
            have x0 : wr.cell? ⟨w.heap.size, 0, none⟩ = some (.slice Am made.length cm) := (cellm hT2.out.box 0).trans rfl
            have x1 : wr.cell? ⟨w.heap.size, 1, none⟩ = some (.slice At tasks.length ct) := (cellm hT2.out.box 1).trans rfl
            have hzw := block_lt hT2.out.box
            have hwz := hT2.out.below.size
            replace hfk := Lib.hid hfk
            cases hXq : X q with
            | false =>
              rw [hXq] at z
              have hs := hsk.out (by rw [hfk.out, hXq]; rfl)
              replace hs := Lib.hid hs
              replace hio := Lib.hid hio
              replace hXq := Lib.hid hXq
              go_wp2_with fail
              go_roundw
              case rel => exact ⟨q + 1, out2, false, by omega, by go_num, rfl, rfl, hl11, Lib.hid (.inl ⟨rfl, rfl, hs.out⟩), hT2⟩
              case measure => simp [intOf]; omega
            | true =>
              rw [hXq] at z
              have hcall := l2Has_calls Ao co out2 q wr.heap.size wr wr (Below.refl _ _) (Nat.le_refl _) hol2 hio
              cases hcn : out2.contains (q : Int) with
              | true =>
                rw [hcn] at hcall
                have hs := hsk.out (by rw [hfk.out, hXq, hcn]; rfl)
                replace hs := Lib.hid hs
                replace hio := Lib.hid hio
                replace hcall := Lib.hid hcall
                replace hXq := Lib.hid hXq
                replace hcn := Lib.hid hcn
                go_wp2_with fail
                refine hcall.out.mono ?_
                rintro e w5 ⟨rfl, rfl⟩
                go_wp2_with fail
                go_roundw
                case rel => exact ⟨q + 1, out2, false, by omega, by go_num, rfl, rfl, hl11, Lib.hid (.inl ⟨rfl, rfl, hs.out⟩), hT2⟩
                case measure => simp [intOf]; omega
              | false =>
                rw [hcn] at hcall
                have hmc := hc4.out wr hT2.out.below q hqt
                rw [hmay.out q hqt] at hmc
                replace hio := Lib.hid hio
                replace hcall := Lib.hid hcall
                replace hmc := Lib.hid hmc
                replace hXq := Lib.hid hXq
                replace hcn := Lib.hid hcn
                generalize may q = L at *
                go_wp2_with fail
                refine hcall.out.mono ?_
                rintro e w4 ⟨rfl, rfl⟩
                go_wp2_with fail
                refine hmc.out.mono ?_
                rintro e w5 ⟨vL, rfl, hownL, h5⟩
                have hT5 := hT2.out.up h5
                obtain ⟨AL, cL, rfl, hL1, hL2, hiL⟩ := ownsRow_ints hownL
                have hfc := l4Free_calls Ao AL co cL out2 L w5 (ownsRow_ints_of hT5.own) hiL hol2 (Nat.le_trans hL1 hL2)
                have hwz5 := hT5.below.size
                replace hT5 := Lib.hid hT5
                unfold maxLen at hL2
                clear hmc hcall hownL hiL h5 x0 x1 z hT2 hio
                cases hal : (L.all fun j => out2.contains j) with
                | false =>
                  rw [hal] at hfc
                  have hs := hsk.out (by rw [hfk.out, hXq.out, hcn.out, hal]; rfl)
                  replace hs := Lib.hid hs
                  replace hfc := Lib.hid hfc
                  replace hal := Lib.hid hal
                  go_wp2_with fail
                  refine hfc.out.mono ?_
                  rintro e w6 ⟨rfl, rfl⟩
                  go_wp2_with fail
                  go_roundw
                  case rel => exact ⟨q + 1, out2, false, by omega, by go_num, rfl, rfl, hl11, Lib.hid (.inl ⟨rfl, rfl, hs.out⟩), hT5⟩
                  case measure => simp [intOf]; omega
                | true =>
                  rw [hal] at hfc
                  have hnq := hnx.out (by rw [hfk.out, hXq.out, hcn.out, hal]; rfl)
                  replace hnq := Lib.hid hnq
                  replace hfc := Lib.hid hfc
                  replace hal := Lib.hid hal
                  go_wp2_with fail
                  refine hfc.out.mono ?_
                  rintro e w6 ⟨rfl, rfl⟩
                  go_wp2_with (at_builtin; go_loud (with_reducible refine wpList_app1 (by rfl) (.tmp 52) (.tmp 54) 28 (by rfl) intTy w.heap.size (.slice Ao out2.length co) out2.length (ints out2) (by with_unfolding_all rfl) (hT5.out.own.alloc _) w5.heap.size 1 [.int .i64 q] (by with_unfolding_all rfl) (by with_unfolding_all rfl) ⟨_, _, heap_alloc_new w5 _, rfl⟩ (one_int _ _) ?_ ?_ ?_ ?_))
                  · unfold maxLen; omega
                  · omega
                  · simp; omega
                  intro g7 cap w7 hown7 hgrow7 hat7
                  have hT7 := hT5.out.app (x := (q : Int)) (v' := .slice (some ⟨g7, 0, none⟩) (out2.length + 1) cap) (fun c e => by cases e) hgrow7 hown7
                  replace hT7 := Lib.hid hT7
                  clear hown7 hgrow7 hat7 hT5
                  go_wp2_with fail
                  go_roundw
                  case rel => exact ⟨q + 1, out2 ++ [(q : Int)], true, by omega, by go_num, rfl, by simp [lenOf], by simp; omega, Lib.hid (.inr ⟨rfl, q, hnq.out, rfl⟩), hT7⟩
                  case measure => simp [intOf]; omega
          · have hno := nextK_no (X := X) (may := may) (out := out2) (n := made.length) (fun j hj => hfr j (by omega))
            replace hno := Lib.hid hno
            replace hfr := Lib.hid hfr
            go_wp2_with fail
            go_roundw
            case rel => exact ⟨out2, false, rfl, hol, hlo2.out, hS, Lib.hid (fun _ => hno.out), hT2⟩
            case measure => have h2 := hlo.out; have h3 := hlo2.out; simp only [boolN, h2, h3] at *; omega
end Go.Proofs.Ytkbblekengdhaaa

set_option linter.unusedVariables false
set_option linter.unusedSimpArgs false
namespace Go.Proofs.Ytkbblekengdhaaa
open Go Go.RowKit

/-! rows of fetches -/
def FetsAt (B : Nat) (w : World) (A : Option Addr) (l : List (Int × Int)) : Prop :=
  ∀ i (h : i < l.length), ∃ b o, A = some ⟨b, o, none⟩ ∧ b < B ∧ w.cell? ⟨b, o + i * 2, none⟩ = some (.int .i64 l[i].1) ∧ w.cell? ⟨b, o + i * 2 + 1, none⟩ = some (.int .i64 l[i].2)
theorem FetsAt.at {B : Nat} {w0 w : World} {A : Option Addr} {l : List (Int × Int)} (h : FetsAt B w0 A l) (hb : Below B w0 w) (hB : B ≤ w.heap.size) (i : Nat) (hi : i < l.length) :
    ∃ b o, A = some ⟨b, o, none⟩ ∧ b < w.heap.size ∧ w.cell? ⟨b, o + i * 2, none⟩ = some (.int .i64 l[i].1) ∧ w.cell? ⟨b, o + i * 2 + 1, none⟩ = some (.int .i64 l[i].2) := by
  obtain ⟨b, o, e, hlt, h1, h2⟩ := h i hi
  exact ⟨b, o, e, by omega, (hb.cell hlt).trans h1, (hb.cell hlt).trans h2⟩
theorem FetsAt.up {B B' : Nat} {w0 w : World} {A : Option Addr} {l : List (Int × Int)} (h : FetsAt B w0 A l) (hb : Below B w0 w) (hB : B ≤ B') : FetsAt B' w A l := by
  intro i hi
  obtain ⟨b, o, e, hlt, h1, h2⟩ := h i hi
  exact ⟨b, o, e, by omega, (hb.cell hlt).trans h1, (hb.cell hlt).trans h2⟩
theorem FetsAt.nil (B : Nat) (w : World) (A : Option Addr) : FetsAt B w A [] := fun i h => by simp at h
theorem fets_get : ∀ (l : List (Int × Int)) (i : Nat) (h : i < l.length), (fets l)[i * 2]? = some (.int .i64 l[i].1) ∧ (fets l)[i * 2 + 1]? = some (.int .i64 l[i].2) := by
  intro l
  induction l with
  | nil => intro i h; simp at h
  | cons f l ih =>
    intro i h
    cases i with
    | zero => exact ⟨rfl, rfl⟩
    | succ i =>
      have := ih i (by simpa using h)
      rw [show (i + 1) * 2 = i * 2 + 2 by omega, show i * 2 + 2 + 1 = i * 2 + 1 + 2 by omega]
      exact this
theorem fets_own {w : World} {base : Nat} {e : TypeId} {v : Value} {l : List (Int × Int)} (h : w.ownsRow base e 2 v l.length (fets l)) : ∃ A c, v = .slice A l.length c ∧ l.length ≤ c ∧ c ≤ maxLen ∧ FetsAt w.heap.size w A l := by
  obtain ⟨A, c, rfl, h1, h2, h3⟩ := ownsRow_cells h
  refine ⟨A, c, rfl, h1, h2, fun i hi => ?_⟩
  have hl := fets_length l
  obtain ⟨b, e1, hb, c1⟩ := h3 (i * 2) (by omega)
  obtain ⟨b', e2, -, c2⟩ := h3 (i * 2 + 1) (by omega)
  rw [e1] at e2
  cases e2
  have hg := fets_get l i hi
  refine ⟨b, 0, e1, hb, ?_, ?_⟩
  · rw [Nat.zero_add, c1, ← List.getElem?_eq_getElem]; exact hg.1
  · rw [Nat.zero_add, c2, ← List.getElem?_eq_getElem]; exact hg.2
theorem one_fet (a b : Int) : ∀ u ∈ [Value.int .i64 a, Value.int .i64 b], u.oneCell' = true := by
  intro u hu
  simp only [List.mem_cons, List.not_mem_nil, or_false] at hu
  rcases hu with rfl | rfl <;> rfl

theorem findexFunc_calls (p : Int × Int → Bool) (g : Nat) (first cap : Array Value) (hg : Enters Try.prog g) (A : Option Addr) (c : Nat) (l : List (Int × Int)) (B : Nat) (w0 w : World) (hb : Below B w0 w) (hB : B ≤ w.heap.size) (hm : l.length ≤ maxLen) (hx : FetsAt B w0 A l)
    (hf : ∀ x w', x ∈ l → Below w.heap.size w w' → Calls Try.prog g (first ++ #[.agg #[.int .i64 x.1, .int .i64 x.2]] ++ cap) w' (fun e w'' => e = .returned (.bool (p x)) ∧ Below w'.heap.size w' w'')) :
    Calls Try.prog 151 #[.slice A l.length c, .func (.func g) first cap] w fun e w' => e = .returned (.int .i64 (idx p l)) ∧ Below w.heap.size w w' := by
  unfold maxLen at hm
  replace hx := Lib.hid hx
  replace hb := Lib.hid hb
  replace hf := Lib.hid hf
  go_enter Try.func151, Try.ntmps151
  go_wp2
  go_loopw [5, 8] (fun _ i wr => ∃ k : Nat, k ≤ l.length ∧ i = .int .i64 k ∧ Hid (Below w.heap.size w wr) ∧ Hid (∀ j (hj : j < l.length), j < k → p l[j] = false)) (fun _ i _ => l.length - (intOf i).toNat)
  case atStart => exact ⟨0, Nat.zero_le _, rfl, Lib.hid (Below.refl _ _), Lib.hid (fun j _ h => by omega)⟩
  case round =>
    obtain ⟨k, hk, rfl, hw, hno⟩ := hrel
    by_cases hlt : k < l.length
    · obtain ⟨b, o, rfl, hbl, hc1, hc2⟩ := hx.out.at (below_up' hb.out hB hw.out) (Nat.le_trans hB hw.out.size) k hlt
      go_wp2_with ((with_reducible refine wpList_call_value (by rfl) (.tmp 11) _ _ (by rfl) g first cap (by with_unfolding_all rfl) hg ?_); refine (hf.out l[k] _ (List.getElem_mem _) hw.out).mono ?_; rintro e w' ⟨rfl, h3⟩; replace h3 := Lib.hid h3; refine ⟨_, rfl, ?_⟩)
      · have hp : p l[k] = true := by assumption
        have hr : idx p l = k := idx_found hlt (fun j hj => hno.out j _ hj) hp
        go_ret
        exact ⟨by rw [hr]; rfl, below_up hw.out h3.out⟩
      · have hp : p l[k] = false := by assumption
        go_roundw
        case rel => exact ⟨k + 1, by omega, by go_num, Lib.hid (below_up hw.out h3.out), Lib.hid (fun j hj h => if e : j = k then by subst e; exact hp else hno.out j hj (by omega))⟩
        case measure => simp [intOf]; omega
    · have hr : idx p l = -1 := idx_none (fun j hj => hno.out j hj (by omega))
      replace hr := Lib.hid hr
      go_wp2
      go_ret
      exact ⟨by rw [hr.out]; rfl, hw.out⟩
theorem fcontainsFunc_calls (p : Int × Int → Bool) (g : Nat) (first cap : Array Value) (hg : Enters Try.prog g) (A : Option Addr) (c : Nat) (l : List (Int × Int)) (B : Nat) (w0 w : World) (hb : Below B w0 w) (hB : B ≤ w.heap.size) (hm : l.length ≤ maxLen) (hx : FetsAt B w0 A l)
    (hf : ∀ x w', x ∈ l → Below w.heap.size w w' → Calls Try.prog g (first ++ #[.agg #[.int .i64 x.1, .int .i64 x.2]] ++ cap) w' (fun e w'' => e = .returned (.bool (p x)) ∧ Below w'.heap.size w' w'')) :
    Calls Try.prog 137 #[.slice A l.length c, .func (.func g) first cap] w fun e w' => e = .returned (.bool (l.any p)) ∧ Below w.heap.size w w' := by
  have h := findexFunc_calls p g first cap hg A c l B w0 w hb hB hm hx hf
  replace h := Lib.hid h
  clear hx hb hf
  go_enter Try.func137, Try.ntmps137
  go_wp2_with fail
  refine h.out.mono ?_
  rintro e w1 ⟨rfl, h3⟩
  replace h3 := Lib.hid h3
  have hr := idx_any p l
  generalize idx p l = n at *
  replace hr := Lib.hid hr
  go_wp2_with fail
  go_ret
  exact ⟨by rw [← hr.out]; rfl, h3.out⟩
end Go.Proofs.Ytkbblekengdhaaa

set_option linter.unusedVariables false
set_option linter.unusedSimpArgs false
namespace Go.Proofs.Ytkbblekengdhaaa
open Go Go.RowKit

theorem own_low {w : World} {base base' : Nat} {e : TypeId} {size : Nat} {v : Value} {n : Nat} {xs : List Value} (h : w.ownsRow base e size v n xs) (hl : base' ≤ base) : w.ownsRow base' e size v n xs := by
  obtain ⟨h1, h2⟩ := h
  refine ⟨h1, h2.imp id ?_⟩
  rintro ⟨g, cap, cur, hv, hb, h3⟩
  exact ⟨g, cap, cur, hv, Nat.le_trans hl hb, h3⟩
theorem once1f_calls (b : Nat) (g : Int × Int) (k : Int) (w : World) (x0 : w.cell? ⟨b, 0, none⟩ = some (.int .i64 k)) (hb : b < w.heap.size) :
    Calls Try.prog 155 #[.agg #[.int .i64 g.1, .int .i64 g.2], .pointer (some ⟨b, 0, none⟩)] w fun e w' => e = .returned (.bool (g.1 == k)) ∧ Below w.heap.size w w' := by
  generalize hd : (g.1 == k) = d
  obtain ⟨p, q⟩ := g
  dsimp only at hd ⊢
  go_enter Try.func155, Try.ntmps155
  go_wp2_with fail
  go_ret
  exact ⟨rfl, below_al (Below.refl _ _) _⟩

set_option maxHeartbeats 2000000 in
theorem once_calls (A : Option Addr) (c : Nat) (l : List (Int × Int)) (B : Nat) (w0 w : World) (hb : Below B w0 w) (hB : B ≤ w.heap.size) (hl : l.length ≤ 1000) (hx : FetsAt B w0 A l) :
    Calls Try.prog 149 #[.slice A l.length c] w fun e w' => ∃ v, e = .returned v ∧ w'.ownsRow w.heap.size 130 2 v (onceL2 l []).length (fets (onceL2 l [])) ∧ Below w.heap.size w w' := by
  have hg : Enters Try.prog 155 := enters_of Try.func155 (by kernel_rfl) rfl
  have hcf := fun (nb : Nat) (k : Int) (Ao : Option Addr) (co : Nat) (out : List (Int × Int)) (w1 : World) (x0 : w1.cell? ⟨nb, 0, none⟩ = some (.int .i64 k)) (hnb : nb < w1.heap.size) (ho : FetsAt w1.heap.size w1 Ao out) (hol : out.length ≤ maxLen) =>
    fcontainsFunc_calls (fun g => g.1 == k) 155 #[] #[.pointer (some ⟨nb, 0, none⟩)] hg Ao co out w1.heap.size w1 w1 (Below.refl _ _) (Nat.le_refl _) hol ho (fun x w' _ hw => by
      simpa using once1f_calls nb x k w' ((hw.cell (p := ⟨nb, 0, none⟩) hnb).trans x0) (Nat.lt_of_lt_of_le hnb hw.size))
  obtain ⟨R, hR⟩ : ∃ R, onceL2 l [] = R := ⟨_, rfl⟩
  rw [hR]
  replace hcf := Lib.hid hcf
  replace hx := Lib.hid hx
  replace hb := Lib.hid hb
  replace hR := Lib.hid hR
  replace hg := Lib.hid hg
  go_enter Try.func149, Try.ntmps149
  go_wp2_with fail
  go_loopw [3, 5, 8] (fun o _ i wr => ∃ (j : Nat) (out : List (Int × Int)), j ≤ l.length ∧ i = .int .i64 j ∧ out.length ≤ j ∧ Hid (wr.ownsRow w.heap.size 130 2 o out.length (fets out)) ∧ Hid (Below w.heap.size w wr) ∧ Hid (onceL2 l [] = onceL2 (l.drop j) out)) (fun _ _ i _ => l.length - (intOf i).toNat)
  case atStart => exact ⟨0, [], Nat.zero_le _, rfl, Nat.le_refl _, Lib.hid (World.ownsRow_nil _ _ _ _), Lib.hid (Below.refl _ _), Lib.hid rfl⟩
  case round =>
    obtain ⟨j, out, hj, rfl, hol, hown, hw, he⟩ := hrel
    by_cases hlt : j < l.length
    · have he2 := he.out
      rw [List.drop_eq_getElem_cons hlt, onceL2] at he2
      obtain ⟨b, o, rfl, hbb, y0, y1⟩ := hx.out.at (below_up' hb.out hB hw.out) (Nat.le_trans hB hw.out.size) j hlt
      generalize l[j] = f at *
      obtain ⟨k, v⟩ := f
      dsimp only at y0 y1 he2
      obtain ⟨Ao, co, rfl, ho1, ho2, hf3⟩ := fets_own hown.out
      have ho2' := Nat.le_trans ho1 ho2
      replace ho2' := Lib.hid ho2'
      replace hf3 := Lib.hid hf3
      have hwz := hw.out.size
      have hnew := heap_alloc_new wr (.cells #[.int .i64 k, .int .i64 v] 130 (0, 0))
      replace he2 := Lib.hid he2
      unfold maxLen at ho2
      clear he
      go_wp2_with fail
      refine (hcf.out wr.heap.size k Ao co out _ ((cellm hnew 0).trans rfl) (block_lt hnew) (hf3.out.up (below_al (Below.refl _ _) _) (by simp)) ho2'.out).mono ?_
      rintro e w5 ⟨rfl, h5⟩
      have hnb5 := (h5.block _ (block_lt hnew)).trans hnew
      have x0 : w5.cell? ⟨wr.heap.size, 0, none⟩ = some (.int .i64 k) := (cellm hnb5 0).trans rfl
      have x1 : w5.cell? ⟨wr.heap.size, 1, none⟩ = some (.int .i64 v) := (cellm hnb5 1).trans rfl
      have hlt5 := block_lt hnb5
      have h6 := (below_al (Below.refl wr.heap.size wr) (.cells #[.int .i64 k, .int .i64 v] 130 (0, 0))).trans (h5.mono (by simp))
      have hown5 := ownsRow_block hown.out (fun i hi => h6.block i (hown.out.lt i hi).2)
      have hw5 := hw.out.trans (h6.mono hwz)
      replace hown5 := Lib.hid hown5
      replace hw5 := Lib.hid hw5
      clear h5 h6 hnb5 hnew hf3 hown hw y0 y1
      cases hany : (out.any fun g => g.1 == k) with
      | true =>
        have he3 := he2.out
        simp only [hany, if_true] at he3
        replace he3 := Lib.hid he3
        clear he2
        go_wp2_with fail
        go_roundw
        case rel => exact ⟨j + 1, out, by omega, by go_num, by omega, hown5, hw5, he3⟩
        case measure => simp [intOf]; omega
      | false =>
        have he3 := he2.out
        simp only [hany] at he3
        replace he3 := Lib.hid he3
        clear he2
        go_wp2_with (at_builtin; go_loud (with_reducible refine wpList_app1 (by rfl) (.tmp 16) (.tmp 18) 89 (by rfl) fetTy w.heap.size (.slice Ao out.length co) out.length (fets out) (by with_unfolding_all rfl) (hown5.out.alloc _) w5.heap.size 1 [.int .i64 k, .int .i64 v] (by with_unfolding_all rfl) (by with_unfolding_all rfl) ⟨_, _, heap_alloc_new w5 _, rfl⟩ (one_fet _ _) ?_ ?_ ?_ ?_))
        · unfold maxLen; omega
        · omega
        · have := hw5.out.size; simp; omega
        intro g7 cap w7 hown7 hgrow7 hat7
        have hw7 := (hw5.out.alloc hw5.out.size _).grown hgrow7 (by have := hw5.out.size; simp; omega) (fun i hi => (hown5.out.lt i hi).1)
        have hown7' : w7.ownsRow w.heap.size 130 2 (.slice (some ⟨g7, 0, none⟩) (out.length + 1) cap) (out ++ [(k, v)]).length (fets (out ++ [(k, v)])) := by
          rw [fets_append, List.length_append, List.length_singleton]; exact hown7
        replace hw7 := Lib.hid hw7
        replace hown7' := Lib.hid hown7'
        clear hown7 hgrow7 hat7
        go_wp2_with fail
        go_roundw
        case rel => exact ⟨j + 1, out ++ [(k, v)], by omega, by go_num, by simp; omega, hown7', hw7, he3⟩
        case measure => simp [intOf]; omega
    · have hd : l.drop j = [] := List.drop_eq_nil_of_le (by omega)
      have he2 := he.out
      rw [hd, onceL2] at he2
      replace he2 := Lib.hid he2
      replace hd := Lib.hid hd
      clear he
      go_wp2_with fail
      go_ret
      rw [← hR.out, he2.out]
      exact ⟨_, rfl, hown.out, hw.out⟩

end Go.Proofs.Ytkbblekengdhaaa

set_option linter.unusedVariables false
set_option linter.unusedSimpArgs false
namespace Go.Proofs.Ytkbblekengdhaaa
open Go Go.RowKit

theorem all_filter {p c : Int → Bool} : ∀ (l : List Int), l.all (fun j => !p j || c j) = (l.filter p).all c := by
  intro l
  induction l with
  | nil => rfl
  | cons x l ih =>
    rw [List.all_cons, ih]
    cases h : p x with
    | true => rw [List.filter_cons_of_pos h, List.all_cons]; rfl
    | false => rw [List.filter_cons_of_neg (by rw [h]; simp)]; rfl
/-- the made keys that a key fetches -/
def usesM (S : Sh) (vals : List Int) (k : Int) : List Int := (usesP (S.tk k) vals).filter (mkK S.made)
theorem fitAt_uses (S : Sh) (vals order : List Int) (i : Nat) (k : Int) : fitAt S vals order i k = (mkK S.made k && !(order.take i).contains k && (usesM S vals k).all fun j => (order.take i).contains j) := by
  unfold fitAt usesM
  rw [all_filter]
theorem valsOk_of {xs : List Int} (h1 : xs.length ≤ 10) (h2 : ∀ x ∈ xs, 0 ≤ x ∧ x ≤ 96) : valsOk xs = true := by
  unfold valsOk
  rw [vals_iff.2 h2]
  simp [h1]

/-- whether an order fits -/
def orderFitsP (S : Sh) (order : List Int) : Bool := (buildAllP S).2 && fitsP S (buildAllP S).1 order
theorem take_at {A : Option Addr} {B : Nat} {w : World} {xs : List Int} (h : IntsAt B w A xs) (j : Nat) : IntsAt B w A (xs.take j) := fun i hi => by
  rw [List.length_take] at hi
  have := h i (by omega)
  rw [List.getElem_take]
  exact this

end Go.Proofs.Ytkbblekengdhaaa

set_option linter.unusedVariables false
set_option linter.unusedSimpArgs false
namespace Go.Proofs.Ytkbblekengdhaaa
open Go Go.RowKit

set_option maxHeartbeats 1000000 in
theorem orderTopo_bad (Am At Ak : Option Addr) (cm ct ck : Nat) (made : List Bool) (tasks : List Task) (keys : List Int) (B : Nat) (w0 w : World) (hb : Below B w0 w) (hB : B ≤ w.heap.size) (hs : SheetAt B w0 Am cm At ct made tasks) (hx : IntsAt B w0 Ak keys) (hkl : keys.length ≤ maxLen) (hbad : safeP made tasks = true → keysOk made.length keys = false) :
    Calls Try.prog 77 #[.agg #[.slice Am made.length cm, .slice At tasks.length ct], .slice Ak keys.length ck] w fun e w' => e = .returned (.tuple #[.slice none 0 0, .bool false]) ∧ Below w.heap.size w w' := by
  have hc1 := fun w1 (hw : Below w.heap.size w w1) => sheetSafe_calls Am At cm ct made tasks B w0 w1 (below_up' hb hB hw) (Nat.le_trans hB hw.size) hs
  have hc3 := fun w1 (hw : Below w.heap.size w w1) => all_calls Am At Ak made.length cm tasks.length ct ck keys B w0 w1 (below_up' hb hB hw) (Nat.le_trans hB hw.size) hkl hx
  generalize safeP made tasks = d1 at *
  generalize keysOk made.length keys = d3 at *
  replace hb := Lib.hid hb
  replace hs := Lib.hid hs
  replace hx := Lib.hid hx
  cases d1 with
  | false =>
    replace hc1 := Lib.hid hc1
    clear hc3 hbad
    go_enter Try.func77, Try.ntmps77
    go_wp2_with fail
    refine (hc1.out _ (below_al (Below.refl _ _) _)).mono ?_
    rintro e w1 ⟨rfl, h1⟩
    replace h1 := Lib.hid h1
    go_wp2_with fail
    go_ret2
    exact ⟨rfl, below_from h1.out⟩
  | true =>
    have h3 := hbad rfl
    subst h3
    replace hc1 := Lib.hid hc1
    replace hc3 := Lib.hid hc3
    clear hbad
    go_enter Try.func77, Try.ntmps77
    go_wp2_with fail
    refine (hc1.out _ (below_al (Below.refl _ _) _)).mono ?_
    rintro e w1 ⟨rfl, h1⟩
    have x0 : w1.cell? ⟨w.heap.size, 0, none⟩ = some (.slice Am made.length cm) := (h1.cell (p := ⟨w.heap.size, 0, none⟩) (by simp)).trans (by simp)
    have x1 : w1.cell? ⟨w.heap.size, 1, none⟩ = some (.slice At tasks.length ct) := (h1.cell (p := ⟨w.heap.size, 1, none⟩) (by simp)).trans (by simp)
    have b1 := below_from h1
    replace b1 := Lib.hid b1
    clear h1
    go_wp2_with fail
    refine (hc3.out _ b1.out).mono ?_
    rintro e w2 ⟨rfl, h2⟩
    have b2 := below_up b1.out h2
    replace b2 := Lib.hid b2
    clear h2 x0 x1
    go_wp2_with fail
    go_ret2
    exact ⟨rfl, b2.out⟩

set_option maxHeartbeats 1000000 in
theorem specOrderTopo_bad (Am At Ak : Option Addr) (cm ct ck : Nat) (made : List Bool) (tasks : List Task) (keys : List Int) (B : Nat) (w0 w : World) (hb : Below B w0 w) (hB : B ≤ w.heap.size) (hs : SheetAt B w0 Am cm At ct made tasks) (hnod : ∀ T ∈ tasks, nodes T ≤ 1000000000) (hml : (made.length : Int) ≤ 9223372036854775807) (hx : IntsAt B w0 Ak keys) (hkl : keys.length ≤ maxLen) (hbad : safeP made tasks = true → keysOk made.length keys = false) :
    Calls Try.prog 86 #[.agg #[.slice Am made.length cm, .slice At tasks.length ct], .slice Ak keys.length ck] w fun e w' => GivesOwn w.heap.size ([], false) e w w' := by
  have hc1 := fun w1 (hw : Below w.heap.size w w1) => specSheetSafe_calls Am At cm ct made tasks B w0 w1 (below_up' hb hB hw) (Nat.le_trans hB hw.size) hs hnod
  have hc2 := fun w1 (hw : Below w.heap.size w w1) => l4Keys_calls Am At Ak cm ct ck made tasks keys B w0 w1 (below_up' hb hB hw) (Nat.le_trans hB hw.size) hs hnod hml hkl hx
  have hown0 : ((w.alloc (.cells #[.slice Am made.length cm, .slice At tasks.length ct] 26 (0, 0))).alloc (.cells #[] 3 (0, 0))).ownsRow w.heap.size 3 1 (.slice (some ⟨w.heap.size + 1, 0, none⟩) 0 0) 0 (ints []) := by
    simpa [ints] using World.ownsRow_made (base := w.heap.size) (w.alloc (.cells #[.slice Am made.length cm, .slice At tasks.length ct] 26 (0, 0))) #[] 0 (by simp) (by simp [maxLen]) rfl
  generalize safeP made tasks = d1 at *
  generalize sheetOk made tasks = d2 at *
  generalize keysOk made.length keys = d3 at *
  replace hb := Lib.hid hb
  replace hs := Lib.hid hs
  replace hx := Lib.hid hx
  replace hown0 := Lib.hid hown0
  cases d1 with
  | false =>
    replace hc1 := Lib.hid hc1
    clear hc2 hbad
    go_enter Try.func86, Try.ntmps86
    go_wp2_with fail
    refine (hc1.out _ (below_al (below_al (Below.refl _ _) _) _)).mono ?_
    rintro e w1 ⟨rfl, h1⟩
    have hown1 := ownsRow_block hown0.out (fun i hi => h1.block i (hown0.out.lt i hi).2)
    have b1 : Below w.heap.size w w1 := below_from (below_from h1)
    replace b1 := Lib.hid b1
    replace hown1 := Lib.hid hown1
    clear h1
    go_wp2_with fail
    go_ret2
    exact ⟨_, rfl, hown1.out, b1.out⟩
  | true =>
    have h3 := hbad rfl
    subst h3
    simp only [Bool.false_and] at hc2
    replace hc1 := Lib.hid hc1
    replace hc2 := Lib.hid hc2
    clear hbad
    go_enter Try.func86, Try.ntmps86
    go_wp2_with fail
    refine (hc1.out _ (below_al (below_al (Below.refl _ _) _) _)).mono ?_
    rintro e w1 ⟨rfl, h1⟩
    have hbox1 : w1.heap[w.heap.size]? = some (.cells #[.slice Am made.length cm, .slice At tasks.length ct] 26 (0, 0)) := (h1.block _ (by simp; omega)).trans ((heap_old (by simp)).trans (heap_new rfl))
    have hown1 := ownsRow_block hown0.out (fun i hi => h1.block i (hown0.out.lt i hi).2)
    have b1 : Below w.heap.size w w1 := below_from (below_from h1)
    have x0 : w1.cell? ⟨w.heap.size, 0, none⟩ = some (.slice Am made.length cm) := (cellm hbox1 0).trans rfl
    have x1 : w1.cell? ⟨w.heap.size, 1, none⟩ = some (.slice At tasks.length ct) := (cellm hbox1 1).trans rfl
    have s1 := block_lt hbox1
    replace b1 := Lib.hid b1
    replace hown1 := Lib.hid hown1
    replace hbox1 := Lib.hid hbox1
    clear h1
    go_wp2_with fail
    refine (hc2.out _ b1.out).mono ?_
    rintro e w2 ⟨rfl, h2⟩
    have hown2 := ownsRow_block hown1.out (fun i hi => h2.block i (hown1.out.lt i hi).2)
    have b2 := below_up b1.out h2
    replace b2 := Lib.hid b2
    replace hown2 := Lib.hid hown2
    clear h2 x0 x1
    go_wp2_with fail
    go_ret2
    exact ⟨_, rfl, hown2.out, b2.out⟩

end Go.Proofs.Ytkbblekengdhaaa

set_option linter.unusedVariables false
set_option linter.unusedSimpArgs false
namespace Go.Proofs.Ytkbblekengdhaaa
open Go Go.RowKit

theorem onceL_nil (S : Sh) (st : OSt) : onceL S [] st = (st.done, true) := rfl
theorem onceL_cons (S : Sh) (k : Int) (ks : List Int) (st : OSt) : onceL S (k :: ks) st = if (onceP S S.made.length st k).1.2 = true then onceL S ks (onceP S S.made.length st k).2 else ([], false) := rfl

end Go.Proofs.Ytkbblekengdhaaa
