import Derived.Test.YtagmdljdcnmpdaaReached
import Derived.Deep.RegionHeld3
import Derived.Laws.EntriesVeiled
set_option linter.unusedVariables false
set_option linter.unusedSimpArgs false
namespace Go.Proofs.Ytagmdljdcnmpdaa
open Go Go.RowKit

theorem vmap_made {P : Program} {tk : TypeId} {W : World} {b : Nat} {f : Int → Option Value} (hb : W.heap[b]? = some (.map #[] 0)) (hf : ∀ k, f k = none) : VMap P tk W b f 0 := by
  obtain rfl : f = fun _ => none := funext hf
  exact ⟨.map [], ⟨#[], 0, hb, ⟨by simp, Go.MapKept.stamped_empty 0, by simp⟩, Nat.le_refl _, rfl⟩, rfl, fun k _ => ⟨rfl, fun z => rfl⟩⟩

/-- a result that is the set of what is reached -/
def GivesSet (made : List Bool) (nx : Int → List Int) (keys : List Int) (w : World) (e : Ending) (w' : World) : Prop :=
  ∃ mb X, e = .returned (.map (some mb)) ∧ VMap Try.prog 3 w' mb (setF X) (cntN X made.length) ∧ (∀ k, X k = true ↔ Reach (mkK made) nx keys k) ∧ w.heap.size ≤ mb ∧ Below w.heap.size w w'

set_option maxRecDepth 5000 in
set_option maxHeartbeats 8000000 in
theorem reached_calls (Am At Ak : Option Addr) (cm nt ct ck : Nat) (made : List Bool) (g : Nat) (first cap : Array Value) (nx : Int → List Int) (keys : List Int) (w : World) (hten : made.length ≤ 10) (hmade : BoolsAt w.heap.size w Am made) (hg : Enters Try.prog g)
    (hnx : ∀ k w', mkK made k = true → Below w.heap.size w w' → w.heap.size ≤ w'.heap.size → Calls Try.prog g (first ++ #[.int .i64 k] ++ cap) w' (fun e w'' => ∃ v, e = .returned v ∧ w''.ownsRow w'.heap.size 3 1 v (nx k).length (ints (nx k)) ∧ Below w'.heap.size w' w''))
    (hk : IntsAt w.heap.size w Ak keys) (hkl : keys.length ≤ maxLen) :
    Calls Try.prog 52 #[.agg #[.slice Am made.length cm, .slice At nt ct], .slice Ak keys.length ck, .func (.func g) first cap] w (GivesSet made nx keys w) := by
  have hcall := reached1_calls Am At cm nt ct made g first cap nx w.heap.size w hten hmade hg hnx (w.heap.size) (w.heap.size + 1 + 1 + 1) (w.heap.size + 1 + 1 + 1 + 1) (w.heap.size + 1) (w.heap.size + 1 + 1) made.length (fun _ => false)
  replace hcall := Lib.hid hcall
  replace hk := Lib.hid hk
  clear hnx hmade
  have hmm := @run_makeMap Try.prog
  go_enter Try.func52, Try.ntmps52
  go_wp2_with ((with_reducible refine wpList_call_value (by rfl) (.tmp 11) _ _ (by rfl) 85 #[] #[.pointer (some ⟨w.heap.size, 0, none⟩), .pointer (some ⟨w.heap.size + 1 + 1 + 1, 0, none⟩), .pointer (some ⟨w.heap.size + 1 + 1 + 1 + 1, 0, none⟩), .pointer (some ⟨w.heap.size + 1, 0, none⟩)] (by with_unfolding_all rfl) (enters_of Try.func85 (by kernel_rfl) rfl) ?_))
  refine (hcall.out _ Ak ck keys (by rw [cntN_zero]; rfl) ⟨?_, ?_, ?_, ?_, ?_, ?_, ?_, ?_, ?_⟩ ?_ hkl).mono ?_
  · exact (heap_old (by first | (simp; done) | (simp; omega))).trans ((heap_old (by first | (simp; done) | (simp; omega))).trans ((heap_old (by first | (simp; done) | (simp; omega))).trans ((heap_old (by simp)).trans (heap_new rfl))))
  · exact ⟨_, (heap_old (by simp)).trans (heap_new (by simp))⟩
  · exact ⟨_, heap_new (by simp)⟩
  · exact ⟨_, (heap_old (by first | (simp; done) | (simp; omega))).trans ((heap_old (by first | (simp; done) | (simp; omega))).trans ((heap_old (by simp)).trans (heap_new (by simp))))⟩
  · rw [cntN_zero]
    exact vmap_made ((heap_old (by first | (simp; done) | (simp; omega))).trans ((heap_old (by simp)).trans (heap_new (by simp)))) (fun k => by simp [setF])
  · intro k hk; cases hk
  · omega
  · exact below_al (below_al (below_al (below_al (below_al (Below.refl _ _) _) _) _) _) _
  · simp; omega
  · exact hk.out.up (below_al (below_al (below_al (below_al (below_al (Below.refl _ _) _) _) _) _) _) (by simp; omega)
  rintro e w1 ⟨⟨v, rfl⟩, Y, hC, hR, hT⟩
  have o0 := hC.vo.cell
  have hb1 := hC.below
  have hM := hC.m
  have hr := hR.reach
  replace hb1 := Lib.hid hb1
  replace hM := Lib.hid hM
  replace hr := Lib.hid hr
  clear hC hR hT
  refine ⟨_, rfl, ?_⟩
  go_wp2_with fail
  go_ret
  exact ⟨_, Y, rfl, hM.out, hr.out, by omega, hb1.out⟩

set_option maxRecDepth 5000 in
set_option maxHeartbeats 8000000 in
theorem sheetSafe_calls (Am At : Option Addr) (cm ct : Nat) (made : List Bool) (tasks : List Task) (B : Nat) (w0 w : World) (hb : Below B w0 w) (hB : B ≤ w.heap.size) (hs : SheetAt B w0 Am cm At ct made tasks) :
    Calls Try.prog 16 #[.agg #[.slice Am made.length cm, .slice At tasks.length ct]] w fun e w' => e = .returned (.bool (safeP made tasks)) ∧ Below w.heap.size w w' := by
  have hc1 := fun w1 (hw : Below w.heap.size w w1) => sheetOk_calls Am At cm ct made tasks B w0 w1 (below_up' hb hB hw) (Nat.le_trans hB hw.size) hs
  have hsf : safeP made tasks = implSafeP made tasks := (safe_same made tasks).symm
  unfold implSafeP at hsf
  cases hok : sheetOk made tasks with
  | false =>
    rw [hok] at hc1 hsf
    replace hc1 := Lib.hid hc1
    replace hsf := Lib.hid hsf
    clear hok hs hb
    go_enter Try.func16, Try.ntmps16
    go_wp2_with fail
    refine (hc1.out _ (below_al (Below.refl _ _) _)).mono ?_
    rintro e w1 ⟨rfl, h1⟩
    go_wp2_with fail
    go_ret
    exact ⟨by rw [hsf.out]; rfl, below_from h1⟩
  | true =>
    rw [hok, Bool.true_and] at hsf
    rw [hok] at hc1
    have hok2 := hok
    simp only [sheetOk, Bool.and_eq_true, decide_eq_true_eq] at hok
    have hlen := hok.1.1
    have hten := hok.1.2
    have hkc := fun w1 => keys_calls Am At made.length cm tasks.length ct w1 (by omega)
    have hrc := fun w1 (hw : Below w.heap.size w w1) (Ak : Option Addr) (ck : Nat) (hk : IntsAt w1.heap.size w1 Ak (keysN made.length)) =>
      reached_calls Am At Ak cm tasks.length ct ck made 54 #[.agg #[.slice Am made.length cm, .slice At tasks.length ct]] #[] (mayS made tasks) (keysN made.length) w1 hten (hs.made.up (below_up' hb hB hw) (Nat.le_trans hB hw.size))
        (enters_of Try.func54 (by kernel_rfl) rfl) (fun k w' hm h1 h2 => by
          have hkr := mkK_range (show mkK made k ≠ false by rw [hm]; simp)
          obtain ⟨q, rfl⟩ := Int.eq_ofNat_of_zero_le hkr.1
          have hq : q < tasks.length := by omega
          have := sheetMay_calls Am At cm ct made tasks B w0 w' (below_up' (below_up' hb hB hw) (Nat.le_trans hB hw.size) h1) (Nat.le_trans hB (Nat.le_trans hw.size h2)) hs q hq
          rw [show mayMade made tasks[q] = mayS made tasks q by unfold mayS; rw [taskAt_get hq]] at this
          simpa using this) hk (by rw [keysN_length]; unfold maxLen; omega)
    have htc := fun w1 (hw : Below w.heap.size w w1) (mb : Nat) (X : Int → Bool) (hM : VMap Try.prog 3 w1 mb (setF X) (cntN X made.length)) => topo_calls Am At cm ct made tasks B w0 w1 (below_up' hb hB hw) (Nat.le_trans hB hw.size) hs hlen hten mb _ X hM (Nat.le_trans (cntN_le _ _) hten)
    have hXall : ∀ X : Int → Bool, (∀ k, X k = true ↔ Reach (mkK made) (mayS made tasks) (keysN made.length) k) → X = mkK made := by
      intro X hX
      funext k
      rw [Bool.eq_iff_iff, hX]
      refine ⟨fun h => h.isMade, fun h => .here k ?_ h⟩
      exact mem_keysN.2 (mkK_range (by rw [h]; simp))
    replace hc1 := Lib.hid hc1
    replace hsf := Lib.hid hsf
    replace hkc := Lib.hid hkc
    replace hrc := Lib.hid hrc
    replace htc := Lib.hid htc
    replace hXall := Lib.hid hXall
    replace hlen := Lib.hid hlen
    clear hok hok2 hs hb
    go_enter Try.func16, Try.ntmps16
    go_wp2_with fail
    refine (hc1.out _ (below_al (Below.refl _ _) _)).mono ?_
    rintro e w1 ⟨rfl, h1⟩
    have x0 : w1.cell? ⟨w.heap.size, 0, none⟩ = some (.slice Am made.length cm) := (h1.cell (p := ⟨w.heap.size, 0, none⟩) (by simp)).trans (by simp)
    have x1 : w1.cell? ⟨w.heap.size, 1, none⟩ = some (.slice At tasks.length ct) := (h1.cell (p := ⟨w.heap.size, 1, none⟩) (by simp)).trans (by simp)
    have b1 : Below w.heap.size w w1 := below_from h1
    have s1 : w.heap.size < w1.heap.size := by have := h1.size; simp at this; omega
    replace b1 := Lib.hid b1
    clear h1 hc1
    go_wp2_with fail
    go_region_held3 (fun w' => w'.cell? ⟨w.heap.size, 0, none⟩ = some (.slice Am made.length cm) ∧ w'.cell? ⟨w.heap.size, 1, none⟩ = some (.slice At tasks.length ct) ∧ w.heap.size < w'.heap.size ∧ Hid (Below w.heap.size w w')) (first | exact ⟨l0, l1, l2, l3⟩ | exact ⟨j0, j1, j2, j3⟩ | exact ⟨k0, k1, k2, k3⟩ | exact ⟨x0, x1, s1, Lib.hid b1.out.drew⟩ | exact ⟨x0, x1, s1, b1⟩)
      (first
        | (go_at_call 53; refine (hkc.out _).mono ?_; rintro e w2 ⟨v2, rfl, hown2, h2⟩; obtain ⟨Ak, ck, rfl, hk1, hk2, hk3⟩ := ownsRow_ints hown2; have k0 : w2.cell? ⟨w.heap.size, 0, none⟩ = some (.slice Am made.length cm) := kept_cell h2 s1 x0; have k1 : w2.cell? ⟨w.heap.size, 1, none⟩ = some (.slice At tasks.length ct) := kept_cell h2 s1 x1; have k2 : w.heap.size < w2.heap.size := by { have := h2.size; simp at this; omega }; have k3 : Hid (Below w.heap.size w w2) := Lib.hid (below_up b1.out.drew h2); replace hk3 := Lib.hid hk3; clear h2 hown2)
        | (go_at_call 52; refine (hrc.out _ k3.out Ak ck hk3.out).mono ?_; rintro e w3 ⟨mb, X, rfl, hM3, hX3, hmb3, h3⟩; have j0 : w3.cell? ⟨w.heap.size, 0, none⟩ = some (.slice Am made.length cm) := kept_cell h3 k2 k0; have j1 : w3.cell? ⟨w.heap.size, 1, none⟩ = some (.slice At tasks.length ct) := kept_cell h3 k2 k1; have j2 : w.heap.size < w3.heap.size := by { have := h3.size; omega }; have j3 : Hid (Below w.heap.size w w3) := Lib.hid (below_up k3.out h3); clear h3)
        | (go_at_call 51; refine (htc.out _ j3.out mb X hM3).mono ?_; rintro e w4 ⟨v4, rfl, hown4, h4⟩; have l0 : w4.cell? ⟨w.heap.size, 0, none⟩ = some (.slice Am made.length cm) := kept_cell h4 j2 j0; have l1 : w4.cell? ⟨w.heap.size, 1, none⟩ = some (.slice At tasks.length ct) := kept_cell h4 j2 j1; have l2 : w.heap.size < w4.heap.size := by { have := h4.size; omega }; have l3 : Hid (Below w.heap.size w w4) := Lib.hid (below_up j3.out h4)))
    all_goals
      have hfin : safeP made tasks = (topoP X (mayS made tasks) made.length (cntN X made.length) []).2 := by rw [hsf.out, hXall.out X hX3]
      replace hfin := Lib.hid hfin
      go_wp2_with fail
      go_ret
      exact ⟨by rw [hfin.out]; rfl, l3.out⟩
end Go.Proofs.Ytagmdljdcnmpdaa
