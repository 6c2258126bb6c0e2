import Derived.Deep.RegionHeld3
import Derived.Laws.EntriesVeiled
import Derived.Test.YtpccgdkidnkppaaPk6FnWorkValues
import Derived.Test.YtpccgdkidnkppaaPk7FnWorkValues
import Derived.Test.YtpccgdkidnkppaaPk8FnWorkValues
import Derived.Test.YtpccgdkidnkppaaPk9FnWorkValues
import Derived.Test.YtpccgdkidnkppaaPk13FnWorkValues
set_option linter.unusedVariables false
set_option linter.unusedSimpArgs false
namespace Go.Proofs.Ytpccgdkidnkppaa
open Go Go.RowKit

theorem vmap_made {P : Program} {tk : TypeId} {W : World} {b : Nat} {f : Int → Option Value} (hb : W.heap[b]? = some (.map #[] 0)) (hf : ∀ k, f k = none) : VMap P tk W b f 0 := by
  obtain rfl : f = fun _ => none := funext hf
  exact ⟨.map [], ⟨#[], 0, hb, ⟨by simp, Go.MapKept.stamped_empty 0, by simp⟩, Nat.le_refl _, rfl⟩, rfl, fun k _ => ⟨rfl, fun z => rfl⟩⟩

/-- a result that is the set of what is reached -/
def GivesSet (made : List Bool) (nx : Int → List Int) (keys : List Int) (w : World) (e : Ending) (w' : World) : Prop :=
  ∃ mb X, e = .returned (.map (some mb)) ∧ VMap Try.prog 3 w' mb (setF X) (cntN X made.length) ∧ (∀ k, X k = true ↔ Reach (mkK made) nx keys k) ∧ w.heap.size ≤ mb ∧ Below w.heap.size w w'

set_option maxRecDepth 5000 in
set_option maxHeartbeats 8000000 in
theorem reached_calls (Am At Ak : Option Addr) (cm nt ct ck : Nat) (made : List Bool) (g : Nat) (first cap : Array Value) (nx : Int → List Int) (keys : List Int) (w : World) (hten : made.length ≤ 10) (hmade : BoolsAt w.heap.size w Am made) (hg : Enters Try.prog g)
    (hnx : ∀ k w', mkK made k = true → Below w.heap.size w w' → w.heap.size ≤ w'.heap.size → Calls Try.prog g (first ++ #[.int .i64 k] ++ cap) w' (fun e w'' => ∃ v, e = .returned v ∧ w''.ownsRow w'.heap.size 3 1 v (nx k).length (ints (nx k)) ∧ Below w'.heap.size w' w''))
    (hk : IntsAt w.heap.size w Ak keys) (hkl : keys.length ≤ maxLen) :
    Calls Try.prog 74 #[.agg #[.slice Am made.length cm, .slice At nt ct], .slice Ak keys.length ck, .func (.func g) first cap] w (GivesSet made nx keys w) := by
  have hcall := reached1_calls Am At cm nt ct made g first cap nx w.heap.size w hten hmade hg hnx (w.heap.size) (w.heap.size + 1 + 1 + 1) (w.heap.size + 1 + 1 + 1 + 1) (w.heap.size + 1) (w.heap.size + 1 + 1) made.length (fun _ => false)
  replace hcall := Lib.hid hcall
  replace hk := Lib.hid hk
  clear hnx hmade
  have hmm := @run_makeMap Try.prog
  go_enter Try.func74, Try.ntmps74
  go_wp2_with ((with_reducible refine wpList_call_value (by rfl) (.tmp 11) _ _ (by rfl) 122 #[] #[.pointer (some ⟨w.heap.size, 0, none⟩), .pointer (some ⟨w.heap.size + 1 + 1 + 1, 0, none⟩), .pointer (some ⟨w.heap.size + 1 + 1 + 1 + 1, 0, none⟩), .pointer (some ⟨w.heap.size + 1, 0, none⟩)] (by with_unfolding_all rfl) (enters_of Try.func122 (by kernel_rfl) rfl) ?_))
  refine (hcall.out _ Ak ck keys (by rw [cntN_zero]; rfl) ⟨?_, ?_, ?_, ?_, ?_, ?_, ?_, ?_, ?_⟩ ?_ hkl).mono ?_
  · exact (heap_old (by first | (simp; done) | (simp; omega))).trans ((heap_old (by first | (simp; done) | (simp; omega))).trans ((heap_old (by first | (simp; done) | (simp; omega))).trans ((heap_old (by simp)).trans (heap_new rfl))))
  · exact ⟨_, (heap_old (by simp)).trans (heap_new (by simp))⟩
  · exact ⟨_, heap_new (by simp)⟩
  · exact ⟨_, (heap_old (by first | (simp; done) | (simp; omega))).trans ((heap_old (by first | (simp; done) | (simp; omega))).trans ((heap_old (by simp)).trans (heap_new (by simp))))⟩
  · rw [cntN_zero]
    exact vmap_made ((heap_old (by first | (simp; done) | (simp; omega))).trans ((heap_old (by simp)).trans (heap_new (by simp)))) (fun k => by simp [setF])
  · intro k hk; cases hk
  · omega
  · exact below_al (below_al (below_al (below_al (below_al (Below.refl _ _) _) _) _) _) _
  · simp; omega
  · exact hk.out.up (below_al (below_al (below_al (below_al (below_al (Below.refl _ _) _) _) _) _) _) (by simp; omega)
  rintro e w1 ⟨⟨v, rfl⟩, Y, hC, hR, hT⟩
  have o0 := hC.vo.cell
  have hb1 := hC.below
  have hM := hC.m
  have hr := hR.reach
  replace hb1 := Lib.hid hb1
  replace hM := Lib.hid hM
  replace hr := Lib.hid hr
  clear hC hR hT
  refine ⟨_, rfl, ?_⟩
  go_wp2_with fail
  go_ret
  exact ⟨_, Y, rfl, hM.out, hr.out, by omega, hb1.out⟩

set_option maxRecDepth 5000 in
set_option maxHeartbeats 8000000 in
theorem sheetSafe_calls (Am At : Option Addr) (cm ct : Nat) (made : List Bool) (tasks : List Task) (B : Nat) (w0 w : World) (hb : Below B w0 w) (hB : B ≤ w.heap.size) (hs : SheetAt B w0 Am cm At ct made tasks) :
    Calls Try.prog 71 #[.agg #[.slice Am made.length cm, .slice At tasks.length ct]] w fun e w' => e = .returned (.bool (safeP made tasks)) ∧ Below w.heap.size w w' := by
  have hc1 := fun w1 (hw : Below w.heap.size w w1) => sheetOk_calls Am At cm ct made tasks B w0 w1 (below_up' hb hB hw) (Nat.le_trans hB hw.size) hs
  have hsf : safeP made tasks = implSafeP made tasks := (safe_same made tasks).symm
  unfold implSafeP at hsf
  cases hok : sheetOk made tasks with
  | false =>
    rw [hok] at hc1 hsf
    replace hc1 := Lib.hid hc1
    replace hsf := Lib.hid hsf
    clear hok hs hb
    go_enter Try.func71, Try.ntmps71
    go_wp2_with fail
    refine (hc1.out _ (below_al (Below.refl _ _) _)).mono ?_
    rintro e w1 ⟨rfl, h1⟩
    go_wp2_with fail
    go_ret
    exact ⟨by rw [hsf.out]; rfl, below_from h1⟩
  | true =>
    rw [hok, Bool.true_and] at hsf
    rw [hok] at hc1
    have hok2 := hok
    simp only [sheetOk, Bool.and_eq_true, decide_eq_true_eq] at hok
    have hlen := hok.1.1
    have hten := hok.1.2
    have hkc := fun w1 => keys_calls Am At made.length cm tasks.length ct w1 (by omega)
    have hrc := fun w1 (hw : Below w.heap.size w w1) (Ak : Option Addr) (ck : Nat) (hk : IntsAt w1.heap.size w1 Ak (keysN made.length)) =>
      reached_calls Am At Ak cm tasks.length ct ck made 75 #[.agg #[.slice Am made.length cm, .slice At tasks.length ct]] #[] (mayS made tasks) (keysN made.length) w1 hten (hs.made.up (below_up' hb hB hw) (Nat.le_trans hB hw.size))
        (enters_of Try.func75 (by kernel_rfl) rfl) (fun k w' hm h1 h2 => by
          have hkr := mkK_range (show mkK made k ≠ false by rw [hm]; simp)
          obtain ⟨q, rfl⟩ := Int.eq_ofNat_of_zero_le hkr.1
          have hq : q < tasks.length := by omega
          have := sheetMay_calls Am At cm ct made tasks B w0 w' (below_up' (below_up' hb hB hw) (Nat.le_trans hB hw.size) h1) (Nat.le_trans hB (Nat.le_trans hw.size h2)) hs q hq
          rw [show mayMade made tasks[q] = mayS made tasks q by unfold mayS; rw [taskAt_get hq]] at this
          simpa using this) hk (by rw [keysN_length]; unfold maxLen; omega)
    have htc := fun w1 (hw : Below w.heap.size w w1) (mb : Nat) (X : Int → Bool) (hM : VMap Try.prog 3 w1 mb (setF X) (cntN X made.length)) => topo_calls Am At cm ct made tasks B w0 w1 (below_up' hb hB hw) (Nat.le_trans hB hw.size) hs hlen hten mb _ X hM (Nat.le_trans (cntN_le _ _) hten)
    have hXall : ∀ X : Int → Bool, (∀ k, X k = true ↔ Reach (mkK made) (mayS made tasks) (keysN made.length) k) → X = mkK made := by
      intro X hX
      funext k
      rw [Bool.eq_iff_iff, hX]
      refine ⟨fun h => h.isMade, fun h => .here k ?_ h⟩
      exact mem_keysN.2 (mkK_range (by rw [h]; simp))
    replace hc1 := Lib.hid hc1
    replace hsf := Lib.hid hsf
    replace hkc := Lib.hid hkc
    replace hrc := Lib.hid hrc
    replace htc := Lib.hid htc
    replace hXall := Lib.hid hXall
    replace hlen := Lib.hid hlen
    clear hok hok2 hs hb
    go_enter Try.func71, Try.ntmps71
    go_wp2_with fail
    refine (hc1.out _ (below_al (Below.refl _ _) _)).mono ?_
    rintro e w1 ⟨rfl, h1⟩
    have x0 : w1.cell? ⟨w.heap.size, 0, none⟩ = some (.slice Am made.length cm) := (h1.cell (p := ⟨w.heap.size, 0, none⟩) (by simp)).trans (by simp)
    have x1 : w1.cell? ⟨w.heap.size, 1, none⟩ = some (.slice At tasks.length ct) := (h1.cell (p := ⟨w.heap.size, 1, none⟩) (by simp)).trans (by simp)
    have b1 : Below w.heap.size w w1 := below_from h1
    have s1 : w.heap.size < w1.heap.size := by have := h1.size; simp at this; omega
    replace b1 := Lib.hid b1
    clear h1 hc1
    go_wp2_with fail
    go_region_held3 (fun w' => w'.cell? ⟨w.heap.size, 0, none⟩ = some (.slice Am made.length cm) ∧ w'.cell? ⟨w.heap.size, 1, none⟩ = some (.slice At tasks.length ct) ∧ w.heap.size < w'.heap.size ∧ Hid (Below w.heap.size w w')) (first | exact ⟨l0, l1, l2, l3⟩ | exact ⟨j0, j1, j2, j3⟩ | exact ⟨k0, k1, k2, k3⟩ | exact ⟨x0, x1, s1, Lib.hid b1.out.drew⟩ | exact ⟨x0, x1, s1, b1⟩)
      (first
        | (go_at_call 118; refine (hkc.out _).mono ?_; rintro e w2 ⟨v2, rfl, hown2, h2⟩; obtain ⟨Ak, ck, rfl, hk1, hk2, hk3⟩ := ownsRow_ints hown2; have k0 : w2.cell? ⟨w.heap.size, 0, none⟩ = some (.slice Am made.length cm) := kept_cell h2 s1 x0; have k1 : w2.cell? ⟨w.heap.size, 1, none⟩ = some (.slice At tasks.length ct) := kept_cell h2 s1 x1; have k2 : w.heap.size < w2.heap.size := by { have := h2.size; simp at this; omega }; have k3 : Hid (Below w.heap.size w w2) := Lib.hid (below_up b1.out.drew h2); replace hk3 := Lib.hid hk3; clear h2 hown2)
        | (go_at_call 74; refine (hrc.out _ k3.out Ak ck hk3.out).mono ?_; rintro e w3 ⟨mb, X, rfl, hM3, hX3, hmb3, h3⟩; have j0 : w3.cell? ⟨w.heap.size, 0, none⟩ = some (.slice Am made.length cm) := kept_cell h3 k2 k0; have j1 : w3.cell? ⟨w.heap.size, 1, none⟩ = some (.slice At tasks.length ct) := kept_cell h3 k2 k1; have j2 : w.heap.size < w3.heap.size := by { have := h3.size; omega }; have j3 : Hid (Below w.heap.size w w3) := Lib.hid (below_up k3.out h3); clear h3)
        | (go_at_call 73; refine (htc.out _ j3.out mb X hM3).mono ?_; rintro e w4 ⟨v4, rfl, hown4, h4⟩; have l0 : w4.cell? ⟨w.heap.size, 0, none⟩ = some (.slice Am made.length cm) := kept_cell h4 j2 j0; have l1 : w4.cell? ⟨w.heap.size, 1, none⟩ = some (.slice At tasks.length ct) := kept_cell h4 j2 j1; have l2 : w.heap.size < w4.heap.size := by { have := h4.size; omega }; have l3 : Hid (Below w.heap.size w w4) := Lib.hid (below_up j3.out h4)))
    all_goals
      have hfin : safeP made tasks = (topoP X (mayS made tasks) made.length (cntN X made.length) []).2 := by rw [hsf.out, hXall.out X hX3]
      replace hfin := Lib.hid hfin
      go_wp2_with fail
      go_ret
      exact ⟨by rw [hfin.out]; rfl, l3.out⟩
end Go.Proofs.Ytpccgdkidnkppaa

set_option linter.unusedVariables false
set_option linter.unusedSimpArgs false
namespace Go.Proofs.Ytpccgdkidnkppaa
open Go Go.RowKit

abbrev vB : Bool → Value := fun b => Value.bool b
theorem keysN_set {n k : Nat} (d : Int → Bool) (v : Bool) : ((keysN n).map d).set k v = (keysN n).map (fun i => if i = (k : Int) then v else d i) := by
  apply List.ext_getElem
  · simp
  · intro i h1 h2
    simp only [List.length_set, List.length_map] at h1
    rw [List.getElem_set, List.getElem_map, List.getElem_map, keysN_get (by simpa using h1)]
    by_cases e : k = i
    · subst e; simp
    · rw [if_neg e, if_neg (by omega)]
theorem keysN_rep (n : Nat) : List.replicate n false = (keysN n).map (fun _ => false) := by
  apply List.ext_getElem
  · simp [keysN]
  · intro i h1 h2
    simp

set_option maxRecDepth 5000 in
set_option maxHeartbeats 8000000 in
theorem specSheetSafe_calls (Am At : Option Addr) (cm ct : Nat) (made : List Bool) (tasks : List Task) (B : Nat) (w0 w : World) (hb : Below B w0 w) (hB : B ≤ w.heap.size) (hs : SheetAt B w0 Am cm At ct made tasks) (hnod : ∀ T ∈ tasks, nodes T ≤ 1000000000) :
    Calls Try.prog 76 #[.agg #[.slice Am made.length cm, .slice At tasks.length ct]] w fun e w' => e = .returned (.bool (safeP made tasks)) ∧ Below w.heap.size w w' := by
  have hc1 := fun w1 (hw : Below w.heap.size w w1) => specSheetOk_calls Am At cm ct made tasks B w0 w1 (below_up' hb hB hw) (Nat.le_trans hB hw.size) hs hnod
  have hc2 := fun w1 (hw : Below w.heap.size w w1) (q : Nat) (hq : q < tasks.length) (hq9 : q ≤ 9) (h10 : made.length ≤ 10) => l3May_calls Am At cm ct made tasks B w0 w1 (below_up' hb hB hw) (Nat.le_trans hB hw.size) hs q hq hq9 h10 (hnod _ (List.getElem_mem hq))
  have hsf : safeP made tasks = (sheetOk made tasks && safeB (mayS made tasks) made.length) := rfl
  cases hok : sheetOk made tasks with
  | false =>
    rw [hok] at hc1 hsf
    replace hc1 := Lib.hid hc1
    replace hsf := Lib.hid hsf
    clear hc2 hok hs hnod hb
    go_enter Try.func76, Try.ntmps76
    go_wp2_with fail
    refine (hc1.out _ (below_al (Below.refl _ _) _)).mono ?_
    rintro e w1 ⟨rfl, h1⟩
    go_wp2_with fail
    go_ret
    exact ⟨by rw [hsf.out]; rfl, below_from h1⟩
  | true =>
    rw [hok, Bool.true_and] at hsf
    rw [hok] at hc1
    simp only [sheetOk, Bool.and_eq_true, decide_eq_true_eq] at hok
    have hlen := hok.1.1
    have hten := hok.1.2
    have hmay : ∀ (q : Nat) (hq : q < tasks.length), mayMade made tasks[q] = mayS made tasks q := fun q hq => by unfold mayS; rw [taskAt_get hq]
    have hmr : ∀ (k : Int), ∀ j ∈ mayS made tasks k, 0 ≤ j ∧ j < made.length := fun k j hj => (mayS_made j hj).2
    have hml : ∀ k : Int, (mayS made tasks k).length ≤ 10 := fun k => Nat.le_trans (List.length_filter_le _ _) (mayList_len _)
    generalize mayS made tasks = may at *
    replace hc1 := Lib.hid hc1
    replace hc2 := Lib.hid hc2
    replace hsf := Lib.hid hsf
    replace hmay := Lib.hid hmay
    replace hmr := Lib.hid hmr
    replace hml := Lib.hid hml
    replace hlen := Lib.hid hlen
    clear hok hs hnod hb
    obtain ⟨ii, hi1, hi2, hi3, hi4⟩ := info_parts boolTy'.hi
    replace hi1 := Lib.hid hi1
    replace hi2 := Lib.hid hi2
    replace hi3 := Lib.hid hi3
    replace hi4 := Lib.hid hi4
    go_enter Try.func76, Try.ntmps76
    go_wp2_with fail
    refine (hc1.out _ (below_al (Below.refl _ _) _)).mono ?_
    rintro e w1 ⟨rfl, h1⟩
    have x0 : w1.cell? ⟨w.heap.size, 0, none⟩ = some (.slice Am made.length cm) := (h1.cell (p := ⟨w.heap.size, 0, none⟩) (by simp)).trans (by simp)
    have x1 : w1.cell? ⟨w.heap.size, 1, none⟩ = some (.slice At tasks.length ct) := (h1.cell (p := ⟨w.heap.size, 1, none⟩) (by simp)).trans (by simp)
    have b1 : Below w.heap.size w w1 := below_from h1
    have s1 : w.heap.size < w1.heap.size := by have := h1.size; simp at this; omega
    replace b1 := Lib.hid b1
    clear h1 hc1
    go_wp2_with (at_make; go_loud (with_reducible refine wpList_make_full _ (by rfl) _ _ 22 (by rfl) w.heap.size 4 ii (.bool false) 1 Try.underlying22 hi1.out hi2.out hi3.out .i64 .i64 made.length made.length made.length (by with_unfolding_all rfl) (by with_unfolding_all rfl) rfl rfl ?_ ?_ ?_ ?_))
    · rw [hi4.out]; omega
    · simp [maxLen]; omega
    · omega
    intro w2 hmk hgrow
    have hR : RowBlk vB 4 w2 w1.heap.size ((keysN made.length).map (fun _ => false)) := by
      rw [← keysN_rep]; exact made_row (z := false) (by simpa using hmk) rfl
    have hb12 : Below w1.heap.size w1 w2 := ⟨hgrow.os, hgrow.tape, hgrow.output, hgrow.size, fun k hk => hgrow.block k hk (by simp)⟩
    have b2 : Below w.heap.size w w2 := b1.out.trans (hb12.mono b1.out.size)
    have y0 := kept_cell hb12 (by omega) x0
    have y1 := kept_cell hb12 (by omega) x1
    obtain ⟨bd, hbd⟩ : ∃ bd, bd = w1.heap.size := ⟨_, rfl⟩
    rw [← hbd] at hR s1 ⊢
    replace b2 := Lib.hid b2
    replace hR := Lib.hid hR
    clear hb12 hgrow hmk x0 x1 hi1 hi2 hi3 hi4 b1 hbd
    go_wp2_with fail
    go_loopw [4, 5, 6, 7, 8] (fun i _ _ _ _ wr => ∃ (a : Nat) (d : Int → Bool), a ≤ made.length + 1 ∧ i = .int .i64 a ∧ wr.cell? ⟨w.heap.size, 0, none⟩ = some (.slice Am made.length cm) ∧ wr.cell? ⟨w.heap.size, 1, none⟩ = some (.slice At tasks.length ct) ∧ Hid (RowBlk vB 4 wr bd ((keysN made.length).map d)) ∧ Hid (Below w.heap.size w wr) ∧ Hid (passN may made.length (made.length + 1 - a) d = passN may made.length (made.length + 1) (fun _ => false))) (fun i _ _ _ _ _ => made.length + 1 - (intOf i).toNat)
    case atStart => exact ⟨0, fun _ => false, by omega, rfl, y0, y1, hR, b2, Lib.hid rfl⟩
    case round =>
      obtain ⟨a, d, ha, rfl, y0, y1, hR, hw, hp⟩ := hrel
      by_cases hlt : a ≤ made.length
      · have hp2 := hp.out
        rw [show made.length + 1 - a = (made.length + 1 - (a + 1)) + 1 by omega, passN] at hp2
        replace hp2 := Lib.hid hp2
        clear hp
        go_wp2_with fail
        obtain ⟨w9, hw9⟩ : ∃ w9, w9 = wr := ⟨_, rfl⟩
        subst hw9
        go_loopw [5, 6, 7, 8] (fun i _ _ _ wr => ∃ (q : Nat) (d' : Int → Bool), q ≤ made.length ∧ i = .int .i64 q ∧ wr.cell? ⟨w.heap.size, 0, none⟩ = some (.slice Am made.length cm) ∧ wr.cell? ⟨w.heap.size, 1, none⟩ = some (.slice At tasks.length ct) ∧ Hid (RowBlk vB 4 wr bd ((keysN made.length).map d')) ∧ Hid (Below w.heap.size w wr) ∧ Hid (passKs may ((keysN made.length).drop q) d' = passKs may (keysN made.length) d)) (fun i _ _ _ _ => made.length - (intOf i).toNat)
        case atStart => exact ⟨0, d, by omega, rfl, y0, y1, hR, hw, Lib.hid rfl⟩
        case round =>
          obtain ⟨q, d', hq, rfl, y0, y1, hR, hw, hp⟩ := hrel
          by_cases hlt2 : q < made.length
          · have hqt : q < tasks.length := by have := hlen.out; omega
            have hp3 := hp.out
            rw [keysN_drop hlt2, passKs] at hp3
            have hcall := hc2.out wr hw.out q hqt (by omega) hten
            rw [hmay.out q hqt] at hcall
            have hmr' := hmr.out q
            have hml' := hml.out q
            generalize may q = L at *
            replace hp3 := Lib.hid hp3
            replace hcall := Lib.hid hcall
            replace hmr' := Lib.hid hmr'
            clear hp
            go_wp2_with fail
            refine hcall.out.mono ?_
            rintro e w3 ⟨v, rfl, hownL, h3⟩
            obtain ⟨AL, cL, rfl, hl1, hl2, hl3⟩ := ownsRow_ints hownL
            have hbz := hR.out.lt
            have y0' := kept_cell h3 (by have := hw.out.size; omega) y0
            have y1' := kept_cell h3 (by have := hw.out.size; omega) y1
            have hR3 : RowBlk vB 4 w3 bd ((keysN made.length).map d') := hR.out.turn (h3.block _ hbz)
            have b3 : Below w.heap.size w w3 := below_up hw.out h3
            replace hR3 := Lib.hid hR3
            replace b3 := Lib.hid b3
            replace hl3 := Lib.hid hl3
            clear h3 hownL y0 y1 hR hw hcall
            unfold maxLen at hl2
            go_wp2_with fail
            go_loopw [6, 8] (fun f i wr => ∃ (j : Nat) (fr : Bool), j ≤ L.length ∧ i = .int .i64 j ∧ f = .bool fr ∧ wr = w3 ∧ Hid (fr = (L.take j).all d')) (fun _ i _ => L.length - (intOf i).toNat)
            case atStart => exact ⟨0, true, by omega, rfl, rfl, rfl, Lib.hid rfl⟩
            case round =>
              obtain ⟨j, fr, hj, rfl, rfl, rfl, hfr⟩ := hrel
              by_cases hlt3 : j < L.length
              · obtain ⟨bL, oL, eL, hbL, y⟩ := hl3.out j hlt3
                subst eL
                obtain ⟨r0, r1⟩ := hmr'.out L[j] (List.getElem_mem _)
                obtain ⟨kq, hkq⟩ := Int.eq_ofNat_of_zero_le r0
                have hkl : kq < made.length := by omega
                have z := hR3.out.cell (i := kq) (by simpa [keysN] using hkl)
                simp only [List.getElem_map, keysN_get] at z
                have htk : (L.take (j + 1)).all d' = (fr && d' kq) := by
                  rw [hfr.out, List.take_succ_eq_append_getElem hlt3, List.all_append, hkq]; simp
                rw [hkq] at y
                obtain ⟨dv, hdv⟩ : ∃ dv, d' kq = dv := ⟨_, rfl⟩
                rw [hdv] at z htk
                replace htk := Lib.hid htk
                replace hkq := Lib.hid hkq
                replace hdv := Lib.hid hdv
                have hb9 : kq ≤ 10 := by omega
                clear r0 r1
                cases fr with
                | false =>
                  go_wp2_with fail
                  go_roundw
                  case rel => exact ⟨j + 1, false, by omega, by go_num, by first | rfl | trivial, by first | rfl | trivial, Lib.hid (by rw [htk.out]; rfl)⟩
                  case measure => simp [intOf]; omega
                | true =>
                  go_wp2_with fail
                  go_roundw
                  case rel => exact ⟨j + 1, dv, by omega, by go_num, by first | rfl | trivial, by first | rfl | trivial, Lib.hid (by rw [htk.out]; rfl)⟩
                  case measure => simp [intOf]; omega
              · have hfr2 : L.all d' = fr := by rw [hfr.out, List.take_of_length_le (by omega)]
                rw [hfr2] at hp3
                have hz3 := hR3.out.lt
                have f0 := hR3.out.frozen q
                have z := hR3.out.cell (i := q) (by simpa [keysN] using hlt2)
                have hset := hR3.out.set q fr
                rw [keysN_set] at hset
                have hbs : Below w.heap.size w (wr.setCell ⟨bd, q, none⟩ (.bool fr)) := b3.out.setCell (by simp; omega) _
                have q0 : (wr.setCell ⟨bd, q, none⟩ (.bool fr)).cell? ⟨w.heap.size, 0, none⟩ = some (.slice Am made.length cm) := (World.cell?_of_block (setCell_far (show w.heap.size ≠ bd by omega))).trans y0'
                have q1 : (wr.setCell ⟨bd, q, none⟩ (.bool fr)).cell? ⟨w.heap.size, 1, none⟩ = some (.slice At tasks.length ct) := (World.cell?_of_block (setCell_far (show w.heap.size ≠ bd by omega))).trans y1'
                replace hset := Lib.hid hset
                replace hbs := Lib.hid hbs
                replace q0 := Lib.hid q0
                replace q1 := Lib.hid q1
                replace hfr2 := Lib.hid hfr2
                clear hfr
                go_wp2_with fail
                go_roundw
                case rel => exact ⟨q + 1, _, by omega, by go_num, q0.out, q1.out, hset, hbs, hp3⟩
                case measure => simp [intOf]; omega
          · have hd : (keysN made.length).drop q = [] := List.drop_eq_nil_of_le (by simp [keysN]; omega)
            have hp3 := hp.out
            rw [hd, passKs] at hp3
            have hp4 := hp2.out
            rw [← hp3] at hp4
            replace hp4 := Lib.hid hp4
            clear hp hp3 hd
            go_wp2_with fail
            go_roundw
            case rel => exact ⟨a + 1, d', by omega, by go_num, y0, y1, hR, hw, hp4⟩
            case measure => simp [intOf]; omega
      · have ha2 : a = made.length + 1 := by omega
        subst ha2
        have hp2 := hp.out
        rw [Nat.sub_self, passN] at hp2
        have hsf2 : safeP made tasks = (keysN made.length).all d := by rw [hsf.out, safeB, ← hp2]
        replace hsf2 := Lib.hid hsf2
        clear hp hp2 hsf
        go_wp2_with fail
        obtain ⟨w9, hw9⟩ : ∃ w9, w9 = wr := ⟨_, rfl⟩
        subst hw9
        go_loopw [9] (fun i wr => ∃ (q : Nat), q ≤ made.length ∧ i = .int .i64 q ∧ wr = w9 ∧ Hid (∀ k : Nat, k < q → d k = true)) (fun i _ => made.length - (intOf i).toNat)
        case atStart => exact ⟨0, by omega, rfl, rfl, Lib.hid (fun k hk => by omega)⟩
        case round =>
          obtain ⟨q, hq, rfl, rfl, hall⟩ := hrel
          by_cases hlt2 : q < made.length
          · have z := hR.out.cell (i := q) (by simpa [keysN] using hlt2)
            simp only [List.getElem_map, keysN_get] at z
            have hz3 := hR.out.lt
            cases hdq : d q with
            | false =>
              rw [hdq] at z
              have hfin : safeP made tasks = false := by
                rw [hsf2.out]
                apply Bool.eq_false_iff.2
                intro h
                have := (List.all_eq_true.1 h) q (mem_keysN.2 (by omega))
                rw [hdq] at this; cases this
              replace hfin := Lib.hid hfin
              replace hdq := Lib.hid hdq
              go_wp2_with fail
              go_ret
              exact ⟨by rw [hfin.out]; rfl, hw.out⟩
            | true =>
              rw [hdq] at z
              replace hdq := Lib.hid hdq
              go_wp2_with fail
              go_roundw
              case rel => exact ⟨q + 1, by omega, by go_num, by first | rfl | trivial, Lib.hid (fun k hk => if e : k = q then by subst e; exact hdq.out else hall.out k (by omega))⟩
              case measure => simp [intOf]; omega
          · have hfin : safeP made tasks = true := by
              rw [hsf2.out, List.all_eq_true]
              intro k hk
              obtain ⟨h0, h1⟩ := mem_keysN.1 hk
              obtain ⟨k', rfl⟩ := Int.eq_ofNat_of_zero_le h0
              exact hall.out k' (by omega)
            replace hfin := Lib.hid hfin
            go_wp2_with fail
            go_ret
            exact ⟨by rw [hfin.out]; rfl, hw.out⟩
end Go.Proofs.Ytpccgdkidnkppaa

set_option linter.unusedVariables false
set_option linter.unusedSimpArgs false
namespace Go.Proofs.Ytpccgdkidnkppaa
open Go Go.RowKit

set_option maxHeartbeats 2000000 in
theorem orderRestart_bad (Am At Ai Ak : Option Addr) (cm ct ci ck : Nat) (made : List Bool) (tasks : List Task) (inputs keys : List Int) (B : Nat) (w0 : World) (w : World) (hs : SheetAt B w0 Am cm At ct made tasks) (hi : IntsAt B w0 Ai inputs) (hli : inputs.length ≤ maxLen) (hx : IntsAt B w0 Ak keys) (hm : keys.length ≤ maxLen) (hb : Below B w0 w) (hB : B ≤ w.heap.size) (hbad : safeP made tasks = true → takesOk made.length inputs = true → keysOk made.length keys = false) :
    Calls Try.prog 30 #[.agg #[.slice Am made.length cm, .slice At tasks.length ct], .slice Ai inputs.length ci, .slice Ak keys.length ck] w fun e w' => e = .returned (.tuple #[.slice none 0 0, .bool false]) ∧ Below w.heap.size w w' := by
  have hc1 := fun w1 (hw : Below w.heap.size w w1) => sheetSafe_calls Am At cm ct made tasks B w0 w1 (below_up' hb hB hw) (Nat.le_trans hB hw.size) hs
  have hc2 := fun w1 (hw : Below w.heap.size w w1) => takes_calls Am At Ai made.length cm tasks.length ct ci inputs B w0 w1 (below_up' hb hB hw) (Nat.le_trans hB hw.size) hli hi
  have hc3 := fun w1 (hw : Below w.heap.size w w1) => all_calls Am At Ak made.length cm tasks.length ct ck keys B w0 w1 (below_up' hb hB hw) (Nat.le_trans hB hw.size) hm hx
  generalize safeP made tasks = d1 at *
  generalize takesOk made.length inputs = d2 at *
  generalize keysOk made.length keys = d3 at *
  clear hs hb
  cases d1 with
  | false =>
    clear hbad
    replace hc1 := Lib.hid hc1
    clear hc2
    clear hc3
    go_enter Try.func30, Try.ntmps30
    go_wp2_with fail
    refine (hc1.out _ (below_al (Below.refl _ _) _)).mono ?_
    rintro e w1 ⟨rfl, h1⟩
    have b1 := below_from h1
    have s1 : w.heap.size < w1.heap.size := by have := h1.size; simp at this; omega
    replace b1 := Lib.hid b1
    clear h1
    go_wp2_with fail
    go_ret2
    exact ⟨rfl, b1.out⟩
  | true =>
    replace hbad := hbad rfl
    cases d2 with
    | false =>
      clear hbad
      replace hc1 := Lib.hid hc1
      replace hc2 := Lib.hid hc2
      clear hc3
      go_enter Try.func30, Try.ntmps30
      go_wp2_with fail
      refine (hc1.out _ (below_al (Below.refl _ _) _)).mono ?_
      rintro e w1 ⟨rfl, h1⟩
      have b1 := below_from h1
      have s1 : w.heap.size < w1.heap.size := by have := h1.size; simp at this; omega
      have x0_1 : w1.cell? ⟨w.heap.size, 0, none⟩ = some (.slice Am made.length cm) := (h1.cell (p := ⟨w.heap.size, 0, none⟩) (by simp)).trans (by simp)
      have x1_1 : w1.cell? ⟨w.heap.size, 1, none⟩ = some (.slice At tasks.length ct) := (h1.cell (p := ⟨w.heap.size, 1, none⟩) (by simp)).trans (by simp)
      replace b1 := Lib.hid b1
      clear h1
      go_wp2_with fail
      refine (hc2.out _ b1.out).mono ?_
      rintro e w2 ⟨rfl, h2⟩
      have b2 := below_up b1.out h2
      clear x0_1 x1_1
      replace b2 := Lib.hid b2
      clear h2
      go_wp2_with fail
      go_ret2
      exact ⟨rfl, b2.out⟩
    | true =>
      replace hbad := hbad rfl
      subst hbad
      replace hc1 := Lib.hid hc1
      replace hc2 := Lib.hid hc2
      replace hc3 := Lib.hid hc3
      go_enter Try.func30, Try.ntmps30
      go_wp2_with fail
      refine (hc1.out _ (below_al (Below.refl _ _) _)).mono ?_
      rintro e w1 ⟨rfl, h1⟩
      have b1 := below_from h1
      have s1 : w.heap.size < w1.heap.size := by have := h1.size; simp at this; omega
      have x0_1 : w1.cell? ⟨w.heap.size, 0, none⟩ = some (.slice Am made.length cm) := (h1.cell (p := ⟨w.heap.size, 0, none⟩) (by simp)).trans (by simp)
      have x1_1 : w1.cell? ⟨w.heap.size, 1, none⟩ = some (.slice At tasks.length ct) := (h1.cell (p := ⟨w.heap.size, 1, none⟩) (by simp)).trans (by simp)
      replace b1 := Lib.hid b1
      clear h1
      go_wp2_with fail
      refine (hc2.out _ b1.out).mono ?_
      rintro e w2 ⟨rfl, h2⟩
      have b2 := below_up b1.out h2
      have x0_2 := kept_cell h2 s1 x0_1
      have x1_2 := kept_cell h2 s1 x1_1
      have s2 : w.heap.size < w2.heap.size := by have := h2.size; omega
      clear x0_1 x1_1
      replace b2 := Lib.hid b2
      clear h2
      go_wp2_with fail
      refine (hc3.out _ b2.out).mono ?_
      rintro e w3 ⟨rfl, h3⟩
      have b3 := below_up b2.out h3
      clear x0_2 x1_2
      replace b3 := Lib.hid b3
      clear h3
      go_wp2_with fail
      go_ret2
      exact ⟨rfl, b3.out⟩

set_option maxHeartbeats 2000000 in
theorem specOrderRestart_bad (Am At Ai Ak : Option Addr) (cm ct ci ck : Nat) (made : List Bool) (tasks : List Task) (inputs keys : List Int) (B : Nat) (w0 : World) (w : World) (hs : SheetAt B w0 Am cm At ct made tasks) (hi : IntsAt B w0 Ai inputs) (hli : inputs.length ≤ maxLen) (hx : IntsAt B w0 Ak keys) (hm : keys.length ≤ maxLen) (hb : Below B w0 w) (hB : B ≤ w.heap.size) (hnod : ∀ T ∈ tasks, nodes T ≤ 1000000000) (hml : (made.length : Int) ≤ 9223372036854775807) (hbad : inputsOk made tasks inputs = true → (keysOk made.length keys && sheetOk made tasks) = true → safeP made tasks = false) :
    Calls Try.prog 31 #[.agg #[.slice Am made.length cm, .slice At tasks.length ct], .slice Ai inputs.length ci, .slice Ak keys.length ck] w fun e w' => GivesOwn w.heap.size ([], false) e w w' := by
  have hc1 := fun w1 (hw : Below w.heap.size w w1) => l3Inputs_calls Am At Ai cm ct ci made tasks inputs B w0 w1 (below_up' hb hB hw) (Nat.le_trans hB hw.size) hs hnod hli hi
  have hc2 := fun w1 (hw : Below w.heap.size w w1) => l4Keys_calls Am At Ak cm ct ck made tasks keys B w0 w1 (below_up' hb hB hw) (Nat.le_trans hB hw.size) hs hnod hml hm hx
  have hc3 := fun w1 (hw : Below w.heap.size w w1) => specSheetSafe_calls Am At cm ct made tasks B w0 w1 (below_up' hb hB hw) (Nat.le_trans hB hw.size) hs hnod
  generalize inputsOk made tasks inputs = d1 at *
  generalize (keysOk made.length keys && sheetOk made tasks) = d2 at *
  generalize safeP made tasks = d3 at *
  clear hs hb
  cases d1 with
  | false =>
    clear hbad
    replace hc1 := Lib.hid hc1
    clear hc2
    clear hc3
    go_enter Try.func31, Try.ntmps31
    go_wp2_with fail
    refine (hc1.out _ (below_al (below_al (Below.refl _ _) _) _)).mono ?_
    rintro e w1 ⟨rfl, h1⟩
    have b1 : Below w.heap.size w w1 := (below_al (below_al (Below.refl _ _) _) _).trans (h1.mono (by simp; omega))
    have s1 : w.heap.size < w1.heap.size := by have := h1.size; simp at this; omega
    have ho1 : w1.ownsRow w.heap.size 3 1 (.slice (some ⟨w.heap.size + 1, 0, none⟩) 0 0) 0 [] := ownsRow_block (by simpa using World.ownsRow_made (base := w.heap.size) (w.alloc (.cells #[.slice Am made.length cm, .slice At tasks.length ct] 31 (0, 0))) #[] 0 (by simp) (by simp [maxLen]) rfl) (fun i hi => h1.block i (by simp [Value.ownBlock] at hi; simp; omega))
    replace b1 := Lib.hid b1
    replace ho1 := Lib.hid ho1
    clear h1
    go_wp2_with fail
    go_ret2
    exact ⟨_, rfl, ho1.out, b1.out⟩
  | true =>
    replace hbad := hbad rfl
    cases d2 with
    | false =>
      clear hbad
      replace hc1 := Lib.hid hc1
      replace hc2 := Lib.hid hc2
      clear hc3
      go_enter Try.func31, Try.ntmps31
      go_wp2_with fail
      refine (hc1.out _ (below_al (below_al (Below.refl _ _) _) _)).mono ?_
      rintro e w1 ⟨rfl, h1⟩
      have b1 : Below w.heap.size w w1 := (below_al (below_al (Below.refl _ _) _) _).trans (h1.mono (by simp; omega))
      have s1 : w.heap.size < w1.heap.size := by have := h1.size; simp at this; omega
      have ho1 : w1.ownsRow w.heap.size 3 1 (.slice (some ⟨w.heap.size + 1, 0, none⟩) 0 0) 0 [] := ownsRow_block (by simpa using World.ownsRow_made (base := w.heap.size) (w.alloc (.cells #[.slice Am made.length cm, .slice At tasks.length ct] 31 (0, 0))) #[] 0 (by simp) (by simp [maxLen]) rfl) (fun i hi => h1.block i (by simp [Value.ownBlock] at hi; simp; omega))
      have x0_1 : w1.cell? ⟨w.heap.size, 0, none⟩ = some (.slice Am made.length cm) := (h1.cell (p := ⟨w.heap.size, 0, none⟩) (by simp; omega)).trans (by simp)
      have x1_1 : w1.cell? ⟨w.heap.size, 1, none⟩ = some (.slice At tasks.length ct) := (h1.cell (p := ⟨w.heap.size, 1, none⟩) (by simp; omega)).trans (by simp)
      replace b1 := Lib.hid b1
      replace ho1 := Lib.hid ho1
      clear h1
      go_wp2_with fail
      refine (hc2.out _ b1.out).mono ?_
      rintro e w2 ⟨rfl, h2⟩
      have b2 := below_up b1.out h2
      have ho2 := ownsRow_block ho1.out (fun i hi => h2.block i (ho1.out.lt i hi).2)
      clear x0_1 x1_1
      replace b2 := Lib.hid b2
      replace ho2 := Lib.hid ho2
      clear h2
      go_wp2_with fail
      go_ret2
      exact ⟨_, rfl, ho2.out, b2.out⟩
    | true =>
      replace hbad := hbad rfl
      subst hbad
      replace hc1 := Lib.hid hc1
      replace hc2 := Lib.hid hc2
      replace hc3 := Lib.hid hc3
      go_enter Try.func31, Try.ntmps31
      go_wp2_with fail
      refine (hc1.out _ (below_al (below_al (Below.refl _ _) _) _)).mono ?_
      rintro e w1 ⟨rfl, h1⟩
      have b1 : Below w.heap.size w w1 := (below_al (below_al (Below.refl _ _) _) _).trans (h1.mono (by simp; omega))
      have s1 : w.heap.size < w1.heap.size := by have := h1.size; simp at this; omega
      have ho1 : w1.ownsRow w.heap.size 3 1 (.slice (some ⟨w.heap.size + 1, 0, none⟩) 0 0) 0 [] := ownsRow_block (by simpa using World.ownsRow_made (base := w.heap.size) (w.alloc (.cells #[.slice Am made.length cm, .slice At tasks.length ct] 31 (0, 0))) #[] 0 (by simp) (by simp [maxLen]) rfl) (fun i hi => h1.block i (by simp [Value.ownBlock] at hi; simp; omega))
      have x0_1 : w1.cell? ⟨w.heap.size, 0, none⟩ = some (.slice Am made.length cm) := (h1.cell (p := ⟨w.heap.size, 0, none⟩) (by simp; omega)).trans (by simp)
      have x1_1 : w1.cell? ⟨w.heap.size, 1, none⟩ = some (.slice At tasks.length ct) := (h1.cell (p := ⟨w.heap.size, 1, none⟩) (by simp; omega)).trans (by simp)
      replace b1 := Lib.hid b1
      replace ho1 := Lib.hid ho1
      clear h1
      go_wp2_with fail
      refine (hc2.out _ b1.out).mono ?_
      rintro e w2 ⟨rfl, h2⟩
      have b2 := below_up b1.out h2
      have x0_2 := kept_cell h2 s1 x0_1
      have x1_2 := kept_cell h2 s1 x1_1
      have s2 : w.heap.size < w2.heap.size := by have := h2.size; omega
      have ho2 := ownsRow_block ho1.out (fun i hi => h2.block i (ho1.out.lt i hi).2)
      clear x0_1 x1_1
      replace b2 := Lib.hid b2
      replace ho2 := Lib.hid ho2
      clear h2
      go_wp2_with fail
      refine (hc3.out _ b2.out).mono ?_
      rintro e w3 ⟨rfl, h3⟩
      have b3 := below_up b2.out h3
      have ho3 := ownsRow_block ho2.out (fun i hi => h3.block i (ho2.out.lt i hi).2)
      clear x0_2 x1_2
      replace b3 := Lib.hid b3
      replace ho3 := Lib.hid ho3
      clear h3
      go_wp2_with fail
      go_ret2
      exact ⟨_, rfl, ho3.out, b3.out⟩

end Go.Proofs.Ytpccgdkidnkppaa

set_option linter.unusedVariables false
set_option linter.unusedSimpArgs false
namespace Go.Proofs.Ytpccgdkidnkppaa
open Go Go.RowKit

/-! what a task fetches, each once -/
def usesL : List (Int × Int) → List Int → List Int
  | [], out => out
  | f :: fs, out => usesL fs (if out.contains f.1 then out else out ++ [f.1])
def onceL2 : List (Int × Int) → List (Int × Int) → List (Int × Int)
  | [], out => out
  | f :: fs, out => onceL2 fs (if out.any (fun g => g.1 == f.1) then out else out ++ [f])
theorem any_keys (out : List (Int × Int)) (k : Int) : out.any (fun g => g.1 == k) = (out.map Prod.fst).contains k := by
  induction out with
  | nil => rfl
  | cons g gs ih =>
    rw [List.any_cons, List.map_cons, List.contains_cons, ih]
    congr 1
    rw [Bool.eq_iff_iff, beq_iff_eq, beq_iff_eq]
    exact eq_comm
theorem once_map : ∀ (l out : List (Int × Int)), (onceL2 l out).map Prod.fst = usesL l (out.map Prod.fst) := by
  intro l
  induction l with
  | nil => intro out; rfl
  | cons f fs ih =>
    intro out
    rw [onceL2, usesL, ih, any_keys]
    split
    · rfl
    · rw [List.map_append]; rfl
theorem usesL_mem : ∀ (l : List (Int × Int)) (out : List Int) (j : Int), j ∈ usesL l out ↔ j ∈ out ∨ ∃ f ∈ l, f.1 = j := by
  intro l
  induction l with
  | nil => intro out j; simp [usesL]
  | cons f fs ih =>
    intro out j
    rw [usesL, ih]
    by_cases h : out.contains f.1 = true
    · rw [if_pos h]
      have hf : f.1 ∈ out := by simpa using h
      constructor
      · rintro (h | ⟨g, hg, e⟩)
        · exact .inl h
        · exact .inr ⟨g, List.mem_cons_of_mem _ hg, e⟩
      · rintro (h | ⟨g, hg, e⟩)
        · exact .inl h
        · rcases List.mem_cons.1 hg with rfl | hg
          · exact .inl (e ▸ hf)
          · exact .inr ⟨g, hg, e⟩
    · rw [if_neg h]
      constructor
      · rintro (h | ⟨g, hg, e⟩)
        · rcases List.mem_append.1 h with h | h
          · exact .inl h
          · exact .inr ⟨f, List.mem_cons_self .., (List.mem_singleton.1 h).symm⟩
        · exact .inr ⟨g, List.mem_cons_of_mem _ hg, e⟩
      · rintro (h | ⟨g, hg, e⟩)
        · exact .inl (List.mem_append_left _ h)
        · rcases List.mem_cons.1 hg with rfl | hg
          · exact .inl (List.mem_append_right _ (by rw [e]; exact List.mem_singleton.2 rfl))
          · exact .inr ⟨g, hg, e⟩
theorem onceL2_length : ∀ (l out : List (Int × Int)), (onceL2 l out).length ≤ l.length + out.length := by
  intro l
  induction l with
  | nil => intro out; simp [onceL2]
  | cons f fs ih =>
    intro out
    rw [onceL2]
    by_cases h : out.any (fun g => g.1 == f.1) = true
    · rw [if_pos h]; have := ih out; simp only [List.length_cons]; omega
    · rw [if_neg h]; have := ih (out ++ [f]); simp only [List.length_cons, List.length_append, List.length_nil] at this ⊢; omega
theorem usesL_length : ∀ (l : List (Int × Int)) (out : List Int), (usesL l out).length ≤ l.length + out.length := by
  intro l
  induction l with
  | nil => intro out; simp [usesL]
  | cons f fs ih =>
    intro out
    rw [usesL]
    by_cases h : out.contains f.1 = true
    · rw [if_pos h]; have := ih out; simp only [List.length_cons]; omega
    · rw [if_neg h]; have := ih (out ++ [f.1]); simp only [List.length_cons, List.length_append, List.length_nil] at this ⊢; omega

theorem fetched_itr (t : Tk) (xs : List Int) : fetchedP t xs = t.itr.run (fetF xs) [] := Tk.run_itr _ (fun s k h => by simp [fetF] at h) t []
theorem fet_length (xs : List Int) : ∀ (m : Itr) (n : Nat) (l : List (Int × Int)), m.le n → (m.run (fetF xs) l).2.length ≤ l.length + n := by
  intro m
  induction m with
  | done v => intro n l _; simp [Itr.run]
  | ask k c ih =>
    intro n l h
    cases n with
    | zero => exact h.elim
    | succ n =>
      rw [Itr.run_yes (by simp [fetF])]
      have := ih (fetF xs l k).1.1 n (fetF xs l k).2 (h _)
      simp [fetF] at this ⊢
      omega
theorem fetched_length (t : Tk) (xs : List Int) : (fetchedP t xs).2.length ≤ t.fets := by
  rw [fetched_itr]
  have := fet_length xs t.itr t.fets [] (Tk.itr_le t)
  simpa using this
theorem fet_keys (xs : List Int) : ∀ (m : Itr) (l : List (Int × Int)), m.ok → (∀ f ∈ l, 0 ≤ f.1 ∧ f.1 ≤ 9 ∧ f.2 = atK xs f.1) → ∀ f ∈ (m.run (fetF xs) l).2, 0 ≤ f.1 ∧ f.1 ≤ 9 ∧ f.2 = atK xs f.1 := by
  intro m
  induction m with
  | done v => intro l _ h; exact h
  | ask k c ih =>
    intro l h hl
    obtain ⟨h0, h9, hc⟩ := h
    rw [Itr.run_yes (by simp [fetF])]
    refine ih _ _ (hc _) (fun f hf => ?_)
    rcases List.mem_append.1 hf with hf | hf
    · exact hl f hf
    · rw [List.mem_singleton.1 hf]; exact ⟨h0, h9, rfl⟩
theorem fetched_keys {t : Tk} (h : t.ok) (xs : List Int) : ∀ f ∈ (fetchedP t xs).2, 0 ≤ f.1 ∧ f.1 ≤ 9 ∧ f.2 = atK xs f.1 := by
  rw [fetched_itr]
  exact fet_keys xs t.itr [] (Tk.itr_ok t h) (fun f hf => by cases hf)
def usesP (t : Tk) (xs : List Int) : List Int := usesL (fetchedP t xs).2 []
theorem usesP_length (t : Tk) (xs : List Int) : (usesP t xs).length ≤ t.fets := by
  have h1 := usesL_length (fetchedP t xs).2 []
  have h2 := fetched_length t xs
  unfold usesP
  simp at h1; omega
theorem usesP_keys {t : Tk} (h : t.ok) (xs : List Int) : ∀ j ∈ usesP t xs, 0 ≤ j ∧ j ≤ 9 := by
  intro j hj
  rcases (usesL_mem _ _ _).1 hj with h1 | ⟨f, hf, rfl⟩
  · cases h1
  · have := fetched_keys h xs f hf
    exact ⟨this.1, this.2.1⟩

/-! whether an order fits -/
def fitAt (S : Sh) (vals order : List Int) (i : Nat) (k : Int) : Bool := mkK S.made k && !(order.take i).contains k && (usesP (S.tk k) vals).all (fun j => !mkK S.made j || (order.take i).contains j)
def fitsL (S : Sh) (vals order : List Int) (i : Nat) : Bool := (List.range' i (order.length - i)).all fun j => fitAt S vals order j (order.getD j 0)
def fitsP (S : Sh) (vals order : List Int) : Bool := fitsL S vals order 0
theorem fitsL_step {S : Sh} {vals order : List Int} {i : Nat} (h : i < order.length) : fitsL S vals order i = (fitAt S vals order i order[i] && fitsL S vals order (i + 1)) := by
  unfold fitsL
  obtain ⟨n, hn⟩ : ∃ n, order.length - i = n + 1 := ⟨order.length - i - 1, by omega⟩
  rw [hn, List.range'_succ, List.all_cons, show order.length - (i + 1) = n by omega]
  congr 2
  simp [h]
theorem fitsL_end {S : Sh} {vals order : List Int} {i : Nat} (h : ¬ i < order.length) : fitsL S vals order i = true := by
  unfold fitsL
  rw [show order.length - i = 0 by omega]
  rfl
theorem fitsP_iff {S : Sh} {vals order : List Int} : fitsP S vals order = true ↔ ∀ i (hi : i < order.length), fitAt S vals order i order[i] = true := by
  unfold fitsP fitsL
  rw [List.all_eq_true]
  constructor
  · intro h i hi
    have := h i (by rw [List.mem_range']; exact ⟨i, by omega, by omega⟩)
    simpa [hi] using this
  · intro h j hj
    rw [List.mem_range'] at hj
    obtain ⟨q, hq, rfl⟩ := hj
    have hl : q < order.length := by omega
    have := h q hl
    simpa [hl] using this
/-- an order without its last key -/
theorem fits_last {S : Sh} {vals order : List Int} (h : fitsP S vals order = true) : fitsP S vals (order.take (order.length - 1)) = true := by
  rw [fitsP_iff] at h ⊢
  intro i hi
  rw [List.length_take] at hi
  have h1 := h i (by omega)
  rw [List.getElem_take]
  unfold fitAt at h1 ⊢
  rw [List.take_take, Nat.min_eq_left (by omega)]
  exact h1
end Go.Proofs.Ytpccgdkidnkppaa

set_option linter.unusedVariables false
set_option linter.unusedSimpArgs false
namespace Go.Proofs.Ytpccgdkidnkppaa
open Go Go.RowKit

/-! the reference's set: a list that grows while it is gone through -/
structure BInv (mk : Int → Bool) (may : Int → List Int) (n : Nat) (keys : List Int) (Y : Int → Bool) (row : List Int) (i : Nat) : Prop where
  sound : ∀ k, Y k = true → Reach mk may keys k
  src : ∀ x ∈ row, x ∈ keys ∨ ∃ k, Y k = true ∧ x ∈ may k
  done : ∀ j (h : j < row.length), j < i → mk row[j] = true → Y row[j] = true
  next : ∀ k, Y k = true → ∀ j ∈ may k, j ∈ row
  has : ∀ k ∈ keys, k ∈ row
  len : row.length ≤ keys.length + 10 * cntN Y n
section
variable {mk : Int → Bool} {may : Int → List Int} {n : Nat} {keys : List Int} {Y : Int → Bool} {row : List Int} {i : Nat}
theorem BInv.start : BInv mk may n keys (fun _ => false) keys 0 :=
  ⟨fun k h => (by cases h), fun x h => .inl h, fun j h h2 => (by omega), fun k h => (by cases h), fun k h => h, by omega⟩
theorem BInv.skip (h : BInv mk may n keys Y row i) (hi : i < row.length) (hs : mk row[i] = false ∨ Y row[i] = true) : BInv mk may n keys Y row (i + 1) :=
  ⟨h.sound, h.src, fun j hj hji hm => by
    by_cases e : j = i
    · subst e
      rcases hs with hs | hs
      · rw [hs] at hm; cases hm
      · exact hs
    · exact h.done j hj (by omega) hm, h.next, h.has, h.len⟩
theorem BInv.push (h : BInv mk may n keys Y row i) (hi : i < row.length) {q : Nat} (hq : row[i] = (q : Int)) (hqn : q < n) (hm : mk q = true) (hy : Y q = false) (hl : (may q).length ≤ 10) : BInv mk may n keys (setX Y q) (row ++ may q) (i + 1) := by
  have hYk : ∀ k, Y k = true → setX Y q k = true := fun k hk => by simp only [setX]; split <;> simp [hk]
  have hR : Reach mk may keys (q : Int) := by
    rcases h.src _ (List.getElem_mem hi) with h1 | ⟨k, h1, h2⟩
    · rw [hq] at h1; exact .here _ h1 hm
    · rw [hq] at h2; exact .next k _ (h.sound k h1) h2 hm
  refine ⟨fun k hk => ?_, fun x hx => ?_, fun j hj hji hmj => ?_, fun k hk j hj => ?_, fun k hk => List.mem_append_left _ (h.has k hk), ?_⟩
  · by_cases e : k = q
    · rw [e]; exact hR
    · simp only [setX, if_neg e] at hk; exact h.sound k hk
  · rcases List.mem_append.1 hx with hx | hx
    · rcases h.src x hx with h1 | ⟨k, h1, h2⟩
      · exact .inl h1
      · exact .inr ⟨k, hYk k h1, h2⟩
    · exact .inr ⟨q, by simp [setX], hx⟩
  · have hjl : j < row.length := by omega
    rw [List.getElem_append_left hjl] at hmj ⊢
    by_cases e : j = i
    · subst e; rw [hq]; simp [setX]
    · exact hYk _ (h.done j hjl (by omega) hmj)
  · by_cases e : k = q
    · rw [e] at hj; exact List.mem_append_right _ hj
    · simp only [setX, if_neg e] at hk; exact List.mem_append_left _ (h.next k hk j hj)
  · rw [List.length_append, cntN_set hqn hy]
    have := h.len
    omega
theorem BInv.reach (h : BInv mk may n keys Y row i) (hi : row.length ≤ i) (k : Int) : Y k = true ↔ Reach mk may keys k := by
  have hall : ∀ x ∈ row, mk x = true → Y x = true := fun x hx hm => by
    obtain ⟨j, hj, rfl⟩ := List.getElem_of_mem hx
    exact h.done j hj (by omega) hm
  refine ⟨h.sound k, fun hk => ?_⟩
  induction hk with
  | here k h1 h2 => exact hall k (h.has k h1) h2
  | next k j _ h1 h2 ih => exact hall j (h.next k ih j h1) h2
theorem BInv.range (h : BInv mk may n keys Y row i) (hk : ∀ k ∈ keys, 0 ≤ k ∧ k < n) (hm : ∀ k, ∀ j ∈ may k, 0 ≤ j ∧ j < n) : ∀ x ∈ row, 0 ≤ x ∧ x < n := fun x hx => by
  rcases h.src x hx with h1 | ⟨k, _, h2⟩
  · exact hk x h1
  · exact hm k x h2
end

/-! the reference's order: the least one that is free, while there is one -/
section
variable {X : Int → Bool} {may : Int → List Int} {n : Nat}
structure STopo (X : Int → Bool) (may : Int → List Int) (n : Nat) (R : List Int) (out : List Int) : Prop where
  ok : TOk X may n out
  rest : out.length ≤ cntN X n ∧ topoP X may n (cntN X n - out.length) out = (R, true)
theorem STopo.start (h : (topoP X may n (cntN X n) []).2 = true) : STopo X may n (topoP X may n (cntN X n) []).1 [] := ⟨TOk.nil, by simp, by
  rw [show cntN X n - ([] : List Int).length = cntN X n by simp]
  exact Prod.ext rfl h⟩
theorem STopo.some {R out : List Int} {q : Nat} (h : STopo X may n R out) (hq : nextK X may n out = some q) : STopo X may n R (out ++ [(q : Int)]) := by
  obtain ⟨hqn, hf⟩ := nextK_some hq
  have hp := h.ok.push hqn hf
  have hl := (sub_cnt hp.nodup hp.sub).1
  simp only [List.length_append, List.length_singleton] at hl
  refine ⟨hp, by simpa using hl, ?_⟩
  have hr := h.rest.2
  obtain ⟨m, hm⟩ : ∃ m, cntN X n - out.length = m + 1 := ⟨cntN X n - out.length - 1, by omega⟩
  rw [hm, topoP, hq] at hr
  rw [List.length_append, List.length_singleton, show cntN X n - (out.length + 1) = m by omega]
  exact hr
theorem STopo.none {R out : List Int} (h : STopo X may n R out) (hq : nextK X may n out = none) : out = R := by
  have hr := h.rest.2
  cases hm : cntN X n - out.length with
  | zero => rw [hm, topoP] at hr; exact (Prod.mk.inj hr).1
  | succ m => rw [hm, topoP, hq] at hr; cases hr
theorem STopo.len {R out : List Int} (h : STopo X may n R out) : out.length ≤ n := Nat.le_trans h.rest.1 (cntN_le _ _)
end
/-- of a safe sheet, each set that holds what its keys may fetch has an order -/
theorem safe_topo {made : List Bool} {tasks : List Task} (h : safeP made tasks = true) {X : Int → Bool} {keys : List Int} (hX : ∀ k, X k = true ↔ Reach (mkK made) (mayS made tasks) keys k) :
    (topoP X (mayS made tasks) made.length (cntN X made.length) []).2 = true ∧ TOk X (mayS made tasks) made.length (topoP X (mayS made tasks) made.length (cntN X made.length) []).1 ∧ (topoP X (mayS made tasks) made.length (cntN X made.length) []).1.length = cntN X made.length := by
  have hok : sheetOk made tasks = true := by unfold safeP at h; rw [Bool.and_eq_true] at h; exact h.1
  have hcl : ∀ k : Nat, k < made.length → X k = true → ∀ j ∈ mayS made tasks k, X j = true ∧ 0 ≤ j ∧ j < made.length := fun k _ hk j hj => by
    have hm := mayS_made j hj
    exact ⟨(hX j).2 (.next k j ((hX k).1 hk) hj hm.1), hm.2⟩
  rcases topoP_spec hcl (cntN X made.length) [] TOk.nil (by simp) with h1 | ⟨_, k, hk, _, hw⟩
  · exact h1
  · exact (hw ((safeP_iff hok).1 h k hk)).elim

/-! what is fetched may be fetched -/
theorem fet_in (xs : List Int) {P : Int → Prop} : ∀ (m : Itr) (l : List (Int × Int)), m.In P → (∀ f ∈ l, P f.1) → ∀ f ∈ (m.run (fetF xs) l).2, P f.1 := by
  intro m
  induction m with
  | done v => intro l _ h; exact h
  | ask k c ih =>
    intro l h hl
    rw [Itr.run_yes (by simp [fetF])]
    refine ih _ _ (h.2 _) (fun f hf => ?_)
    rcases List.mem_append.1 hf with hf | hf
    · exact hl f hf
    · rw [List.mem_singleton.1 hf]; exact h.1
theorem uses_may (t : Tk) (xs : List Int) : ∀ j ∈ usesP t xs, mayTask t.enc j = true := by
  intro j hj
  rcases (usesL_mem _ _ _).1 hj with h1 | ⟨f, hf, rfl⟩
  · cases h1
  · rw [fetched_itr] at hf
    exact fet_in xs t.itr [] t.itr_In (fun f hf => by cases hf) f hf
/-- a made key that is fetched may be fetched -/
theorem uses_mayS {S : Sh} (hS : S.Ok) {q : Nat} (hq : q < S.made.length) (xs : List Int) {j : Int} (hj : j ∈ usesP (S.tk q) xs) (hm : mkK S.made j = true) : j ∈ mayS S.made (S.tks.map Tk.enc) q := by
  have hqt : q < S.tks.length := by have := hS.len; omega
  have hr := mkK_range (show mkK S.made j ≠ false by rw [hm]; simp)
  have h2 := uses_may _ _ j hj
  unfold mayS mayMade
  rw [List.mem_filter]
  refine ⟨mem_mayList.2 ?_, hm⟩
  rw [taskAt_get (by simpa using hqt), List.getElem_map]
  rw [tk_at hqt] at h2
  have := hS.ten
  exact ⟨hS.okT hqt, by omega, by omega, h2⟩
/-- a topological order fits all inputs -/
theorem topo_fits {S : Sh} (hS : S.Ok) (vals : List Int) {X : Int → Bool} {keys out : List Int} (hX : ∀ k, X k = true ↔ Reach (mkK S.made) (mayS S.made (S.tks.map Tk.enc)) keys k)
    (h : TOk X (mayS S.made (S.tks.map Tk.enc)) S.made.length out) : fitsP S vals out = true := by
  rw [fitsP_iff]
  intro i hi
  have hs := h.sub _ (List.getElem_mem hi)
  have hmk := ((hX _).1 hs.2.2).isMade
  obtain ⟨q, hq⟩ := Int.eq_ofNat_of_zero_le hs.1
  unfold fitAt
  rw [hmk, Bool.true_and, Bool.and_eq_true, List.all_eq_true]
  refine ⟨?_, fun j hj => ?_⟩
  · rw [Bool.not_eq_true', List.contains_eq_mem, decide_eq_false_iff_not]
    intro hm
    obtain ⟨a, ha, e⟩ := List.getElem_of_mem hm
    rw [List.length_take] at ha
    rw [List.getElem_take] at e
    have := (List.getElem?_inj (i := a) (j := i) (show a < out.length by omega) h.nodup).1 (by rw [List.getElem?_eq_getElem (show a < out.length by omega), List.getElem?_eq_getElem hi, e])
    omega
  · cases hm : mkK S.made j with
    | false => rfl
    | true =>
      have hj2 : j ∈ mayS S.made (S.tks.map Tk.enc) out[i] := by
        rw [hq] at hj ⊢
        exact uses_mayS hS (by omega) vals hj hm
      have := h.behind i hi j hj2
      simpa using this
end Go.Proofs.Ytpccgdkidnkppaa
