import Derived.Deep.RegionHeld3
import Derived.Laws.EntriesVeiled
import Derived.Test.YtpccgdkidnkppaaPk1FnExactRowNew
import Derived.Test.YtpccgdkidnkppaaPk8FnExactRowNew
import Derived.Test.YtpccgdkidnkppaaPk11FnExactRowNew
import Derived.Test.YtpccgdkidnkppaaPk12FnExactRowNew
set_option linter.unusedVariables false
set_option linter.unusedSimpArgs false
namespace Go.Proofs.Ytpccgdkidnkppaa
open Go Go.RowKit

theorem vmap_made {P : Program} {tk : TypeId} {W : World} {b : Nat} {f : Int → Option Value} (hb : W.heap[b]? = some (.map #[] 0)) (hf : ∀ k, f k = none) : VMap P tk W b f 0 := by
  obtain rfl : f = fun _ => none := funext hf
  exact ⟨.map [], ⟨#[], 0, hb, ⟨by simp, Go.MapKept.stamped_empty 0, by simp⟩, Nat.le_refl _, rfl⟩, rfl, fun k _ => ⟨rfl, fun z => rfl⟩⟩

/-- a result that is the set of what is reached -/
def GivesSet (made : List Bool) (nx : Int → List Int) (keys : List Int) (w : World) (e : Ending) (w' : World) : Prop :=
  ∃ mb X, e = .returned (.map (some mb)) ∧ VMap Try.prog 3 w' mb (setF X) (cntN X made.length) ∧ (∀ k, X k = true ↔ Reach (mkK made) nx keys k) ∧ w.heap.size ≤ mb ∧ Below w.heap.size w w'

set_option maxRecDepth 5000 in
set_option maxHeartbeats 8000000 in
theorem reached_calls (Am At Ak : Option Addr) (cm nt ct ck : Nat) (made : List Bool) (g : Nat) (first cap : Array Value) (nx : Int → List Int) (keys : List Int) (w : World) (hten : made.length ≤ 10) (hmade : BoolsAt w.heap.size w Am made) (hg : Enters Try.prog g)
    (hnx : ∀ k w', mkK made k = true → Below w.heap.size w w' → w.heap.size ≤ w'.heap.size → Calls Try.prog g (first ++ #[.int .i64 k] ++ cap) w' (fun e w'' => ∃ v, e = .returned v ∧ w''.ownsRow w'.heap.size 3 1 v (nx k).length (ints (nx k)) ∧ Below w'.heap.size w' w''))
    (hk : IntsAt w.heap.size w Ak keys) (hkl : keys.length ≤ maxLen) :
    Calls Try.prog 74 #[.agg #[.slice Am made.length cm, .slice At nt ct], .slice Ak keys.length ck, .func (.func g) first cap] w (GivesSet made nx keys w) := by
  have hcall := reached1_calls Am At cm nt ct made g first cap nx w.heap.size w hten hmade hg hnx (w.heap.size) (w.heap.size + 1 + 1 + 1) (w.heap.size + 1 + 1 + 1 + 1) (w.heap.size + 1) (w.heap.size + 1 + 1) made.length (fun _ => false)
  replace hcall := Lib.hid hcall
  replace hk := Lib.hid hk
  clear hnx hmade
  have hmm := @run_makeMap Try.prog
  go_enter Try.func74, Try.ntmps74
  go_wp2_with ((with_reducible refine wpList_call_value (by rfl) (.tmp 11) _ _ (by rfl) 122 #[] #[.pointer (some ⟨w.heap.size, 0, none⟩), .pointer (some ⟨w.heap.size + 1 + 1 + 1, 0, none⟩), .pointer (some ⟨w.heap.size + 1 + 1 + 1 + 1, 0, none⟩), .pointer (some ⟨w.heap.size + 1, 0, none⟩)] (by with_unfolding_all rfl) (enters_of Try.func122 (by kernel_rfl) rfl) ?_))
  refine (hcall.out _ Ak ck keys (by rw [cntN_zero]; rfl) ⟨?_, ?_, ?_, ?_, ?_, ?_, ?_, ?_, ?_⟩ ?_ hkl).mono ?_
  · exact (heap_old (by first | (simp; done) | (simp; omega))).trans ((heap_old (by first | (simp; done) | (simp; omega))).trans ((heap_old (by first | (simp; done) | (simp; omega))).trans ((heap_old (by simp)).trans (heap_new rfl))))
  · exact ⟨_, (heap_old (by simp)).trans (heap_new (by simp))⟩
  · exact ⟨_, heap_new (by simp)⟩
  · exact ⟨_, (heap_old (by first | (simp; done) | (simp; omega))).trans ((heap_old (by first | (simp; done) | (simp; omega))).trans ((heap_old (by simp)).trans (heap_new (by simp))))⟩
  · rw [cntN_zero]
    exact vmap_made ((heap_old (by first | (simp; done) | (simp; omega))).trans ((heap_old (by simp)).trans (heap_new (by simp)))) (fun k => by simp [setF])
  · intro k hk; cases hk
  · omega
  · exact below_al (below_al (below_al (below_al (below_al (Below.refl _ _) _) _) _) _) _
  · simp; omega
  · exact hk.out.up (below_al (below_al (below_al (below_al (below_al (Below.refl _ _) _) _) _) _) _) (by simp; omega)
  rintro e w1 ⟨⟨v, rfl⟩, Y, hC, hR, hT⟩
  have o0 := hC.vo.cell
  have hb1 := hC.below
  have hM := hC.m
  have hr := hR.reach
  replace hb1 := Lib.hid hb1
  replace hM := Lib.hid hM
  replace hr := Lib.hid hr
  clear hC hR hT
  refine ⟨_, rfl, ?_⟩
  go_wp2_with fail
  go_ret
  exact ⟨_, Y, rfl, hM.out, hr.out, by omega, hb1.out⟩

set_option maxRecDepth 5000 in
set_option maxHeartbeats 8000000 in
theorem sheetSafe_calls (Am At : Option Addr) (cm ct : Nat) (made : List Bool) (tasks : List Task) (B : Nat) (w0 w : World) (hb : Below B w0 w) (hB : B ≤ w.heap.size) (hs : SheetAt B w0 Am cm At ct made tasks) :
    Calls Try.prog 71 #[.agg #[.slice Am made.length cm, .slice At tasks.length ct]] w fun e w' => e = .returned (.bool (safeP made tasks)) ∧ Below w.heap.size w w' := by
  have hc1 := fun w1 (hw : Below w.heap.size w w1) => sheetOk_calls Am At cm ct made tasks B w0 w1 (below_up' hb hB hw) (Nat.le_trans hB hw.size) hs
  have hsf : safeP made tasks = implSafeP made tasks := (safe_same made tasks).symm
  unfold implSafeP at hsf
  cases hok : sheetOk made tasks with
  | false =>
    rw [hok] at hc1 hsf
    replace hc1 := Lib.hid hc1
    replace hsf := Lib.hid hsf
    clear hok hs hb
    go_enter Try.func71, Try.ntmps71
    go_wp2_with fail
    refine (hc1.out _ (below_al (Below.refl _ _) _)).mono ?_
    rintro e w1 ⟨rfl, h1⟩
    go_wp2_with fail
    go_ret
    exact ⟨by rw [hsf.out]; rfl, below_from h1⟩
  | true =>
    rw [hok, Bool.true_and] at hsf
    rw [hok] at hc1
    have hok2 := hok
    simp only [sheetOk, Bool.and_eq_true, decide_eq_true_eq] at hok
    have hlen := hok.1.1
    have hten := hok.1.2
    have hkc := fun w1 => keys_calls Am At made.length cm tasks.length ct w1 (by omega)
    have hrc := fun w1 (hw : Below w.heap.size w w1) (Ak : Option Addr) (ck : Nat) (hk : IntsAt w1.heap.size w1 Ak (keysN made.length)) =>
      reached_calls Am At Ak cm tasks.length ct ck made 75 #[.agg #[.slice Am made.length cm, .slice At tasks.length ct]] #[] (mayS made tasks) (keysN made.length) w1 hten (hs.made.up (below_up' hb hB hw) (Nat.le_trans hB hw.size))
        (enters_of Try.func75 (by kernel_rfl) rfl) (fun k w' hm h1 h2 => by
          have hkr := mkK_range (show mkK made k ≠ false by rw [hm]; simp)
          obtain ⟨q, rfl⟩ := Int.eq_ofNat_of_zero_le hkr.1
          have hq : q < tasks.length := by omega
          have := sheetMay_calls Am At cm ct made tasks B w0 w' (below_up' (below_up' hb hB hw) (Nat.le_trans hB hw.size) h1) (Nat.le_trans hB (Nat.le_trans hw.size h2)) hs q hq
          rw [show mayMade made tasks[q] = mayS made tasks q by unfold mayS; rw [taskAt_get hq]] at this
          simpa using this) hk (by rw [keysN_length]; unfold maxLen; omega)
    have htc := fun w1 (hw : Below w.heap.size w w1) (mb : Nat) (X : Int → Bool) (hM : VMap Try.prog 3 w1 mb (setF X) (cntN X made.length)) => topo_calls Am At cm ct made tasks B w0 w1 (below_up' hb hB hw) (Nat.le_trans hB hw.size) hs hlen hten mb _ X hM (Nat.le_trans (cntN_le _ _) hten)
    have hXall : ∀ X : Int → Bool, (∀ k, X k = true ↔ Reach (mkK made) (mayS made tasks) (keysN made.length) k) → X = mkK made := by
      intro X hX
      funext k
      rw [Bool.eq_iff_iff, hX]
      refine ⟨fun h => h.isMade, fun h => .here k ?_ h⟩
      exact mem_keysN.2 (mkK_range (by rw [h]; simp))
    replace hc1 := Lib.hid hc1
    replace hsf := Lib.hid hsf
    replace hkc := Lib.hid hkc
    replace hrc := Lib.hid hrc
    replace htc := Lib.hid htc
    replace hXall := Lib.hid hXall
    replace hlen := Lib.hid hlen
    clear hok hok2 hs hb
    go_enter Try.func71, Try.ntmps71
    go_wp2_with fail
    refine (hc1.out _ (below_al (Below.refl _ _) _)).mono ?_
    rintro e w1 ⟨rfl, h1⟩
    have x0 : w1.cell? ⟨w.heap.size, 0, none⟩ = some (.slice Am made.length cm) := (h1.cell (p := ⟨w.heap.size, 0, none⟩) (by simp)).trans (by simp)
    have x1 : w1.cell? ⟨w.heap.size, 1, none⟩ = some (.slice At tasks.length ct) := (h1.cell (p := ⟨w.heap.size, 1, none⟩) (by simp)).trans (by simp)
    have b1 : Below w.heap.size w w1 := below_from h1
    have s1 : w.heap.size < w1.heap.size := by have := h1.size; simp at this; omega
    replace b1 := Lib.hid b1
    clear h1 hc1
    go_wp2_with fail
    go_region_held3 (fun w' => w'.cell? ⟨w.heap.size, 0, none⟩ = some (.slice Am made.length cm) ∧ w'.cell? ⟨w.heap.size, 1, none⟩ = some (.slice At tasks.length ct) ∧ w.heap.size < w'.heap.size ∧ Hid (Below w.heap.size w w')) (first | exact ⟨l0, l1, l2, l3⟩ | exact ⟨j0, j1, j2, j3⟩ | exact ⟨k0, k1, k2, k3⟩ | exact ⟨x0, x1, s1, Lib.hid b1.out.drew⟩ | exact ⟨x0, x1, s1, b1⟩)
      (first
        | (go_at_call 118; refine (hkc.out _).mono ?_; rintro e w2 ⟨v2, rfl, hown2, h2⟩; obtain ⟨Ak, ck, rfl, hk1, hk2, hk3⟩ := ownsRow_ints hown2; have k0 : w2.cell? ⟨w.heap.size, 0, none⟩ = some (.slice Am made.length cm) := kept_cell h2 s1 x0; have k1 : w2.cell? ⟨w.heap.size, 1, none⟩ = some (.slice At tasks.length ct) := kept_cell h2 s1 x1; have k2 : w.heap.size < w2.heap.size := by { have := h2.size; simp at this; omega }; have k3 : Hid (Below w.heap.size w w2) := Lib.hid (below_up b1.out.drew h2); replace hk3 := Lib.hid hk3; clear h2 hown2)
        | (go_at_call 74; refine (hrc.out _ k3.out Ak ck hk3.out).mono ?_; rintro e w3 ⟨mb, X, rfl, hM3, hX3, hmb3, h3⟩; have j0 : w3.cell? ⟨w.heap.size, 0, none⟩ = some (.slice Am made.length cm) := kept_cell h3 k2 k0; have j1 : w3.cell? ⟨w.heap.size, 1, none⟩ = some (.slice At tasks.length ct) := kept_cell h3 k2 k1; have j2 : w.heap.size < w3.heap.size := by { have := h3.size; omega }; have j3 : Hid (Below w.heap.size w w3) := Lib.hid (below_up k3.out h3); clear h3)
        | (go_at_call 73; refine (htc.out _ j3.out mb X hM3).mono ?_; rintro e w4 ⟨v4, rfl, hown4, h4⟩; have l0 : w4.cell? ⟨w.heap.size, 0, none⟩ = some (.slice Am made.length cm) := kept_cell h4 j2 j0; have l1 : w4.cell? ⟨w.heap.size, 1, none⟩ = some (.slice At tasks.length ct) := kept_cell h4 j2 j1; have l2 : w.heap.size < w4.heap.size := by { have := h4.size; omega }; have l3 : Hid (Below w.heap.size w w4) := Lib.hid (below_up j3.out h4)))
    all_goals
      have hfin : safeP made tasks = (topoP X (mayS made tasks) made.length (cntN X made.length) []).2 := by rw [hsf.out, hXall.out X hX3]
      replace hfin := Lib.hid hfin
      go_wp2_with fail
      go_ret
      exact ⟨by rw [hfin.out]; rfl, l3.out⟩
end Go.Proofs.Ytpccgdkidnkppaa

set_option linter.unusedVariables false
set_option linter.unusedSimpArgs false
namespace Go.Proofs.Ytpccgdkidnkppaa
open Go Go.RowKit

abbrev vB : Bool → Value := fun b => Value.bool b
theorem keysN_set {n k : Nat} (d : Int → Bool) (v : Bool) : ((keysN n).map d).set k v = (keysN n).map (fun i => if i = (k : Int) then v else d i) := by
  apply List.ext_getElem
  · simp
  · intro i h1 h2
    simp only [List.length_set, List.length_map] at h1
    rw [List.getElem_set, List.getElem_map, List.getElem_map, keysN_get (by simpa using h1)]
    by_cases e : k = i
    · subst e; simp
    · rw [if_neg e, if_neg (by omega)]
theorem keysN_rep (n : Nat) : List.replicate n false = (keysN n).map (fun _ => false) := by
  apply List.ext_getElem
  · simp [keysN]
  · intro i h1 h2
    simp

set_option maxRecDepth 5000 in
set_option maxHeartbeats 8000000 in
theorem specSheetSafe_calls (Am At : Option Addr) (cm ct : Nat) (made : List Bool) (tasks : List Task) (B : Nat) (w0 w : World) (hb : Below B w0 w) (hB : B ≤ w.heap.size) (hs : SheetAt B w0 Am cm At ct made tasks) (hnod : ∀ T ∈ tasks, nodes T ≤ 1000000000) :
    Calls Try.prog 76 #[.agg #[.slice Am made.length cm, .slice At tasks.length ct]] w fun e w' => e = .returned (.bool (safeP made tasks)) ∧ Below w.heap.size w w' := by
  have hc1 := fun w1 (hw : Below w.heap.size w w1) => specSheetOk_calls Am At cm ct made tasks B w0 w1 (below_up' hb hB hw) (Nat.le_trans hB hw.size) hs hnod
  have hc2 := fun w1 (hw : Below w.heap.size w w1) (q : Nat) (hq : q < tasks.length) (hq9 : q ≤ 9) (h10 : made.length ≤ 10) => l3May_calls Am At cm ct made tasks B w0 w1 (below_up' hb hB hw) (Nat.le_trans hB hw.size) hs q hq hq9 h10 (hnod _ (List.getElem_mem hq))
  have hsf : safeP made tasks = (sheetOk made tasks && safeB (mayS made tasks) made.length) := rfl
  cases hok : sheetOk made tasks with
  | false =>
    rw [hok] at hc1 hsf
    replace hc1 := Lib.hid hc1
    replace hsf := Lib.hid hsf
    clear hc2 hok hs hnod hb
    go_enter Try.func76, Try.ntmps76
    go_wp2_with fail
    refine (hc1.out _ (below_al (Below.refl _ _) _)).mono ?_
    rintro e w1 ⟨rfl, h1⟩
    go_wp2_with fail
    go_ret
    exact ⟨by rw [hsf.out]; rfl, below_from h1⟩
  | true =>
    rw [hok, Bool.true_and] at hsf
    rw [hok] at hc1
    simp only [sheetOk, Bool.and_eq_true, decide_eq_true_eq] at hok
    have hlen := hok.1.1
    have hten := hok.1.2
    have hmay : ∀ (q : Nat) (hq : q < tasks.length), mayMade made tasks[q] = mayS made tasks q := fun q hq => by unfold mayS; rw [taskAt_get hq]
    have hmr : ∀ (k : Int), ∀ j ∈ mayS made tasks k, 0 ≤ j ∧ j < made.length := fun k j hj => (mayS_made j hj).2
    have hml : ∀ k : Int, (mayS made tasks k).length ≤ 10 := fun k => Nat.le_trans (List.length_filter_le _ _) (mayList_len _)
    generalize mayS made tasks = may at *
    replace hc1 := Lib.hid hc1
    replace hc2 := Lib.hid hc2
    replace hsf := Lib.hid hsf
    replace hmay := Lib.hid hmay
    replace hmr := Lib.hid hmr
    replace hml := Lib.hid hml
    replace hlen := Lib.hid hlen
    clear hok hs hnod hb
    obtain ⟨ii, hi1, hi2, hi3, hi4⟩ := info_parts boolTy'.hi
    replace hi1 := Lib.hid hi1
    replace hi2 := Lib.hid hi2
    replace hi3 := Lib.hid hi3
    replace hi4 := Lib.hid hi4
    go_enter Try.func76, Try.ntmps76
    go_wp2_with fail
    refine (hc1.out _ (below_al (Below.refl _ _) _)).mono ?_
    rintro e w1 ⟨rfl, h1⟩
    have x0 : w1.cell? ⟨w.heap.size, 0, none⟩ = some (.slice Am made.length cm) := (h1.cell (p := ⟨w.heap.size, 0, none⟩) (by simp)).trans (by simp)
    have x1 : w1.cell? ⟨w.heap.size, 1, none⟩ = some (.slice At tasks.length ct) := (h1.cell (p := ⟨w.heap.size, 1, none⟩) (by simp)).trans (by simp)
    have b1 : Below w.heap.size w w1 := below_from h1
    have s1 : w.heap.size < w1.heap.size := by have := h1.size; simp at this; omega
    replace b1 := Lib.hid b1
    clear h1 hc1
    go_wp2_with (at_make; go_loud (with_reducible refine wpList_make_full _ (by rfl) _ _ 22 (by rfl) w.heap.size 4 ii (.bool false) 1 Try.underlying22 hi1.out hi2.out hi3.out .i64 .i64 made.length made.length made.length (by with_unfolding_all rfl) (by with_unfolding_all rfl) rfl rfl ?_ ?_ ?_ ?_))
    · rw [hi4.out]; omega
    · simp [maxLen]; omega
    · omega
    intro w2 hmk hgrow
    have hR : RowBlk vB 4 w2 w1.heap.size ((keysN made.length).map (fun _ => false)) := by
      rw [← keysN_rep]; exact made_row (z := false) (by simpa using hmk) rfl
    have hb12 : Below w1.heap.size w1 w2 := ⟨hgrow.os, hgrow.tape, hgrow.output, hgrow.size, fun k hk => hgrow.block k hk (by simp)⟩
    have b2 : Below w.heap.size w w2 := b1.out.trans (hb12.mono b1.out.size)
    have y0 := kept_cell hb12 (by omega) x0
    have y1 := kept_cell hb12 (by omega) x1
    obtain ⟨bd, hbd⟩ : ∃ bd, bd = w1.heap.size := ⟨_, rfl⟩
    rw [← hbd] at hR s1 ⊢
    replace b2 := Lib.hid b2
    replace hR := Lib.hid hR
    clear hb12 hgrow hmk x0 x1 hi1 hi2 hi3 hi4 b1 hbd
    go_wp2_with fail
    go_loopw [4, 5, 6, 7, 8] (fun i _ _ _ _ wr => ∃ (a : Nat) (d : Int → Bool), a ≤ made.length + 1 ∧ i = .int .i64 a ∧ wr.cell? ⟨w.heap.size, 0, none⟩ = some (.slice Am made.length cm) ∧ wr.cell? ⟨w.heap.size, 1, none⟩ = some (.slice At tasks.length ct) ∧ Hid (RowBlk vB 4 wr bd ((keysN made.length).map d)) ∧ Hid (Below w.heap.size w wr) ∧ Hid (passN may made.length (made.length + 1 - a) d = passN may made.length (made.length + 1) (fun _ => false))) (fun i _ _ _ _ _ => made.length + 1 - (intOf i).toNat)
    case atStart => exact ⟨0, fun _ => false, by omega, rfl, y0, y1, hR, b2, Lib.hid rfl⟩
    case round =>
      obtain ⟨a, d, ha, rfl, y0, y1, hR, hw, hp⟩ := hrel
      by_cases hlt : a ≤ made.length
      · have hp2 := hp.out
        rw [show made.length + 1 - a = (made.length + 1 - (a + 1)) + 1 by omega, passN] at hp2
        replace hp2 := Lib.hid hp2
        clear hp
        go_wp2_with fail
        obtain ⟨w9, hw9⟩ : ∃ w9, w9 = wr := ⟨_, rfl⟩
        subst hw9
        go_loopw [5, 6, 7, 8] (fun i _ _ _ wr => ∃ (q : Nat) (d' : Int → Bool), q ≤ made.length ∧ i = .int .i64 q ∧ wr.cell? ⟨w.heap.size, 0, none⟩ = some (.slice Am made.length cm) ∧ wr.cell? ⟨w.heap.size, 1, none⟩ = some (.slice At tasks.length ct) ∧ Hid (RowBlk vB 4 wr bd ((keysN made.length).map d')) ∧ Hid (Below w.heap.size w wr) ∧ Hid (passKs may ((keysN made.length).drop q) d' = passKs may (keysN made.length) d)) (fun i _ _ _ _ => made.length - (intOf i).toNat)
        case atStart => exact ⟨0, d, by omega, rfl, y0, y1, hR, hw, Lib.hid rfl⟩
        case round =>
          obtain ⟨q, d', hq, rfl, y0, y1, hR, hw, hp⟩ := hrel
          by_cases hlt2 : q < made.length
          · have hqt : q < tasks.length := by have := hlen.out; omega
            have hp3 := hp.out
            rw [keysN_drop hlt2, passKs] at hp3
            have hcall := hc2.out wr hw.out q hqt (by omega) hten
            rw [hmay.out q hqt] at hcall
            have hmr' := hmr.out q
            have hml' := hml.out q
            generalize may q = L at *
            replace hp3 := Lib.hid hp3
            replace hcall := Lib.hid hcall
            replace hmr' := Lib.hid hmr'
            clear hp
            go_wp2_with fail
            refine hcall.out.mono ?_
            rintro e w3 ⟨v, rfl, hownL, h3⟩
            obtain ⟨AL, cL, rfl, hl1, hl2, hl3⟩ := ownsRow_ints hownL
            have hbz := hR.out.lt
            have y0' := kept_cell h3 (by have := hw.out.size; omega) y0
            have y1' := kept_cell h3 (by have := hw.out.size; omega) y1
            have hR3 : RowBlk vB 4 w3 bd ((keysN made.length).map d') := hR.out.turn (h3.block _ hbz)
            have b3 : Below w.heap.size w w3 := below_up hw.out h3
            replace hR3 := Lib.hid hR3
            replace b3 := Lib.hid b3
            replace hl3 := Lib.hid hl3
            clear h3 hownL y0 y1 hR hw hcall
            unfold maxLen at hl2
            go_wp2_with fail
            go_loopw [6, 8] (fun f i wr => ∃ (j : Nat) (fr : Bool), j ≤ L.length ∧ i = .int .i64 j ∧ f = .bool fr ∧ wr = w3 ∧ Hid (fr = (L.take j).all d')) (fun _ i _ => L.length - (intOf i).toNat)
            case atStart => exact ⟨0, true, by omega, rfl, rfl, rfl, Lib.hid rfl⟩
            case round =>
              obtain ⟨j, fr, hj, rfl, rfl, rfl, hfr⟩ := hrel
              by_cases hlt3 : j < L.length
              · obtain ⟨bL, oL, eL, hbL, y⟩ := hl3.out j hlt3
                subst eL
                obtain ⟨r0, r1⟩ := hmr'.out L[j] (List.getElem_mem _)
                obtain ⟨kq, hkq⟩ := Int.eq_ofNat_of_zero_le r0
                have hkl : kq < made.length := by omega
                have z := hR3.out.cell (i := kq) (by simpa [keysN] using hkl)
                simp only [List.getElem_map, keysN_get] at z
                have htk : (L.take (j + 1)).all d' = (fr && d' kq) := by
                  rw [hfr.out, List.take_succ_eq_append_getElem hlt3, List.all_append, hkq]; simp
                rw [hkq] at y
                obtain ⟨dv, hdv⟩ : ∃ dv, d' kq = dv := ⟨_, rfl⟩
                rw [hdv] at z htk
                replace htk := Lib.hid htk
                replace hkq := Lib.hid hkq
                replace hdv := Lib.hid hdv
                have hb9 : kq ≤ 10 := by omega
                clear r0 r1
                cases fr with
                | false =>
                  go_wp2_with fail
                  go_roundw
                  case rel => exact ⟨j + 1, false, by omega, by go_num, by first | rfl | trivial, by first | rfl | trivial, Lib.hid (by rw [htk.out]; rfl)⟩
                  case measure => simp [intOf]; omega
                | true =>
                  go_wp2_with fail
                  go_roundw
                  case rel => exact ⟨j + 1, dv, by omega, by go_num, by first | rfl | trivial, by first | rfl | trivial, Lib.hid (by rw [htk.out]; rfl)⟩
                  case measure => simp [intOf]; omega
              · have hfr2 : L.all d' = fr := by rw [hfr.out, List.take_of_length_le (by omega)]
                rw [hfr2] at hp3
                have hz3 := hR3.out.lt
                have f0 := hR3.out.frozen q
                have z := hR3.out.cell (i := q) (by simpa [keysN] using hlt2)
                have hset := hR3.out.set q fr
                rw [keysN_set] at hset
                have hbs : Below w.heap.size w (wr.setCell ⟨bd, q, none⟩ (.bool fr)) := b3.out.setCell (by simp; omega) _
                have q0 : (wr.setCell ⟨bd, q, none⟩ (.bool fr)).cell? ⟨w.heap.size, 0, none⟩ = some (.slice Am made.length cm) := (World.cell?_of_block (setCell_far (show w.heap.size ≠ bd by omega))).trans y0'
                have q1 : (wr.setCell ⟨bd, q, none⟩ (.bool fr)).cell? ⟨w.heap.size, 1, none⟩ = some (.slice At tasks.length ct) := (World.cell?_of_block (setCell_far (show w.heap.size ≠ bd by omega))).trans y1'
                replace hset := Lib.hid hset
                replace hbs := Lib.hid hbs
                replace q0 := Lib.hid q0
                replace q1 := Lib.hid q1
                replace hfr2 := Lib.hid hfr2
                clear hfr
                go_wp2_with fail
                go_roundw
                case rel => exact ⟨q + 1, _, by omega, by go_num, q0.out, q1.out, hset, hbs, hp3⟩
                case measure => simp [intOf]; omega
          · have hd : (keysN made.length).drop q = [] := List.drop_eq_nil_of_le (by simp [keysN]; omega)
            have hp3 := hp.out
            rw [hd, passKs] at hp3
            have hp4 := hp2.out
            rw [← hp3] at hp4
            replace hp4 := Lib.hid hp4
            clear hp hp3 hd
            go_wp2_with fail
            go_roundw
            case rel => exact ⟨a + 1, d', by omega, by go_num, y0, y1, hR, hw, hp4⟩
            case measure => simp [intOf]; omega
      · have ha2 : a = made.length + 1 := by omega
        subst ha2
        have hp2 := hp.out
        rw [Nat.sub_self, passN] at hp2
        have hsf2 : safeP made tasks = (keysN made.length).all d := by rw [hsf.out, safeB, ← hp2]
        replace hsf2 := Lib.hid hsf2
        clear hp hp2 hsf
        go_wp2_with fail
        obtain ⟨w9, hw9⟩ : ∃ w9, w9 = wr := ⟨_, rfl⟩
        subst hw9
        go_loopw [9] (fun i wr => ∃ (q : Nat), q ≤ made.length ∧ i = .int .i64 q ∧ wr = w9 ∧ Hid (∀ k : Nat, k < q → d k = true)) (fun i _ => made.length - (intOf i).toNat)
        case atStart => exact ⟨0, by omega, rfl, rfl, Lib.hid (fun k hk => by omega)⟩
        case round =>
          obtain ⟨q, hq, rfl, rfl, hall⟩ := hrel
          by_cases hlt2 : q < made.length
          · have z := hR.out.cell (i := q) (by simpa [keysN] using hlt2)
            simp only [List.getElem_map, keysN_get] at z
            have hz3 := hR.out.lt
            cases hdq : d q with
            | false =>
              rw [hdq] at z
              have hfin : safeP made tasks = false := by
                rw [hsf2.out]
                apply Bool.eq_false_iff.2
                intro h
                have := (List.all_eq_true.1 h) q (mem_keysN.2 (by omega))
                rw [hdq] at this; cases this
              replace hfin := Lib.hid hfin
              replace hdq := Lib.hid hdq
              go_wp2_with fail
              go_ret
              exact ⟨by rw [hfin.out]; rfl, hw.out⟩
            | true =>
              rw [hdq] at z
              replace hdq := Lib.hid hdq
              go_wp2_with fail
              go_roundw
              case rel => exact ⟨q + 1, by omega, by go_num, by first | rfl | trivial, Lib.hid (fun k hk => if e : k = q then by subst e; exact hdq.out else hall.out k (by omega))⟩
              case measure => simp [intOf]; omega
          · have hfin : safeP made tasks = true := by
              rw [hsf2.out, List.all_eq_true]
              intro k hk
              obtain ⟨h0, h1⟩ := mem_keysN.1 hk
              obtain ⟨k', rfl⟩ := Int.eq_ofNat_of_zero_le h0
              exact hall.out k' (by omega)
            replace hfin := Lib.hid hfin
            go_wp2_with fail
            go_ret
            exact ⟨by rw [hfin.out]; rfl, hw.out⟩
end Go.Proofs.Ytpccgdkidnkppaa

set_option linter.unusedVariables false
set_option linter.unusedSimpArgs false
namespace Go.Proofs.Ytpccgdkidnkppaa
open Go Go.RowKit

/-! two runs side by side -/
theorem Itr.run_rel {σ τ : Type} {f : σ → Int → (Int × Bool) × σ} {g : τ → Int → (Int × Bool) × τ} {R : σ → τ → Prop}
    (h : ∀ s c k, R s c → 0 ≤ k → k ≤ 9 → (f s k).1 = (g c k).1 ∧ ((f s k).1.2 = true → R (f s k).2 (g c k).2)) : ∀ (m : Itr) (s : σ) (c : τ), m.ok → R s c → (m.run f s).1 = (m.run g c).1 ∧ ((m.run f s).1.2 = true → R (m.run f s).2 (m.run g c).2) := by
  intro m
  induction m with
  | done v => intro s c _ hR; exact ⟨rfl, fun _ => hR⟩
  | ask k ct ih =>
    intro s c hok hR
    obtain ⟨h1, h2⟩ := h s c k hR hok.1 hok.2.1
    by_cases hf : (f s k).1.2 = true
    · have hg : (g c k).1.2 = true := by rw [← h1]; exact hf
      rw [Itr.run_yes hf, Itr.run_yes hg, ← h1]
      exact ih _ _ _ (hok.2.2 _) (h2 hf)
    · have hg : ¬ (g c k).1.2 = true := by rw [← h1]; exact hf
      rw [Itr.run_no hf, Itr.run_no hg]
      exact ⟨rfl, fun h => by cases h⟩
theorem Itr.run_keeps {σ : Type} {f : σ → Int → (Int × Bool) × σ} {J : σ → Prop} (hJ : ∀ s k, J s → 0 ≤ k → k ≤ 9 → J (f s k).2) : ∀ (m : Itr) (s : σ), m.ok → J s → J (m.run f s).2 := by
  intro m
  induction m with
  | done v => intro s _ h; exact h
  | ask k ct ih =>
    intro s hok h
    have h1 := hJ s k h hok.1 hok.2.1
    by_cases hf : (f s k).1.2 = true
    · rw [Itr.run_yes hf]; exact ih _ _ (hok.2.2 _) h1
    · rw [Itr.run_no hf]; exact h1

/-! the reference's way of building keys, each once -/
structure OSt where
  vals : List Int
  done : List Int
  under : List Int
def onceP (S : Sh) : Nat → OSt → Int → (Int × Bool) × OSt
  | n, st, k =>
    if mkK S.made k = false then ((atK st.vals k, true), st)
    else if st.done.contains k = true then ((atK st.vals k, true), st)
    else if st.under.contains k = true then ((0, false), st)
    else match n with
      | 0 => ((0, false), st)
      | n + 1 =>
        if ((S.tk k).itr.run (onceP S n) ⟨st.vals, st.done, st.under ++ [k]⟩).1.2 = true
        then ((((S.tk k).itr.run (onceP S n) ⟨st.vals, st.done, st.under ++ [k]⟩).1.1, true), ⟨((S.tk k).itr.run (onceP S n) ⟨st.vals, st.done, st.under ++ [k]⟩).2.vals.set k.toNat ((S.tk k).itr.run (onceP S n) ⟨st.vals, st.done, st.under ++ [k]⟩).1.1, ((S.tk k).itr.run (onceP S n) ⟨st.vals, st.done, st.under ++ [k]⟩).2.done ++ [k], st.under⟩)
        else ((0, false), ⟨((S.tk k).itr.run (onceP S n) ⟨st.vals, st.done, st.under ++ [k]⟩).2.vals, ((S.tk k).itr.run (onceP S n) ⟨st.vals, st.done, st.under ++ [k]⟩).2.done, st.under⟩)
theorem onceP_unmade {S : Sh} {n : Nat} {st : OSt} {k : Int} (h : mkK S.made k = false) : onceP S n st k = ((atK st.vals k, true), st) := by unfold onceP; rw [if_pos h]
theorem onceP_done {S : Sh} {n : Nat} {st : OSt} {k : Int} (h : mkK S.made k = true) (hd : st.done.contains k = true) : onceP S n st k = ((atK st.vals k, true), st) := by unfold onceP; rw [if_neg (by simp [h]), if_pos hd]
theorem onceP_under {S : Sh} {n : Nat} {st : OSt} {k : Int} (h : mkK S.made k = true) (hd : st.done.contains k = false) (hu : st.under.contains k = true) : onceP S n st k = ((0, false), st) := by unfold onceP; rw [if_neg (by simp [h]), if_neg (by simp only [hd]; decide), if_pos hu]
theorem onceP_new {S : Sh} {n : Nat} {st : OSt} {k : Int} (h : mkK S.made k = true) (hd : st.done.contains k = false) (hu : st.under.contains k = false) : onceP S (n + 1) st k =
    (let r := (S.tk k).itr.run (onceP S n) ⟨st.vals, st.done, st.under ++ [k]⟩
     if r.1.2 = true then ((r.1.1, true), ⟨r.2.vals.set k.toNat r.1.1, r.2.done ++ [k], st.under⟩) else ((0, false), ⟨r.2.vals, r.2.done, st.under⟩)) := by
  rw [onceP, if_neg (by simp [h]), if_neg (by simp only [hd]; decide), if_neg (by simp only [hu]; decide)]
theorem onceP_zero (S : Sh) (n : Nat) (st : OSt) (k : Int) : (onceP S n st k).1.2 = false → (onceP S n st k).1.1 = 0 := by
  intro h
  unfold onceP at h ⊢
  split
  · rename_i h1; rw [if_pos h1] at h; cases h
  · rename_i h1
    rw [if_neg h1] at h
    split
    · rename_i h2; rw [if_pos h2] at h; cases h
    · rename_i h2
      rw [if_neg h2] at h
      split
      · rfl
      · rename_i h3
        rw [if_neg h3] at h
        cases n with
        | zero => rfl
        | succ n =>
          dsimp only at h ⊢
          split
          · rename_i h4; rw [if_pos h4] at h; cases h
          · rfl
/-- what is kept: of what a step of the reference's way -/
structure OInv (S : Sh) (n : Nat) (st : OSt) : Prop where
  vlen : st.vals.length = S.made.length
  vals : ∀ x ∈ st.vals, 0 ≤ x ∧ x ≤ 96
  done : st.done.length ≤ S.made.length
  nodup : st.done.Nodup
  range : ∀ x ∈ st.done, 0 ≤ x ∧ x < S.made.length
  under : UOk S n st.under
  apart : ∀ x ∈ st.under, x ∉ st.done
theorem OInv.at {S : Sh} {n : Nat} {st : OSt} (h : OInv S n st) (k : Int) : 0 ≤ atK st.vals k ∧ atK st.vals k ≤ 96 := by
  unfold atK
  split
  · omega
  · by_cases h1 : k.toNat < st.vals.length
    · rw [getD_at _ h1]; exact h.vals _ (List.getElem_mem _)
    · rw [getD_out _ (by omega)]; omega
theorem onceP_inv {S : Sh} (hS : S.Ok) : ∀ (n : Nat) (st : OSt) (k : Int), OInv S n st → OInv S n (onceP S n st k).2 ∧ (onceP S n st k).2.under = st.under ∧ 0 ≤ (onceP S n st k).1.1 ∧ (onceP S n st k).1.1 ≤ 96 := by
  intro n
  induction n with
  | zero =>
    intro st k hi
    cases hm : mkK S.made k with
    | false => rw [onceP_unmade hm]; exact ⟨hi, rfl, hi.at k⟩
    | true =>
      cases hd : st.done.contains k with
      | true => rw [onceP_done hm hd]; exact ⟨hi, rfl, hi.at k⟩
      | false =>
        cases hu : st.under.contains k with
        | true => rw [onceP_under hm hd hu]; exact ⟨hi, rfl, by simp, by simp⟩
        | false =>
          have : onceP S 0 st k = ((0, false), st) := by rw [onceP, if_neg (by simp [hm]), if_neg (by simp only [hd]; decide), if_neg (by simp only [hu]; decide)]
          rw [this]; exact ⟨hi, rfl, by simp, by simp⟩
  | succ n ih =>
    intro st k hi
    cases hm : mkK S.made k with
    | false => rw [onceP_unmade hm]; exact ⟨hi, rfl, hi.at k⟩
    | true =>
      cases hd : st.done.contains k with
      | true => rw [onceP_done hm hd]; exact ⟨hi, rfl, hi.at k⟩
      | false =>
        cases hu : st.under.contains k with
        | true => rw [onceP_under hm hd hu]; exact ⟨hi, rfl, by simp, by simp⟩
        | false =>
          have hkr := mkK_range (show mkK S.made k ≠ false by rw [hm]; simp)
          have hkd : k ∉ st.done := by simpa using hd
          have hku : k ∉ st.under := by simpa using hu
          rw [onceP_new hm hd hu]
          have h1 : OInv S n ⟨st.vals, st.done, st.under ++ [k]⟩ := ⟨hi.vlen, hi.vals, hi.done, hi.nodup, hi.range, hi.under.push hku hkr, fun x hx => (List.mem_append.1 hx).elim (hi.apart x) (fun e => by rw [List.mem_singleton.1 e]; exact hkd)⟩
          have hk := Itr.run_keeps (f := onceP S n) (J := fun s => OInv S n s ∧ s.under = st.under ++ [k]) (fun s j h _ _ => ⟨(ih s j h.1).1, ((ih s j h.1).2.1).trans h.2⟩) (S.tk k).itr ⟨st.vals, st.done, st.under ++ [k]⟩ (Tk.itr_ok _ (tk_ok hS k)) ⟨h1, rfl⟩
          have hv : 0 ≤ ((S.tk k).itr.run (onceP S n) ⟨st.vals, st.done, st.under ++ [k]⟩).1.1 ∧ ((S.tk k).itr.run (onceP S n) ⟨st.vals, st.done, st.under ++ [k]⟩).1.1 ≤ 96 := by
            rw [← Tk.run_itr _ (onceP_zero S n)]
            exact Tk.run_value (J := fun s => OInv S n s) (fun s j h _ _ => (ih s j h).1) (fun s j h _ _ => (ih s j h).2.2) (S.tk k) _ (tk_ok hS k) h1
          generalize (S.tk k).itr.run (onceP S n) ⟨st.vals, st.done, st.under ++ [k]⟩ = r at *
          obtain ⟨h2, h3⟩ := hk
          have hkd2 : k ∉ r.2.done := h2.apart k (by rw [h3]; simp)
          have hap : ∀ x ∈ st.under, x ∉ r.2.done := fun x hx => h2.apart x (by rw [h3]; simp [hx])
          dsimp only
          split
          · refine ⟨⟨by simpa using h2.vlen, fun x hx => ?_, ?_, ?_, fun x hx => ?_, hi.under, fun x hx hx2 => ?_⟩, rfl, hv⟩
            · rcases List.mem_or_eq_of_mem_set hx with hx | rfl
              · exact h2.vals x hx
              · exact hv
            · refine nodup_bound ?_ (fun x hx => ?_)
              · rw [List.nodup_append]
                exact ⟨h2.nodup, by simp, fun a ha b hb => by simp only [List.mem_singleton] at hb; subst hb; intro e; exact hkd2 (e ▸ ha)⟩
              · rcases List.mem_append.1 hx with hx | hx
                · exact h2.range x hx
                · rw [List.mem_singleton.1 hx]; exact hkr
            · rw [List.nodup_append]
              exact ⟨h2.nodup, by simp, fun a ha b hb => by simp only [List.mem_singleton] at hb; subst hb; intro e; exact hkd2 (e ▸ ha)⟩
            · rcases List.mem_append.1 hx with hx | hx
              · exact h2.range x hx
              · rw [List.mem_singleton.1 hx]; exact hkr
            · rcases List.mem_append.1 hx2 with hx2 | hx2
              · exact hap x hx hx2
              · rw [List.mem_singleton.1 hx2] at hx; exact hku hx
          · exact ⟨⟨h2.vlen, h2.vals, h2.done, h2.nodup, h2.range, hi.under, hap⟩, rfl, by simp, by simp⟩

/-! the same as the program's maker -/
structure ORel (S : Sh) (st : MkSt) (o : OSt) : Prop where
  done : o.done = st.order
  under : o.under = st.open_
  vlen : o.vals.length = S.made.length
  unmade : ∀ k, mkK S.made k = false → atK o.vals k = atK S.inputs k
  has : ∀ k, mkK S.made k = true → (k ∈ st.order ↔ st.known k ≠ none)
  val : ∀ k v, st.known k = some v → mkK S.made k = true ∧ atK o.vals k = v
theorem atK_set {xs : List Int} {k j : Int} {v : Int} (hk : 0 ≤ k ∧ k < xs.length) : atK (xs.set k.toNat v) j = if j = k then v else atK xs j := by
  obtain ⟨q, rfl⟩ := Int.eq_ofNat_of_zero_le hk.1
  rw [Int.toNat_natCast]
  unfold atK
  by_cases e : j = (q : Int)
  · subst e
    rw [if_pos rfl, if_neg (by omega), Int.toNat_natCast, getD_at _ (by simp; omega)]
    simp
  · rw [if_neg e]
    split
    · rfl
    · by_cases hj : j.toNat < xs.length
      · rw [getD_at _ (by simpa using hj), getD_at _ hj, List.getElem_set_ne (by omega)]
      · rw [getD_out _ (by simp; omega), getD_out _ (by omega)]
theorem once_same {S : Sh} (hS : S.Ok) : ∀ (n : Nat) (st : MkSt) (o : OSt) (k : Int), Inv S n st → ORel S st o →
    (keyP S n st k).1 = (onceP S n o k).1 ∧ ((keyP S n st k).1.2 = true → ORel S (keyP S n st k).2 (onceP S n o k).2) := by
  intro n
  induction n with
  | zero =>
    intro st o k hi hR
    cases hm : mkK S.made k with
    | false => rw [keyP_unmade hm, onceP_unmade hm]; exact ⟨by rw [hR.unmade k hm], fun _ => hR⟩
    | true =>
      cases hkn : st.known k with
      | some v =>
        have hd : o.done.contains k = true := by rw [hR.done]; simp [(hR.has k hm).2 (by rw [hkn]; simp)]
        rw [keyP_known hm hkn, onceP_done hm hd]
        exact ⟨by rw [(hR.val k v hkn).2], fun _ => hR⟩
      | none =>
        have hd : o.done.contains k = false := by
          rw [hR.done]
          cases h : st.order.contains k with
          | false => rfl
          | true => exact ((hR.has k hm).1 (by simpa using h) hkn).elim
        by_cases ho : 0 ≤ idx (fun x => k == x) st.open_
        · have hu : o.under.contains k = true := by
            rw [hR.under]
            cases h : st.open_.contains k with
            | true => rfl
            | false => exact (idx_not_mem (by simpa using h) ho).elim
          rw [keyP_opened hm hkn ho, onceP_under hm hd hu]
          exact ⟨rfl, fun h => by cases h⟩
        · have hu : o.under.contains k = false := by
            rw [hR.under]; simpa using not_open ho
          have e1 : keyP S 0 st k = ((0, false), st) := by unfold keyP; rw [if_neg (by simp [hm]), hkn]; simp only; rw [if_neg ho]
          have e2 : onceP S 0 o k = ((0, false), o) := by rw [onceP, if_neg (by simp [hm]), if_neg (by simp only [hd]; decide), if_neg (by simp only [hu]; decide)]
          rw [e1, e2]
          exact ⟨rfl, fun h => by cases h⟩
  | succ n ih =>
    intro st o k hi hR
    cases hm : mkK S.made k with
    | false => rw [keyP_unmade hm, onceP_unmade hm]; exact ⟨by rw [hR.unmade k hm], fun _ => hR⟩
    | true =>
      cases hkn : st.known k with
      | some v =>
        have hd : o.done.contains k = true := by rw [hR.done]; simp [(hR.has k hm).2 (by rw [hkn]; simp)]
        rw [keyP_known hm hkn, onceP_done hm hd]
        exact ⟨by rw [(hR.val k v hkn).2], fun _ => hR⟩
      | none =>
        have hd : o.done.contains k = false := by
          rw [hR.done]
          cases h : st.order.contains k with
          | false => rfl
          | true => exact ((hR.has k hm).1 (by simpa using h) hkn).elim
        by_cases ho : 0 ≤ idx (fun x => k == x) st.open_
        · have hu : o.under.contains k = true := by
            rw [hR.under]
            cases h : st.open_.contains k with
            | true => rfl
            | false => exact (idx_not_mem (by simpa using h) ho).elim
          rw [keyP_opened hm hkn ho, onceP_under hm hd hu]
          exact ⟨rfl, fun h => by cases h⟩
        · have hu : o.under.contains k = false := by
            rw [hR.under]; simpa using not_open ho
          have hkr := mkK_range (show mkK S.made k ≠ false by rw [hm]; simp)
          have hi1 := inv_push hi hkr hkn (not_open ho)
          have hR1 : ORel S { st with open_ := st.open_ ++ [k] } ⟨o.vals, o.done, o.under ++ [k]⟩ := ⟨hR.done, by simp only [hR.under], hR.vlen, hR.unmade, hR.has, hR.val⟩
          have hrel := Itr.run_rel (f := keyP S n) (g := onceP S n) (R := fun s c => Inv S n s ∧ ORel S s c ∧ s.open_ = st.open_ ++ [k]) (fun s c j h _ _ => by
            obtain ⟨a, b⟩ := ih s c j h.1 h.2.1
            have hv := keyP_inv hS n s j h.1
            exact ⟨a, fun hok => ⟨hv.1, b hok, (hv.2.1 hok).trans h.2.2⟩⟩) (S.tk k).itr { st with open_ := st.open_ ++ [k] } ⟨o.vals, o.done, o.under ++ [k]⟩ (Tk.itr_ok _ (tk_ok hS k)) ⟨hi1, hR1, rfl⟩
          rw [keyP_new hm hkn ho, onceP_new hm hd hu, Tk.run_itr _ (keyP_zero S n)]
          generalize (S.tk k).itr.run (keyP S n) { st with open_ := st.open_ ++ [k] } = r at *
          generalize (S.tk k).itr.run (onceP S n) ⟨o.vals, o.done, o.under ++ [k]⟩ = q at *
          obtain ⟨h1, h2⟩ := hrel
          dsimp only
          rw [← h1]
          by_cases hok : r.1.2 = true
          · obtain ⟨g1, g2, g3⟩ := h2 hok
            rw [if_pos hok, if_pos hok]
            refine ⟨rfl, fun _ => ⟨by simp only [g2.done], by simp only [g3, List.dropLast_concat]; exact hR.under, by simpa using g2.vlen, fun j hj => ?_, fun j hj => ?_, fun j v hv => ?_⟩⟩
            · rw [atK_set (by rw [g2.vlen]; exact hkr), if_neg (fun e => by rw [e, hm] at hj; cases hj)]
              exact g2.unmade j hj
            · simp only [List.mem_append, List.mem_singleton, upd]
              by_cases e : j = k
              · simp [e]
              · rw [if_neg e]
                have := g2.has j hj
                simp only [e, or_false]; exact this
            · simp only [upd] at hv
              rw [atK_set (by rw [g2.vlen]; exact hkr)]
              by_cases e : j = k
              · rw [if_pos e] at hv ⊢; cases hv; exact ⟨by rw [e]; exact hm, rfl⟩
              · rw [if_neg e] at hv ⊢; exact g2.val j v hv
          · rw [if_neg hok, if_neg hok]
            exact ⟨rfl, fun h => by cases h⟩

/-! keys, one after another -/
def suspL (S : Sh) : List Int → MkSt → List Int × Bool
  | [], st => (st.order, true)
  | k :: ks, st => if (keyP S S.made.length st k).1.2 = true then suspL S ks (keyP S S.made.length st k).2 else ([], false)
def onceL (S : Sh) : List Int → OSt → List Int × Bool
  | [], st => (st.done, true)
  | k :: ks, st => if (onceP S S.made.length st k).1.2 = true then onceL S ks (onceP S S.made.length st k).2 else ([], false)
def suspP (S : Sh) (keys : List Int) : List Int × Bool := suspL S keys st0
def ost0 (S : Sh) : OSt := ⟨S.inputs, [], []⟩
theorem orel0 {S : Sh} (hS : S.Ok) : ORel S st0 (ost0 S) := ⟨rfl, rfl, hS.ins, fun _ _ => rfl, fun k _ => by simp [st0], fun k v h => by cases h⟩
theorem oinv0 {S : Sh} (hS : S.Ok) : OInv S S.made.length (ost0 S) := ⟨hS.ins, hS.vals, by simp [ost0], List.nodup_nil, fun x hx => (by cases hx), uok0 S, fun x hx => (by cases hx)⟩
theorem suspL_same {S : Sh} (hS : S.Ok) : ∀ (ks : List Int) (st : MkSt) (o : OSt), Inv S S.made.length st → ORel S st o → suspL S ks st = onceL S ks o := by
  intro ks
  induction ks with
  | nil => intro st o _ hR; rw [suspL, onceL, hR.done]
  | cons k ks ih =>
    intro st o hi hR
    obtain ⟨h1, h2⟩ := once_same hS S.made.length st o k hi hR
    rw [suspL, onceL, ← h1]
    by_cases hok : (keyP S S.made.length st k).1.2 = true
    · rw [if_pos hok, if_pos hok]
      exact ih _ _ (keyP_inv hS _ _ _ hi).1 (h2 hok)
    · rw [if_neg hok, if_neg hok]
theorem susp_same {S : Sh} (hS : S.Ok) (keys : List Int) : suspP S keys = onceL S keys (ost0 S) := suspL_same hS keys st0 (ost0 S) (inv0 S) (orel0 hS)
theorem suspL_length {S : Sh} (hS : S.Ok) : ∀ (ks : List Int) (st : MkSt), Inv S S.made.length st → (suspL S ks st).1.length ≤ 10 := by
  intro ks
  induction ks with
  | nil => intro st hi; rw [suspL]; have := inv_order hi; have := hS.ten; simp only []; omega
  | cons k ks ih =>
    intro st hi
    rw [suspL]
    split
    · exact ih _ (keyP_inv hS _ _ _ hi).1
    · simp
/-- whether all keys are ones of a sheet of n keys -/
def keysOk (n : Nat) (keys : List Int) : Bool := keys.all fun k => decide (0 ≤ k ∧ k < n)
theorem keysOk_iff {n : Nat} {keys : List Int} : keysOk n keys = true ↔ ∀ k ∈ keys, 0 ≤ k ∧ k < n := by
  unfold keysOk
  rw [List.all_eq_true]
  simp
end Go.Proofs.Ytpccgdkidnkppaa

set_option linter.unusedVariables false
set_option linter.unusedSimpArgs false
namespace Go.Proofs.Ytpccgdkidnkppaa
open Go Go.RowKit

theorem all1_calls (b : Nat) (A A2 : Option Addr) (n c n2 c2 : Nat) (k : Int) (w : World) (x0 : w.cell? ⟨b, 0, none⟩ = some (.slice A n c)) (x1 : w.cell? ⟨b, 1, none⟩ = some (.slice A2 n2 c2)) :
    Calls Try.prog 120 #[.int .i64 k, .pointer (some ⟨b, 0, none⟩)] w fun e w' => e = .returned (.bool (!decide (0 ≤ k ∧ k < n))) ∧ Below w.heap.size w w' := by
  have h := has_calls A A2 n c n2 c2 k w
  generalize hd : decide (0 ≤ k ∧ k < n) = d at *
  replace hd := Lib.hid hd
  replace h := Lib.hid h
  go_enter Try.func120, Try.ntmps120
  go_wp2_with fail
  refine h.out.mono ?_
  rintro e w1 ⟨rfl, h1⟩
  replace h1 := Lib.hid h1
  go_wp2_with fail
  go_ret
  exact ⟨rfl, h1.out⟩
theorem any_keysOk (n : Nat) (keys : List Int) : (!(keys.any fun k => !decide (0 ≤ k ∧ k < n))) = keysOk n keys := by
  unfold keysOk
  induction keys with
  | nil => rfl
  | cons k ks ih => rw [List.any_cons, List.all_cons, ← ih]; cases decide (0 ≤ k ∧ k < (n : Int)) <;> simp
theorem all_calls (A A2 Ak : Option Addr) (n c n2 c2 ck : Nat) (keys : List Int) (B : Nat) (w0 w : World) (hb : Below B w0 w) (hB : B ≤ w.heap.size) (hm : keys.length ≤ maxLen) (hx : IntsAt B w0 Ak keys) :
    Calls Try.prog 72 #[.agg #[.slice A n c, .slice A2 n2 c2], .slice Ak keys.length ck] w fun e w' => e = .returned (.bool (keysOk n keys)) ∧ Below w.heap.size w w' := by
  have h := containsFunc_calls (fun k => !decide (0 ≤ k ∧ k < n)) 120 #[] #[.pointer (some ⟨w.heap.size, 0, none⟩)] (enters_of Try.func120 (by kernel_rfl) rfl) Ak ck keys B w0 (w.alloc (.cells #[.slice A n c, .slice A2 n2 c2] 31 (0, 0)))
    (below_al' hb _ hB) (by simp; omega) hm hx (fun x w' _ hw => by
      have x0 : w'.cell? ⟨w.heap.size, 0, none⟩ = some (.slice A n c) := (hw.cell (p := ⟨w.heap.size, 0, none⟩) (by simp)).trans (by simp)
      have x1 : w'.cell? ⟨w.heap.size, 1, none⟩ = some (.slice A2 n2 c2) := (hw.cell (p := ⟨w.heap.size, 1, none⟩) (by simp)).trans (by simp)
      simpa using all1_calls w.heap.size A A2 n c n2 c2 x w' x0 x1)
  have hr := any_keysOk n keys
  generalize (keys.any fun k => !decide (0 ≤ k ∧ k < n)) = q at *
  rw [← hr]
  replace h := Lib.hid h
  clear hr hx hb
  go_enter Try.func72, Try.ntmps72
  go_wp2_with fail
  refine h.out.mono ?_
  rintro e w1 ⟨rfl, h1⟩
  replace h1 := Lib.hid h1
  go_wp2_with fail
  go_ret
  exact ⟨rfl, below_from h1.out⟩

set_option maxHeartbeats 1000000 in
theorem orderSuspend_good (E : MkEnv) (S : Sh) (hE : E.Good S) (Ak : Option Addr) (ck : Nat) (keys : List Int) (w : World) (hb : Below E.B E.w0 w) (hB : E.B ≤ w.heap.size) (hk : keysOk S.made.length keys = true) (hx : IntsAt E.B E.w0 Ak keys) (hm : keys.length ≤ maxLen) :
    Calls Try.prog 25 #[.agg #[.slice E.Am S.made.length E.cm, .slice E.At S.tks.length E.ct], .slice E.Ai S.inputs.length E.ci, .slice Ak keys.length ck] w fun e w' =>
      GivesOwn E.B (suspP S keys) e w w' := by
  have hok1 : sheetOk S.made (S.tks.map Tk.enc) = true := hE.ok.sheet
  have hok2 : takesOk S.made.length S.inputs = true := by simp [takesOk, hE.ok.ins, vals_iff.2 hE.ok.vals]
  have hten := hE.ok.ten
  have hc1 := fun w1 (hw : Below w.heap.size w w1) => sheetOk_calls E.Am E.At E.cm E.ct S.made (S.tks.map Tk.enc) E.B E.w0 w1 (below_up' hb hB hw) (Nat.le_trans hB hw.size) hE.sheet
  rw [hok1] at hc1
  simp only [List.length_map] at hc1
  have hc2 := fun w1 (hw : Below w.heap.size w w1) => takes_calls E.Am E.At E.Ai S.made.length E.cm S.tks.length E.ct E.ci S.inputs E.B E.w0 w1 (below_up' hb hB hw) (Nat.le_trans hB hw.size) (Nat.le_trans hE.li hE.mi) hE.ins
  rw [hok2] at hc2
  have hc3 := fun w1 (hw : Below w.heap.size w w1) => all_calls E.Am E.At Ak S.made.length E.cm S.tks.length E.ct ck keys E.B E.w0 w1 (below_up' hb hB hw) (Nat.le_trans hB hw.size) hm hx
  rw [hk] at hc3
  have hc4 := fun w1 (hw : Below w.heap.size w w1) => newMaker_calls E S w1 (below_up' hb hB hw) (Nat.le_trans hB hw.size)
  have hc5 := key_calls E S hE
  have hrg := keysOk_iff.1 hk
  obtain ⟨P, hP⟩ : ∃ P, suspP S keys = P := ⟨_, rfl⟩
  rw [hP]
  unfold maxLen at hm
  replace hc1 := Lib.hid hc1
  replace hc2 := Lib.hid hc2
  replace hc3 := Lib.hid hc3
  replace hc4 := Lib.hid hc4
  replace hc5 := Lib.hid hc5
  replace hP := Lib.hid hP
  replace hb := Lib.hid hb
  replace hE := Lib.hid hE
  replace hx := Lib.hid hx
  replace hrg := Lib.hid hrg
  clear hok1 hok2 hk
  go_enter Try.func25, Try.ntmps25
  go_wp2_with fail
  refine (hc1.out _ (below_al (Below.refl _ _) _)).mono ?_
  rintro e w1 ⟨rfl, h1⟩
  have x0 : w1.cell? ⟨w.heap.size, 0, none⟩ = some (.slice E.Am S.made.length E.cm) := (h1.cell (p := ⟨w.heap.size, 0, none⟩) (by simp)).trans (by simp)
  have x1 : w1.cell? ⟨w.heap.size, 1, none⟩ = some (.slice E.At S.tks.length E.ct) := (h1.cell (p := ⟨w.heap.size, 1, none⟩) (by simp)).trans (by simp)
  have b1 := below_from h1
  have s1 : w.heap.size < w1.heap.size := by have := h1.size; simp at this; omega
  replace b1 := Lib.hid b1
  clear h1
  go_wp2_with fail
  refine (hc2.out _ b1.out).mono ?_
  rintro e w2 ⟨rfl, h2⟩
  have y0 : w2.cell? ⟨w.heap.size, 0, none⟩ = some (.slice E.Am S.made.length E.cm) := kept_cell h2 s1 x0
  have y1 : w2.cell? ⟨w.heap.size, 1, none⟩ = some (.slice E.At S.tks.length E.ct) := kept_cell h2 s1 x1
  have b2 := below_up b1.out h2
  have s2 : w.heap.size < w2.heap.size := by have := h2.size; omega
  replace b2 := Lib.hid b2
  clear h2 x0 x1 s1
  go_wp2_with fail
  refine (hc3.out _ b2.out).mono ?_
  rintro e w3 ⟨rfl, h3⟩
  have x0 : w3.cell? ⟨w.heap.size, 0, none⟩ = some (.slice E.Am S.made.length E.cm) := kept_cell h3 s2 y0
  have x1 : w3.cell? ⟨w.heap.size, 1, none⟩ = some (.slice E.At S.tks.length E.ct) := kept_cell h3 s2 y1
  have b3 := below_up b2.out h3
  have s3 : w.heap.size < w3.heap.size := by have := h3.size; omega
  replace b3 := Lib.hid b3
  clear h3 y0 y1 s2
  go_wp2_with fail
  refine (hc4.out _ b3.out).mono ?_
  rintro e w4 ⟨m, F, rfl, hM, hF, h4⟩
  have b4 := below_up b3.out h4
  have hF4 : ∀ i, F i → w.heap.size ≤ i := fun i hi => Nat.le_trans b3.out.size (hF i hi)
  replace hM := Lib.hid hM
  replace hF4 := Lib.hid hF4
  replace b4 := Lib.hid b4
  clear hF h4 x0 x1 s3
  go_wp2_with fail
  go_loopw [10, 11, 12, 33] (fun _ _ _ i wr => ∃ (j : Nat) (st : MkSt) (F : Nat → Prop), j ≤ keys.length ∧ i = .int .i64 j ∧ Hid (MkI E S m S.made.length st wr F) ∧
    Hid (∀ i, F i → w.heap.size ≤ i) ∧ Hid (Below w.heap.size w wr) ∧ Hid (suspP S keys = suspL S (keys.drop j) st)) (fun _ _ _ i _ => keys.length - (intOf i).toNat)
  case atStart => exact ⟨0, st0, F, Nat.zero_le _, rfl, Lib.hid ⟨hM.out, inv0 S⟩, hF4, b4, Lib.hid rfl⟩
  case round =>
    obtain ⟨j, st, F, hj, rfl, hM, hF, hw, he⟩ := hrel
    by_cases hlt : j < keys.length
    · have he2 := he.out
      rw [List.drop_eq_getElem_cons hlt, suspL] at he2
      have hkr := hrg.out _ (List.getElem_mem hlt)
      have hkey := hc5.out m S.made.length st keys[j] wr F hkr.1 (by omega) hM.out
      obtain ⟨b, o, rfl, hbb, y⟩ := hx.out.at (below_up' hb.out hB hw.out) (Nat.le_trans hB hw.out.size) j hlt
      generalize keys[j] = k at *
      obtain ⟨r, hr⟩ : ∃ r, keyP S S.made.length st k = r := ⟨_, rfl⟩
      rw [hr] at he2 hkey
      replace hkey := Lib.hid hkey
      replace hr := Lib.hid hr
      replace he2 := Lib.hid he2
      replace hkr := Lib.hid hkr
      clear he
      go_wp2_with fail
      refine hkey.out.mono ?_
      rintro e w5 ⟨rfl, v1, v2, F5, hM5, t5⟩
      have hF5 : ∀ i, F5 i → w.heap.size ≤ i := fun i hi => (t5.fresh i hi).elim (hF.out i) (fun hge => Nat.le_trans hw.out.size hge)
      have hw5 := hw.out.trans (t5.below (B := w.heap.size) hw.out.size (fun i hi => hF.out i hi))
      replace hM5 := Lib.hid hM5
      replace hF5 := Lib.hid hF5
      replace hw5 := Lib.hid hw5
      clear t5 y
      cases hok : r.1.2 with
      | false =>
        rw [hok] at he2
        go_wp2_with fail
        go_ret2
        have := he2.out
        simp at this
        rw [← hP.out, this]
        exact ⟨_, rfl, World.ownsRow_nil _ _ _ _, hw5.out⟩
      | true =>
        rw [hok] at he2
        simp only [if_true] at he2
        go_wp2_with fail
        go_roundw
        case rel => exact ⟨j + 1, r.2, F5, by omega, by go_num, hM5, hF5, hw5, he2⟩
        case measure => simp [intOf]; omega
    · have hd : keys.drop j = [] := List.drop_eq_nil_of_le (by omega)
      have he2 := he.out
      rw [hd, suspL] at he2
      obtain ⟨⟨bb, vo, vc, vr, hA, -⟩, -⟩ := hM.out
      have hor := hA.or
      have z6 : wr.cell? ⟨m, 6, none⟩ = some vr := (cellm hA.blk 6).trans rfl
      replace he2 := Lib.hid he2
      replace hor := Lib.hid hor
      replace hd := Lib.hid hd
      clear he hA
      go_wp2_with fail
      go_ret2
      rw [← hP.out, he2.out]
      exact ⟨_, rfl, hor.out, hw.out⟩

set_option maxHeartbeats 1000000 in
theorem orderSuspend_bad (Am At Ai Ak : Option Addr) (cm ct ci ck : Nat) (made : List Bool) (tasks : List Task) (inputs keys : List Int) (B : Nat) (w0 : World) (w : World) (hs : SheetAt B w0 Am cm At ct made tasks) (hi : IntsAt B w0 Ai inputs) (hli : inputs.length ≤ maxLen) (hx : IntsAt B w0 Ak keys) (hm : keys.length ≤ maxLen)
    (hb : Below B w0 w) (hB : B ≤ w.heap.size) (hbad : sheetOk made tasks = true → takesOk made.length inputs = true → keysOk made.length keys = false) :
    Calls Try.prog 25 #[.agg #[.slice Am made.length cm, .slice At tasks.length ct], .slice Ai inputs.length ci, .slice Ak keys.length ck] w fun e w' =>
      e = .returned (.tuple #[.slice none 0 0, .bool false]) ∧ Below w.heap.size w w' := by
  have hc1 := fun w1 (hw : Below w.heap.size w w1) => sheetOk_calls Am At cm ct made tasks B w0 w1 (below_up' hb hB hw) (Nat.le_trans hB hw.size) hs
  have hc2 := fun w1 (hw : Below w.heap.size w w1) => takes_calls Am At Ai made.length cm tasks.length ct ci inputs B w0 w1 (below_up' hb hB hw) (Nat.le_trans hB hw.size) hli hi
  have hc3 := fun w1 (hw : Below w.heap.size w w1) => all_calls Am At Ak made.length cm tasks.length ct ck keys B w0 w1 (below_up' hb hB hw) (Nat.le_trans hB hw.size) hm hx
  generalize sheetOk made tasks = d1 at *
  generalize takesOk made.length inputs = d2 at *
  generalize keysOk made.length keys = d3 at *
  replace hb := Lib.hid hb
  replace hs := Lib.hid hs
  replace hi := Lib.hid hi
  replace hx := Lib.hid hx
  cases d1 with
  | false =>
    replace hc1 := Lib.hid hc1
    clear hc2 hc3 hbad
    go_enter Try.func25, Try.ntmps25
    go_wp2_with fail
    refine (hc1.out _ (below_al (Below.refl _ _) _)).mono ?_
    rintro e w1 ⟨rfl, h1⟩
    replace h1 := Lib.hid h1
    go_wp2_with fail
    go_ret2
    exact ⟨rfl, below_from h1.out⟩
  | true =>
    replace hc1 := Lib.hid hc1
    replace hbad := Lib.hid (hbad rfl)
    cases d2 with
    | false =>
      replace hc2 := Lib.hid hc2
      clear hc3 hbad
      go_enter Try.func25, Try.ntmps25
      go_wp2_with fail
      refine (hc1.out _ (below_al (Below.refl _ _) _)).mono ?_
      rintro e w1 ⟨rfl, h1⟩
      have x0 : w1.cell? ⟨w.heap.size, 0, none⟩ = some (.slice Am made.length cm) := (h1.cell (p := ⟨w.heap.size, 0, none⟩) (by simp)).trans (by simp)
      have x1 : w1.cell? ⟨w.heap.size, 1, none⟩ = some (.slice At tasks.length ct) := (h1.cell (p := ⟨w.heap.size, 1, none⟩) (by simp)).trans (by simp)
      have b1 := below_from h1
      replace b1 := Lib.hid b1
      clear h1
      go_wp2_with fail
      refine (hc2.out _ b1.out).mono ?_
      rintro e w2 ⟨rfl, h2⟩
      have b2 := below_up b1.out h2
      replace b2 := Lib.hid b2
      clear h2 x0 x1
      go_wp2_with fail
      go_ret2
      exact ⟨rfl, b2.out⟩
    | true =>
      have h3 := hbad.out rfl
      subst h3
      replace hc2 := Lib.hid hc2
      replace hc3 := Lib.hid hc3
      clear hbad
      go_enter Try.func25, Try.ntmps25
      go_wp2_with fail
      refine (hc1.out _ (below_al (Below.refl _ _) _)).mono ?_
      rintro e w1 ⟨rfl, h1⟩
      have x0 : w1.cell? ⟨w.heap.size, 0, none⟩ = some (.slice Am made.length cm) := (h1.cell (p := ⟨w.heap.size, 0, none⟩) (by simp)).trans (by simp)
      have x1 : w1.cell? ⟨w.heap.size, 1, none⟩ = some (.slice At tasks.length ct) := (h1.cell (p := ⟨w.heap.size, 1, none⟩) (by simp)).trans (by simp)
      have s1 : w.heap.size < w1.heap.size := by have := h1.size; simp at this; omega
      have b1 := below_from h1
      replace b1 := Lib.hid b1
      clear h1
      go_wp2_with fail
      refine (hc2.out _ b1.out).mono ?_
      rintro e w2 ⟨rfl, h2⟩
      have y0 : w2.cell? ⟨w.heap.size, 0, none⟩ = some (.slice Am made.length cm) := kept_cell h2 s1 x0
      have y1 : w2.cell? ⟨w.heap.size, 1, none⟩ = some (.slice At tasks.length ct) := kept_cell h2 s1 x1
      have b2 := below_up b1.out h2
      replace b2 := Lib.hid b2
      clear h2 x0 x1
      go_wp2_with fail
      refine (hc3.out _ b2.out).mono ?_
      rintro e w3 ⟨rfl, h3⟩
      have b3 := below_up b2.out h3
      replace b3 := Lib.hid b3
      clear h3
      go_wp2_with fail
      go_ret2
      exact ⟨rfl, b3.out⟩
end Go.Proofs.Ytpccgdkidnkppaa
