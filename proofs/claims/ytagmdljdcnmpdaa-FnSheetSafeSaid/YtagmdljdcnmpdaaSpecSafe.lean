import Derived.Test.YtagmdljdcnmpdaaSafeP
import Derived.Test.YtagmdljdcnmpdaaMaps
set_option linter.unusedVariables false
set_option linter.unusedSimpArgs false
namespace Go.Proofs.Ytagmdljdcnmpdaa
open Go Go.RowKit

abbrev vB : Bool → Value := fun b => Value.bool b
theorem keysN_set {n k : Nat} (d : Int → Bool) (v : Bool) : ((keysN n).map d).set k v = (keysN n).map (fun i => if i = (k : Int) then v else d i) := by
  apply List.ext_getElem
  · simp
  · intro i h1 h2
    simp only [List.length_set, List.length_map] at h1
    rw [List.getElem_set, List.getElem_map, List.getElem_map, keysN_get (by simpa using h1)]
    by_cases e : k = i
    · subst e; simp
    · rw [if_neg e, if_neg (by omega)]
theorem keysN_rep (n : Nat) : List.replicate n false = (keysN n).map (fun _ => false) := by
  apply List.ext_getElem
  · simp [keysN]
  · intro i h1 h2
    simp

set_option maxRecDepth 5000 in
set_option maxHeartbeats 8000000 in
theorem specSheetSafe_calls (Am At : Option Addr) (cm ct : Nat) (made : List Bool) (tasks : List Task) (B : Nat) (w0 w : World) (hb : Below B w0 w) (hB : B ≤ w.heap.size) (hs : SheetAt B w0 Am cm At ct made tasks) (hnod : ∀ T ∈ tasks, nodes T ≤ 1000000000) :
    Calls Try.prog 17 #[.agg #[.slice Am made.length cm, .slice At tasks.length ct]] w fun e w' => e = .returned (.bool (safeP made tasks)) ∧ Below w.heap.size w w' := by
  have hc1 := fun w1 (hw : Below w.heap.size w w1) => specSheetOk_calls Am At cm ct made tasks B w0 w1 (below_up' hb hB hw) (Nat.le_trans hB hw.size) hs hnod
  have hc2 := fun w1 (hw : Below w.heap.size w w1) (q : Nat) (hq : q < tasks.length) (hq9 : q ≤ 9) (h10 : made.length ≤ 10) => l3May_calls Am At cm ct made tasks B w0 w1 (below_up' hb hB hw) (Nat.le_trans hB hw.size) hs q hq hq9 h10 (hnod _ (List.getElem_mem hq))
  have hsf : safeP made tasks = (sheetOk made tasks && safeB (mayS made tasks) made.length) := rfl
  cases hok : sheetOk made tasks with
  | false =>
    rw [hok] at hc1 hsf
    replace hc1 := Lib.hid hc1
    replace hsf := Lib.hid hsf
    clear hc2 hok hs hnod hb
    go_enter Try.func17, Try.ntmps17
    go_wp2_with fail
    refine (hc1.out _ (below_al (Below.refl _ _) _)).mono ?_
    rintro e w1 ⟨rfl, h1⟩
    go_wp2_with fail
    go_ret
    exact ⟨by rw [hsf.out]; rfl, below_from h1⟩
  | true =>
    rw [hok, Bool.true_and] at hsf
    rw [hok] at hc1
    simp only [sheetOk, Bool.and_eq_true, decide_eq_true_eq] at hok
    have hlen := hok.1.1
    have hten := hok.1.2
    have hmay : ∀ (q : Nat) (hq : q < tasks.length), mayMade made tasks[q] = mayS made tasks q := fun q hq => by unfold mayS; rw [taskAt_get hq]
    have hmr : ∀ (k : Int), ∀ j ∈ mayS made tasks k, 0 ≤ j ∧ j < made.length := fun k j hj => (mayS_made j hj).2
    have hml : ∀ k : Int, (mayS made tasks k).length ≤ 10 := fun k => Nat.le_trans (List.length_filter_le _ _) (mayList_len _)
    generalize mayS made tasks = may at *
    replace hc1 := Lib.hid hc1
    replace hc2 := Lib.hid hc2
    replace hsf := Lib.hid hsf
    replace hmay := Lib.hid hmay
    replace hmr := Lib.hid hmr
    replace hml := Lib.hid hml
    replace hlen := Lib.hid hlen
    clear hok hs hnod hb
    obtain ⟨ii, hi1, hi2, hi3, hi4⟩ := info_parts boolTy'.hi
    replace hi1 := Lib.hid hi1
    replace hi2 := Lib.hid hi2
    replace hi3 := Lib.hid hi3
    replace hi4 := Lib.hid hi4
    go_enter Try.func17, Try.ntmps17
    go_wp2_with fail
    refine (hc1.out _ (below_al (Below.refl _ _) _)).mono ?_
    rintro e w1 ⟨rfl, h1⟩
    have x0 : w1.cell? ⟨w.heap.size, 0, none⟩ = some (.slice Am made.length cm) := (h1.cell (p := ⟨w.heap.size, 0, none⟩) (by simp)).trans (by simp)
    have x1 : w1.cell? ⟨w.heap.size, 1, none⟩ = some (.slice At tasks.length ct) := (h1.cell (p := ⟨w.heap.size, 1, none⟩) (by simp)).trans (by simp)
    have b1 : Below w.heap.size w w1 := below_from h1
    have s1 : w.heap.size < w1.heap.size := by have := h1.size; simp at this; omega
    replace b1 := Lib.hid b1
    clear h1 hc1
    go_wp2_with (at_make; go_loud (with_reducible refine wpList_make_full _ (by rfl) _ _ 23 (by rfl) w.heap.size 4 ii (.bool false) 1 Try.underlying23 hi1.out hi2.out hi3.out .i64 .i64 made.length made.length made.length (by with_unfolding_all rfl) (by with_unfolding_all rfl) rfl rfl ?_ ?_ ?_ ?_))
    · rw [hi4.out]; omega
    · simp [maxLen]; omega
    · omega
    intro w2 hmk hgrow
    have hR : RowBlk vB 4 w2 w1.heap.size ((keysN made.length).map (fun _ => false)) := by
      rw [← keysN_rep]; exact made_row (z := false) (by simpa using hmk) rfl
    have hb12 : Below w1.heap.size w1 w2 := ⟨hgrow.os, hgrow.tape, hgrow.output, hgrow.size, fun k hk => hgrow.block k hk (by simp)⟩
    have b2 : Below w.heap.size w w2 := b1.out.trans (hb12.mono b1.out.size)
    have y0 := kept_cell hb12 (by omega) x0
    have y1 := kept_cell hb12 (by omega) x1
    obtain ⟨bd, hbd⟩ : ∃ bd, bd = w1.heap.size := ⟨_, rfl⟩
    rw [← hbd] at hR s1 ⊢
    replace b2 := Lib.hid b2
    replace hR := Lib.hid hR
    clear hb12 hgrow hmk x0 x1 hi1 hi2 hi3 hi4 b1 hbd
    go_wp2_with fail
    go_loopw [4, 5, 6, 7, 8] (fun i _ _ _ _ wr => ∃ (a : Nat) (d : Int → Bool), a ≤ made.length + 1 ∧ i = .int .i64 a ∧ wr.cell? ⟨w.heap.size, 0, none⟩ = some (.slice Am made.length cm) ∧ wr.cell? ⟨w.heap.size, 1, none⟩ = some (.slice At tasks.length ct) ∧ Hid (RowBlk vB 4 wr bd ((keysN made.length).map d)) ∧ Hid (Below w.heap.size w wr) ∧ Hid (passN may made.length (made.length + 1 - a) d = passN may made.length (made.length + 1) (fun _ => false))) (fun i _ _ _ _ _ => made.length + 1 - (intOf i).toNat)
    case atStart => exact ⟨0, fun _ => false, by omega, rfl, y0, y1, hR, b2, Lib.hid rfl⟩
    case round =>
      obtain ⟨a, d, ha, rfl, y0, y1, hR, hw, hp⟩ := hrel
      by_cases hlt : a ≤ made.length
      · have hp2 := hp.out
        rw [show made.length + 1 - a = (made.length + 1 - (a + 1)) + 1 by omega, passN] at hp2
        replace hp2 := Lib.hid hp2
        clear hp
        go_wp2_with fail
        obtain ⟨w9, hw9⟩ : ∃ w9, w9 = wr := ⟨_, rfl⟩
        subst hw9
        go_loopw [5, 6, 7, 8] (fun i _ _ _ wr => ∃ (q : Nat) (d' : Int → Bool), q ≤ made.length ∧ i = .int .i64 q ∧ wr.cell? ⟨w.heap.size, 0, none⟩ = some (.slice Am made.length cm) ∧ wr.cell? ⟨w.heap.size, 1, none⟩ = some (.slice At tasks.length ct) ∧ Hid (RowBlk vB 4 wr bd ((keysN made.length).map d')) ∧ Hid (Below w.heap.size w wr) ∧ Hid (passKs may ((keysN made.length).drop q) d' = passKs may (keysN made.length) d)) (fun i _ _ _ _ => made.length - (intOf i).toNat)
        case atStart => exact ⟨0, d, by omega, rfl, y0, y1, hR, hw, Lib.hid rfl⟩
        case round =>
          obtain ⟨q, d', hq, rfl, y0, y1, hR, hw, hp⟩ := hrel
          by_cases hlt2 : q < made.length
          · have hqt : q < tasks.length := by have := hlen.out; omega
            have hp3 := hp.out
            rw [keysN_drop hlt2, passKs] at hp3
            have hcall := hc2.out wr hw.out q hqt (by omega) hten
            rw [hmay.out q hqt] at hcall
            have hmr' := hmr.out q
            have hml' := hml.out q
            generalize may q = L at *
            replace hp3 := Lib.hid hp3
            replace hcall := Lib.hid hcall
            replace hmr' := Lib.hid hmr'
            clear hp
            go_wp2_with fail
            refine hcall.out.mono ?_
            rintro e w3 ⟨v, rfl, hownL, h3⟩
            obtain ⟨AL, cL, rfl, hl1, hl2, hl3⟩ := ownsRow_ints hownL
            have hbz := hR.out.lt
            have y0' := kept_cell h3 (by have := hw.out.size; omega) y0
            have y1' := kept_cell h3 (by have := hw.out.size; omega) y1
            have hR3 : RowBlk vB 4 w3 bd ((keysN made.length).map d') := hR.out.turn (h3.block _ hbz)
            have b3 : Below w.heap.size w w3 := below_up hw.out h3
            replace hR3 := Lib.hid hR3
            replace b3 := Lib.hid b3
            replace hl3 := Lib.hid hl3
            clear h3 hownL y0 y1 hR hw hcall
            unfold maxLen at hl2
            go_wp2_with fail
            go_loopw [6, 8] (fun f i wr => ∃ (j : Nat) (fr : Bool), j ≤ L.length ∧ i = .int .i64 j ∧ f = .bool fr ∧ wr = w3 ∧ Hid (fr = (L.take j).all d')) (fun _ i _ => L.length - (intOf i).toNat)
            case atStart => exact ⟨0, true, by omega, rfl, rfl, rfl, Lib.hid rfl⟩
            case round =>
              obtain ⟨j, fr, hj, rfl, rfl, rfl, hfr⟩ := hrel
              by_cases hlt3 : j < L.length
              · obtain ⟨bL, oL, eL, hbL, y⟩ := hl3.out j hlt3
                subst eL
                obtain ⟨r0, r1⟩ := hmr'.out L[j] (List.getElem_mem _)
                obtain ⟨kq, hkq⟩ := Int.eq_ofNat_of_zero_le r0
                have hkl : kq < made.length := by omega
                have z := hR3.out.cell (i := kq) (by simpa [keysN] using hkl)
                simp only [List.getElem_map, keysN_get] at z
                have htk : (L.take (j + 1)).all d' = (fr && d' kq) := by
                  rw [hfr.out, List.take_succ_eq_append_getElem hlt3, List.all_append, hkq]; simp
                rw [hkq] at y
                obtain ⟨dv, hdv⟩ : ∃ dv, d' kq = dv := ⟨_, rfl⟩
                rw [hdv] at z htk
                replace htk := Lib.hid htk
                replace hkq := Lib.hid hkq
                replace hdv := Lib.hid hdv
                have hb9 : kq ≤ 10 := by omega
                clear r0 r1
                cases fr with
                | false =>
                  go_wp2_with fail
                  go_roundw
                  case rel => exact ⟨j + 1, false, by omega, by go_num, by first | rfl | trivial, by first | rfl | trivial, Lib.hid (by rw [htk.out]; rfl)⟩
                  case measure => simp [intOf]; omega
                | true =>
                  go_wp2_with fail
                  go_roundw
                  case rel => exact ⟨j + 1, dv, by omega, by go_num, by first | rfl | trivial, by first | rfl | trivial, Lib.hid (by rw [htk.out]; rfl)⟩
                  case measure => simp [intOf]; omega
              · have hfr2 : L.all d' = fr := by rw [hfr.out, List.take_of_length_le (by omega)]
                rw [hfr2] at hp3
                have hz3 := hR3.out.lt
                have f0 := hR3.out.frozen q
                have z := hR3.out.cell (i := q) (by simpa [keysN] using hlt2)
                have hset := hR3.out.set q fr
                rw [keysN_set] at hset
                have hbs : Below w.heap.size w (wr.setCell ⟨bd, q, none⟩ (.bool fr)) := b3.out.setCell (by simp; omega) _
                have q0 : (wr.setCell ⟨bd, q, none⟩ (.bool fr)).cell? ⟨w.heap.size, 0, none⟩ = some (.slice Am made.length cm) := (World.cell?_of_block (setCell_far (show w.heap.size ≠ bd by omega))).trans y0'
                have q1 : (wr.setCell ⟨bd, q, none⟩ (.bool fr)).cell? ⟨w.heap.size, 1, none⟩ = some (.slice At tasks.length ct) := (World.cell?_of_block (setCell_far (show w.heap.size ≠ bd by omega))).trans y1'
                replace hset := Lib.hid hset
                replace hbs := Lib.hid hbs
                replace q0 := Lib.hid q0
                replace q1 := Lib.hid q1
                replace hfr2 := Lib.hid hfr2
                clear hfr
                go_wp2_with fail
                go_roundw
                case rel => exact ⟨q + 1, _, by omega, by go_num, q0.out, q1.out, hset, hbs, hp3⟩
                case measure => simp [intOf]; omega
          · have hd : (keysN made.length).drop q = [] := List.drop_eq_nil_of_le (by simp [keysN]; omega)
            have hp3 := hp.out
            rw [hd, passKs] at hp3
            have hp4 := hp2.out
            rw [← hp3] at hp4
            replace hp4 := Lib.hid hp4
            clear hp hp3 hd
            go_wp2_with fail
            go_roundw
            case rel => exact ⟨a + 1, d', by omega, by go_num, y0, y1, hR, hw, hp4⟩
            case measure => simp [intOf]; omega
      · have ha2 : a = made.length + 1 := by omega
        subst ha2
        have hp2 := hp.out
        rw [Nat.sub_self, passN] at hp2
        have hsf2 : safeP made tasks = (keysN made.length).all d := by rw [hsf.out, safeB, ← hp2]
        replace hsf2 := Lib.hid hsf2
        clear hp hp2 hsf
        go_wp2_with fail
        obtain ⟨w9, hw9⟩ : ∃ w9, w9 = wr := ⟨_, rfl⟩
        subst hw9
        go_loopw [9] (fun i wr => ∃ (q : Nat), q ≤ made.length ∧ i = .int .i64 q ∧ wr = w9 ∧ Hid (∀ k : Nat, k < q → d k = true)) (fun i _ => made.length - (intOf i).toNat)
        case atStart => exact ⟨0, by omega, rfl, rfl, Lib.hid (fun k hk => by omega)⟩
        case round =>
          obtain ⟨q, hq, rfl, rfl, hall⟩ := hrel
          by_cases hlt2 : q < made.length
          · have z := hR.out.cell (i := q) (by simpa [keysN] using hlt2)
            simp only [List.getElem_map, keysN_get] at z
            have hz3 := hR.out.lt
            cases hdq : d q with
            | false =>
              rw [hdq] at z
              have hfin : safeP made tasks = false := by
                rw [hsf2.out]
                apply Bool.eq_false_iff.2
                intro h
                have := (List.all_eq_true.1 h) q (mem_keysN.2 (by omega))
                rw [hdq] at this; cases this
              replace hfin := Lib.hid hfin
              replace hdq := Lib.hid hdq
              go_wp2_with fail
              go_ret
              exact ⟨by rw [hfin.out]; rfl, hw.out⟩
            | true =>
              rw [hdq] at z
              replace hdq := Lib.hid hdq
              go_wp2_with fail
              go_roundw
              case rel => exact ⟨q + 1, by omega, by go_num, by first | rfl | trivial, Lib.hid (fun k hk => if e : k = q then by subst e; exact hdq.out else hall.out k (by omega))⟩
              case measure => simp [intOf]; omega
          · have hfin : safeP made tasks = true := by
              rw [hsf2.out, List.all_eq_true]
              intro k hk
              obtain ⟨h0, h1⟩ := mem_keysN.1 hk
              obtain ⟨k', rfl⟩ := Int.eq_ofNat_of_zero_le h0
              exact hall.out k' (by omega)
            replace hfin := Lib.hid hfin
            go_wp2_with fail
            go_ret
            exact ⟨by rw [hfin.out]; rfl, hw.out⟩
end Go.Proofs.Ytagmdljdcnmpdaa
