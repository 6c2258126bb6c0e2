import Derived.Deep.LoopGhost
import Derived.Test.YtkbblekengdhaaaPk10Told
import Derived.Test.YtkbblekengdhaaaPk11Told
import Derived.Test.YtkbblekengdhaaaPk12Told
set_option linter.unusedVariables false
set_option linter.unusedSimpArgs false
namespace Go.Proofs.Ytkbblekengdhaaa
open Go Go.RowKit

theorem l4Free_calls (A A2 : Option Addr) (c c2 : Nat) (xs ys : List Int) (w : World) (hx : IntsAt w.heap.size w A xs) (hy : IntsAt w.heap.size w A2 ys) (hl : xs.length ≤ maxLen) (hl2 : ys.length ≤ maxLen) :
    Calls Try.prog 123 #[.slice A xs.length c, .slice A2 ys.length c2] w fun e w' => e = .returned (.bool (ys.all fun y => xs.contains y)) ∧ w = w' := by
  have hhas := fun (k : Int) => l2Has_calls A c xs k w.heap.size w w (Below.refl _ _) (Nat.le_refl _) hl hx
  unfold maxLen at hl2
  replace hhas := Lib.hid hhas
  replace hy := Lib.hid hy
  clear hx
  go_enter Try.func123, Try.ntmps123
  go_wp2_with fail
  go_loopw [5] (fun i wr => ∃ (j : Nat), j ≤ ys.length ∧ i = .int .i64 j ∧ wr = w ∧ Hid ((ys.all fun y => xs.contains y) = (ys.drop j).all fun y => xs.contains y)) (fun i _ => ys.length - (intOf i).toNat)
  case atStart => exact ⟨0, Nat.zero_le _, rfl, rfl, Lib.hid rfl⟩
  case round =>
    obtain ⟨j, hj, rfl, rfl, he⟩ := hrel
    by_cases hlt : j < ys.length
    · have he2 := he.out
      rw [List.drop_eq_getElem_cons hlt, List.all_cons] at he2
      obtain ⟨b, o, rfl, hbb, y⟩ := hy.out.at (Below.refl _ _) (Nat.le_refl _) j hlt
      have hcall := hhas.out ys[j]
      generalize ys[j] = k at *
      cases hck : xs.contains k with
      | true =>
        rw [hck] at hcall he2
        simp only [Bool.true_and] at he2
        replace he2 := Lib.hid he2
        replace hcall := Lib.hid hcall
        replace hck := Lib.hid hck
        go_wp2_with fail
        refine hcall.out.mono ?_
        rintro e w5 ⟨rfl, rfl⟩
        go_wp2_with fail
        go_roundw
        case rel => exact ⟨j + 1, by omega, by go_num, by first | rfl | trivial, he2⟩
        case measure => simp [intOf]; omega
      | false =>
        rw [hck] at hcall he2
        simp only [Bool.false_and] at he2
        replace he2 := Lib.hid he2
        replace hcall := Lib.hid hcall
        replace hck := Lib.hid hck
        go_wp2_with fail
        refine hcall.out.mono ?_
        rintro e w5 ⟨rfl, rfl⟩
        go_wp2_with fail
        go_ret
        exact ⟨by rw [he2.out]; rfl, by first | rfl | trivial⟩
    · have he2 := he.out
      rw [List.drop_eq_nil_of_le (by omega)] at he2
      replace he2 := Lib.hid he2
      go_wp2_with fail
      go_ret
      exact ⟨by rw [he2.out]; rfl, by first | rfl | trivial⟩

/-- a set of keys in memory, as a row of truths -/
def GivesBelow (made : List Bool) (may : Int → List Int) (keys : List Int) (w : World) (e : Ending) (w' : World) : Prop :=
  ∃ b X, e = .returned (.slice (some ⟨b, 0, none⟩) made.length made.length) ∧ RowBlk vB 4 w' b ((keysN made.length).map X) ∧ w.heap.size ≤ b ∧ (∀ k, X k = true ↔ Reach (mkK made) may keys k) ∧ Below w.heap.size w w'

set_option maxRecDepth 5000 in
set_option maxHeartbeats 1500000 in
theorem l4Below_calls (Am At Ak : Option Addr) (cm ct ck : Nat) (made : List Bool) (tasks : List Task) (keys : List Int) (B : Nat) (w0 w : World) (hb : Below B w0 w) (hB : B ≤ w.heap.size) (hs : SheetAt B w0 Am cm At ct made tasks) (hlen : made.length = tasks.length) (hten : made.length ≤ 10) (hnod : ∀ T ∈ tasks, nodes T ≤ 1000000000) (hx : IntsAt B w0 Ak keys) (hkl : keys.length ≤ 1048576) (hko : keysOk made.length keys = true) :
    Calls Try.prog 121 #[.agg #[.slice Am made.length cm, .slice At tasks.length ct], .slice Ak keys.length ck] w (GivesBelow made (mayS made tasks) keys w) := by
  have hc2 := fun w1 (hw : Below w.heap.size w w1) (q : Nat) (hq : q < tasks.length) => l3May_calls Am At cm ct made tasks B w0 w1 (below_up' hb hB hw) (Nat.le_trans hB hw.size) hs q hq (by omega) hten (hnod _ (List.getElem_mem hq))
  have hmay : ∀ (q : Nat) (hq : q < tasks.length), mayMade made tasks[q] = mayS made tasks q := fun q hq => by unfold mayS; rw [taskAt_get hq]
  have hmr : ∀ (k : Int), ∀ j ∈ mayS made tasks k, 0 ≤ j ∧ j < made.length := fun k j hj => (mayS_made j hj).2
  have hml : ∀ k : Int, (mayS made tasks k).length ≤ 10 := fun k => Nat.le_trans (List.length_filter_le _ _) (mayList_len _)
  have hmd := fun (q : Nat) (hq : q < made.length) w1 (hw : Below w.heap.size w w1) => hs.made.at (below_up' hb hB hw) (Nat.le_trans hB hw.size) q hq
  have hmkq : ∀ (q : Nat) (hq : q < made.length), mkK made q = made[q] := fun q hq => by unfold mkK; rw [if_neg (by omega), Int.toNat_natCast, getD_at _ hq]
  have hmk := make_bools made.length (by omega)
  have hrg := keysOk_iff.1 hko
  generalize mayS made tasks = may at *
  replace hc2 := Lib.hid hc2
  replace hmay := Lib.hid hmay
  replace hmr := Lib.hid hmr
  replace hml := Lib.hid hml
  replace hmd := Lib.hid hmd
  replace hmkq := Lib.hid hmkq
  replace hrg := Lib.hid hrg
  replace hlen := Lib.hid hlen
  replace hb := Lib.hid hb
  replace hx := Lib.hid hx
  clear hs hnod hko
  go_enter Try.func121, Try.ntmps121
  go_wp2_with (at_builtin; go_loud (with_reducible refine wpList_appI (base := w.heap.size) (v := .slice (some ⟨w.heap.size + 1 + 1, 0, none⟩) 0 0) (n := 0) (xs := []) (B := B) (w0 := w0) (by rfl) (.tmp 13) (.tmp 14) (by rfl) intTy (by with_unfolding_all rfl) ?_ (by with_unfolding_all rfl) hx.out ?_ ?_ ?_ ?_ ?_ ?_))
  · simpa using World.ownsRow_made (base := w.heap.size) (size := 1) (e := 3) ((w.alloc (.cells #[.slice Am made.length cm, .slice At tasks.length ct] 26 (0, 0))).alloc (.cells (madeCells #[.bool false] made.length) 4 (0, 0))) #[] 0 (by simp; omega) (by simp [maxLen]) rfl
  · exact below_al' (below_al' (below_al' hb.out _ hB) _ (by simp; omega)) _ (by simp; omega)
  · simp; omega
  · simp [maxLen]; omega
  · omega
  · simp; omega
  intro v1 w1 hown1 hgrow1 hat1
  have hW0 : Below w.heap.size w (((w.alloc (.cells #[.slice Am made.length cm, .slice At tasks.length ct] 26 (0, 0))).alloc (.cells (madeCells #[.bool false] made.length) 4 (0, 0))).alloc (.cells #[] 3 (0, 0))) := below_al (below_al (below_al (Below.refl _ _) _) _) _
  have b1 : Below w.heap.size w w1 := hW0.grown hgrow1 (by simp; omega) (fun k hk => by have := Option.some.inj (show some (w.heap.size + 1 + 1) = some k from hk); omega)
  have hbox1 : w1.heap[w.heap.size]? = some (.cells #[.slice Am made.length cm, .slice At tasks.length ct] 26 (0, 0)) := (hgrow1.block _ (by simp; omega) (fun e => by have := Option.some.inj (show some w.heap.size = some (w.heap.size + 1 + 1) from e); omega)).trans ((heap_old (by simp; omega)).trans ((heap_old (by simp)).trans (heap_new rfl)))
  have hR1 : RowBlk vB 4 w1 (w.heap.size + 1) ((keysN made.length).map (fun _ => false)) := by
    rw [← keysN_rep]
    exact made_blk ((hgrow1.block _ (by simp) (fun e => by have := Option.some.inj (show some (w.heap.size + 1) = some (w.heap.size + 1 + 1) from e); omega)).trans ((heap_old (by simp)).trans (heap_new (by simp))))
  have hown1' : w1.ownsRow w.heap.size 3 1 v1 keys.length (ints keys) := by simpa using hown1
  replace b1 := Lib.hid b1
  replace hbox1 := Lib.hid hbox1
  replace hR1 := Lib.hid hR1
  replace hown1' := Lib.hid hown1'
  clear hown1 hgrow1 hat1 hW0 hmk
  go_wp2_with fail
  go_loopw [6, 7, 8] (fun r i _ wr => ∃ (j : Nat) (Y : Int → Bool) (row : List Int), j ≤ row.length ∧ row.length ≤ 1048676 ∧ i = .int .i64 j ∧ Hid (BInv (mkK made) may made.length keys Y row j) ∧ Hid (wr.ownsRow w.heap.size 3 1 r row.length (ints row)) ∧ Hid (RowBlk vB 4 wr (w.heap.size + 1) ((keysN made.length).map Y)) ∧ Hid (wr.heap[w.heap.size]? = some (.cells #[.slice Am made.length cm, .slice At tasks.length ct] 26 (0, 0))) ∧ Hid (Below w.heap.size w wr)) (fun r i _ _ => 1048676 - (intOf i).toNat)
  case atStart => exact ⟨0, fun _ => false, keys, Nat.zero_le _, by omega, rfl, Lib.hid BInv.start, hown1', hR1, hbox1, b1⟩
  case round =>
    obtain ⟨j, Y, row, hj, hrl, rfl, hI, hown, hR, hbox, hw⟩ := hrel
    obtain ⟨Ar, cr, er, hr1, hr2, hir⟩ := ownsRow_ints hown.out
    subst er
    unfold maxLen at hr2
    replace hir := Lib.hid hir
    by_cases hlt : j < row.length
    · obtain ⟨b, o, eA, hbb, y⟩ := hir.out.at (Below.refl _ _) (Nat.le_refl _) j hlt
      subst eA
      have hkr := hI.out.range hrg.out hmr.out _ (List.getElem_mem hlt)
      have hskip := hI.out.skip hlt
      have hpush := fun q hq => hI.out.push hlt (q := q) hq
      generalize hk : row[j] = k at *
      obtain ⟨q, rfl⟩ := Int.eq_ofNat_of_zero_le hkr.1
      have hq : q < made.length := by omega
      have hqt : q < tasks.length := by have := hlen.out; omega
      have hmkq' := hmkq.out q hq
      have z := hR.out.cell (i := q) (by simpa [keysN] using hq)
      simp only [List.getElem_map, keysN_get] at z
      have hbz := hR.out.lt
      have hz := block_lt hbox.out
      have hwz := hw.out.size
      replace hk := Lib.hid hk
      clear hkr
      cases hY : Y q with
      | true =>
        rw [hY] at z
        have hs := hskip (.inr hY)
        replace hs := Lib.hid hs
        replace hpush := Lib.hid hpush
        replace hY := Lib.hid hY
        replace hmkq' := Lib.hid hmkq'
        clear hskip
        go_wp2_with fail
        go_roundw
        case rel => exact ⟨j + 1, Y, row, by omega, hrl, by go_num, hs, hown, hR, hbox, hw⟩
        case measure => simp [intOf]; omega
      | false =>
        rw [hY] at z
        obtain ⟨bm, om, rfl, hbm, cm2⟩ := hmd.out q hq wr hw.out
        have x0 : wr.cell? ⟨w.heap.size, 0, none⟩ = some (.slice (some ⟨bm, om, none⟩) made.length cm) := (cellm hbox.out 0).trans rfl
        have x1 : wr.cell? ⟨w.heap.size, 1, none⟩ = some (.slice At tasks.length ct) := (cellm hbox.out 1).trans rfl
        generalize made[q] = mq at *
        cases mq with
        | false =>
          have hs := hskip (.inl hmkq')
          replace hs := Lib.hid hs
          replace hpush := Lib.hid hpush
          replace hY := Lib.hid hY
          replace hmkq' := Lib.hid hmkq'
          clear hskip
          go_wp2_with fail
          go_roundw
          case rel => exact ⟨j + 1, Y, row, by omega, hrl, by go_num, hs, hown, hR, hbox, hw⟩
          case measure => simp [intOf]; omega
        | true =>
          have hp := hpush q rfl hq hmkq' hY (hml.out q)
          have hRs := hR.out.set q true
          rw [keysN_set] at hRs
          have hbS : Below w.heap.size w (wr.setCell ⟨w.heap.size + 1, q, none⟩ (.bool true)) := hw.out.setCell (by simp) _
          have hboxS := (setCell_far (v := .bool true) (w := wr) (m := w.heap.size + 1) (j := q) (show w.heap.size ≠ w.heap.size + 1 by omega)).trans hbox.out
          have hne := ownsRow_ne hown.out hR.out (fun c e => by cases e)
          have hownS : (wr.setCell ⟨w.heap.size + 1, q, none⟩ (.bool true)).ownsRow w.heap.size 3 1 (.slice (some ⟨b, o, none⟩) row.length cr) row.length (ints row) := ownsRow_block hown.out (fun i hi => setCell_far (own_far hi hne))
          have hcall := hc2.out _ hbS q hqt
          rw [hmay.out q hqt] at hcall
          have hplen := hp.len
          have hcn := cntN_le (setX Y q) made.length
          have hmlq := hml.out q
          rw [List.length_append] at hplen
          have q0 : (wr.setCell ⟨w.heap.size + 1, q, none⟩ (.bool true)).cell? ⟨w.heap.size, 0, none⟩ = some (.slice (some ⟨bm, om, none⟩) made.length cm) := (cellm hboxS 0).trans rfl
          have q1 : (wr.setCell ⟨w.heap.size + 1, q, none⟩ (.bool true)).cell? ⟨w.heap.size, 1, none⟩ = some (.slice At tasks.length ct) := (cellm hboxS 1).trans rfl
          have f0 := hR.out.frozen q
          generalize may q = L at *
          replace hp := Lib.hid hp
          replace hRs := Lib.hid hRs
          replace hbS := Lib.hid hbS
          replace hboxS := Lib.hid hboxS
          replace hownS := Lib.hid hownS
          replace hcall := Lib.hid hcall
          replace hpush := Lib.hid hpush
          replace hY := Lib.hid hY
          replace hmkq' := Lib.hid hmkq'
          replace hne := Lib.hid hne
          clear hskip hown hR hbox hw
          go_wp2_with fail
          refine hcall.out.mono ?_
          rintro e w5 ⟨vL, rfl, hownL, h5⟩
          have hown5 := ownsRow_block hownS.out (fun i hi => h5.block i (hownS.out.lt i hi).2)
          have hR5 := hRs.out.turn (h5.block _ hRs.out.lt)
          have hbox5 := (h5.block _ (block_lt hboxS.out)).trans hboxS.out
          have hb5 := below_up hbS.out h5
          obtain ⟨AL, cL, rfl, hL1, hL2, hiL⟩ := ownsRow_ints hownL
          have hw5z := hb5.size
          replace hown5 := Lib.hid hown5
          replace hR5 := Lib.hid hR5
          replace hbox5 := Lib.hid hbox5
          replace hb5 := Lib.hid hb5
          replace hiL := Lib.hid hiL
          clear hcall hownL h5 hownS hRs hboxS hbS q0 q1 x0 x1 z f0
          unfold maxLen at hL2
          go_wp2_with (at_builtin; go_loud (with_reducible refine wpList_appI (base := w.heap.size) (v := .slice (some ⟨b, o, none⟩) row.length cr) (n := row.length) (xs := ints row) (B := w5.heap.size) (w0 := w5) (by rfl) (.tmp 41) (.tmp 44) (by rfl) intTy (by with_unfolding_all rfl) hown5.out (by with_unfolding_all rfl) hiL.out (Below.refl _ _) (Nat.le_refl _) ?_ ?_ ?_ ?_))
          · unfold maxLen; omega
          · omega
          · omega
          intro v7 w7 hown7 hgrow7 hat7
          have hR7 := hR5.out.turn (hgrow7.block _ hR5.out.lt (fun e => ownsRow_ne hown5.out hR5.out (fun c e => by cases e) e.symm))
          have hbox7 := (hgrow7.block _ (block_lt hbox5.out) (fun e => ownsRow_ne hown5.out hbox5.out (fun c e => by cases e) e.symm)).trans hbox5.out
          have hb7 := hb5.out.grown hgrow7 hw5z (fun i hi => (hown5.out.lt i hi).1)
          have hown7' : w7.ownsRow w.heap.size 3 1 v7 (row ++ L).length (ints (row ++ L)) := by
            rw [ints_append, List.length_append]; exact hown7
          replace hR7 := Lib.hid hR7
          replace hbox7 := Lib.hid hbox7
          replace hb7 := Lib.hid hb7
          replace hown7' := Lib.hid hown7'
          clear hown7 hgrow7 hat7 hown5 hR5 hbox5 hb5
          go_wp2_with fail
          go_roundw
          case rel => exact ⟨j + 1, setX Y q, row ++ L, by simp; omega, by simp; omega, by go_num, hp, hown7', hR7, hbox7, hb7⟩
          case measure => simp [intOf]; omega
    · have hreach := hI.out.reach (by omega)
      replace hreach := Lib.hid hreach
      go_wp2_with fail
      go_ret
      exact ⟨_, Y, rfl, hR.out, by omega, hreach.out, hw.out⟩
end Go.Proofs.Ytkbblekengdhaaa

set_option linter.unusedVariables false
set_option linter.unusedSimpArgs false
namespace Go.Proofs.Ytkbblekengdhaaa
open Go Go.RowKit

theorem contains_calls (A : Option Addr) (c : Nat) (v : Int) (xs : List Int) (B : Nat) (w0 w : World) (hb : Below B w0 w) (hB : B ≤ w.heap.size) (hm : xs.length ≤ maxLen) (hx : IntsAt B w0 A xs) :
    Calls Try.prog 82 #[.slice A xs.length c, .int .i64 v] w fun e w' => e = .returned (.bool (xs.contains v)) ∧ w = w' := by
  have h := index_calls A c v xs B w0 w hb hB hm hx
  have hr := idx_any (fun x => v == x) xs
  rw [← List.contains_eq_any_beq] at hr
  generalize idx (fun x => v == x) xs = n at *
  replace h := Lib.hid h
  replace hr := Lib.hid hr
  clear hx hb
  go_enter Try.func82, Try.ntmps82
  go_wp2_with fail
  refine h.out.mono ?_
  rintro e w1 ⟨rfl, rfl⟩
  go_wp2_with fail
  go_ret
  exact ⟨by rw [← hr.out]; rfl, rfl⟩

set_option maxHeartbeats 2000000 in
theorem keys_calls (A A2 : Option Addr) (n c n2 c2 : Nat) (w : World) (hn : n ≤ 1000000) :
    Calls Try.prog 78 #[.agg #[.slice A n c, .slice A2 n2 c2]] w fun e w' => ∃ v, e = .returned v ∧ w'.ownsRow w.heap.size 3 1 v (keysN n).length (ints (keysN n)) ∧ Below w.heap.size w w' := by
  go_enter Try.func78, Try.ntmps78
  go_wp2_with fail
  go_loopw [3, 4, 8] (fun o _ i wr => ∃ (j : Nat), j ≤ n ∧ i = .int .i64 j ∧ Hid (wr.ownsRow w.heap.size 3 1 o j (ints ((keysN n).take j))) ∧ Hid (Below w.heap.size w wr)) (fun _ _ i _ => n - (intOf i).toNat)
  case atStart => exact ⟨0, Nat.zero_le _, rfl, Lib.hid (World.ownsRow_nil _ _ _ _), Lib.hid (below_al (Below.refl _ _) _)⟩
  case round =>
    obtain ⟨j, hj, rfl, hown, hw⟩ := hrel
    have hsz := hw.out.size
    by_cases hlt : j < n
    · go_wp2_with (at_builtin; go_loud (with_reducible refine wpList_app1 (by rfl) (.tmp 11) (.tmp 13) 28 (by rfl) intTy w.heap.size u3 j (ints ((keysN n).take j)) (by with_unfolding_all rfl) (hown.out.alloc _) wr.heap.size 1 [.int .i64 j] (by with_unfolding_all rfl) (by with_unfolding_all rfl) ⟨_, _, heap_alloc_new wr _, rfl⟩ (one_int _ _) ?_ ?_ ?_ ?_))
      · unfold maxLen; omega
      · omega
      · first | omega | (simp; omega)
      intro g cap w7 hown7 hgrow7 hat7
      have hw7 := (below_al' hw.out (.cells #[.int .i64 j] 3 (0, 0)) hsz).grown hgrow7 (by simp; omega) (fun i hi => (hown.out.lt i hi).1)
      have hown7' : w7.ownsRow w.heap.size 3 1 (.slice (some ⟨g, 0, none⟩) (j + 1) cap) (j + 1) (ints ((keysN n).take (j + 1))) := by
        rw [List.take_succ_eq_append_getElem (by simpa [keysN] using hlt), keysN_get, ints_append]
        simpa [ints] using hown7
      replace hw7 := Lib.hid hw7
      replace hown7' := Lib.hid hown7'
      clear hown7 hgrow7 hat7 hown hw
      go_wp2_with fail
      go_roundw
      case rel => exact ⟨j + 1, by omega, by go_num, hown7', hw7⟩
      case measure => simp [intOf]; omega
    · have e : j = n := by omega
      subst e
      go_wp2_with fail
      go_ret
      refine ⟨_, rfl, ?_, hw.out⟩
      have := hown.out
      rw [List.take_of_length_le (by simp [keysN])] at this
      rw [keysN_length]; exact this

set_option maxHeartbeats 4000000 in
theorem sheetMay_calls (Am At : Option Addr) (cm ct : Nat) (made : List Bool) (tasks : List Task) (B : Nat) (w0 w : World) (hb : Below B w0 w) (hB : B ≤ w.heap.size) (hs : SheetAt B w0 Am cm At ct made tasks) (q : Nat) (hq : q < tasks.length) :
    Calls Try.prog 109 #[.agg #[.slice Am made.length cm, .slice At tasks.length ct], .int .i64 q] w fun e w' => ∃ v, e = .returned v ∧ w'.ownsRow w.heap.size 3 1 v (mayMade made tasks[q]).length (ints (mayMade made tasks[q])) ∧ Below w.heap.size w w' := by
  obtain ⟨bt, ot, At', ct', et, hbt, ht0, ht1, ht2, htc, htm, htp⟩ := hs.tasks.at hb q hq
  subst et
  have hbt4 : bt < w.heap.size := by omega
  have hqm : q ≤ 9223372036854775807 := by have := hs.lt; have := hs.mt; unfold maxLen at *; omega
  have hql : tasks.length ≤ 9223372036854775807 := by have := hs.lt; have := hs.mt; unfold maxLen at *; omega
  have hcall := fun w1 (hw : Below w.heap.size w w1) => taskMay_calls tasks[q] At' ct' B w0 w1 (below_up' hb hB hw) (Nat.le_trans hB hw.size) htc htm htp
  have hmk := fun w1 (hw : Below w.heap.size w w1) k => makes_calls Am (some ⟨bt, ot, none⟩) cm tasks.length ct k made B w0 w1 (below_up' hb hB hw) (Nat.le_trans hB hw.size) (Nat.le_trans hs.lm hs.mm) hs.made
  have hdef : mayMade made tasks[q] = (mayList tasks[q]).filter fun k => mkK made k := rfl
  have hL10 := mayList_len tasks[q]
  generalize mayMade made tasks[q] = M at *
  generalize mayList tasks[q] = L at *
  replace hcall := Lib.hid hcall
  replace hmk := Lib.hid hmk
  replace hdef := Lib.hid hdef
  replace hb := Lib.hid hb
  clear htp hs htc
  go_enter Try.func109, Try.ntmps109
  go_wp2_with fail
  refine (hcall.out _ (below_al (Below.refl _ _) _)).mono ?_
  rintro e w1 ⟨v, rfl, hownL, h1⟩
  obtain ⟨AL, cL, rfl, hl1, hl2, hl3⟩ := ownsRow_ints hownL
  have x0 : w1.cell? ⟨w.heap.size, 0, none⟩ = some (.slice Am made.length cm) := (h1.cell (p := ⟨w.heap.size, 0, none⟩) (by simp)).trans (by simp)
  have x1 : w1.cell? ⟨w.heap.size, 1, none⟩ = some (.slice (some ⟨bt, ot, none⟩) tasks.length ct) := (h1.cell (p := ⟨w.heap.size, 1, none⟩) (by simp)).trans (by simp)
  have b1 : Below w.heap.size w w1 := below_from h1
  have s1 : w.heap.size < w1.heap.size := by have := h1.size; simp at this; omega
  have hfarL : ∀ i, (Value.slice AL L.length cL).ownBlock = some i → w.heap.size + 1 ≤ i := fun i hi => by have := (hownL.lt i hi).1; simpa using this
  replace hl3 := Lib.hid hl3
  replace b1 := Lib.hid b1
  replace hfarL := Lib.hid hfarL
  clear h1 hownL hcall ht0 ht1 ht2
  unfold maxLen at hl2
  go_wp2_with fail
  go_loopw [5, 7, 15] (fun o _ i wr => ∃ (j : Nat) (out : List Int), j ≤ L.length ∧ i = .int .i64 j ∧ out.length ≤ j ∧ w.heap.size < wr.heap.size ∧ wr.cell? ⟨w.heap.size, 0, none⟩ = some (.slice Am made.length cm) ∧ wr.cell? ⟨w.heap.size, 1, none⟩ = some (.slice (some ⟨bt, ot, none⟩) tasks.length ct) ∧ Hid (out ++ (L.drop j).filter (fun k => mkK made k) = M) ∧ Hid (wr.ownsRow w.heap.size 3 1 o out.length (ints out)) ∧ Hid (Below w.heap.size w wr) ∧ Hid (IntsAt wr.heap.size wr AL L) ∧ Hid (∀ b oo, AL = some ⟨b, oo, none⟩ → o.ownBlock ≠ some b) ∧ Hid (o.ownBlock ≠ some w.heap.size)) (fun _ _ i _ => L.length - (intOf i).toNat)
  case atStart => exact ⟨0, [], Nat.zero_le _, rfl, by simp, s1, x0, x1, Lib.hid (by rw [hdef.out]; rfl), Lib.hid (World.ownsRow_nil _ _ _ _), b1, hl3, Lib.hid (fun b oo e => by simp [Value.ownBlock]), Lib.hid (by simp [Value.ownBlock])⟩
  case round =>
    obtain ⟨j, out, hj, rfl, hol, hz, hbox, hbox1, he, hown, hw, hL, hfar, hne⟩ := hrel
    have hsz := hw.out.size
    by_cases hlt : j < L.length
    · obtain ⟨bL, oL, eL, hbL, y⟩ := hL.out j hlt
      have he2 := he.out
      rw [List.drop_eq_getElem_cons hlt, List.filter_cons] at he2
      have hfb := hfar.out bL oL eL
      subst eL
      obtain ⟨k, hk⟩ : ∃ k, L[j] = k := ⟨_, rfl⟩
      rw [hk] at y he2
      have hm := hmk.out wr hw.out k
      obtain ⟨mb, hmb⟩ : ∃ mb, mkK made k = mb := ⟨_, rfl⟩
      rw [hmb] at hm he2
      replace hm := Lib.hid hm
      replace hmb := Lib.hid hmb
      replace hk := Lib.hid hk
      replace hfb := Lib.hid hfb
      replace he2 := Lib.hid he2
      clear he
      go_wp2_with fail
      refine hm.out.mono ?_
      rintro e w3 ⟨rfl, h3⟩
      have hbox3 := kept_cell h3 hz hbox
      have hbox13 := kept_cell h3 hz hbox1
      have hw3 := below_up hw.out h3
      have hz3 : w.heap.size < w3.heap.size := by have := h3.size; omega
      have hbL3 : bL < w3.heap.size := by have := h3.size; omega
      have hsz3 : w.heap.size ≤ w3.heap.size := by omega
      have hL3 : IntsAt w3.heap.size w3 (some ⟨bL, oL, none⟩) L := hL.out.up h3 h3.size
      have hown3 := ownsRow_block hown.out (fun i hi => h3.block i (hown.out.lt i hi).2)
      replace hw3 := Lib.hid hw3
      replace hL3 := Lib.hid hL3
      replace hown3 := Lib.hid hown3
      clear h3 hbox hbox1 hw hL hown hm y
      cases mb with
      | false =>
        have he3 : out ++ (L.drop (j + 1)).filter (fun k => mkK made k) = M := by have := he2.out; simpa using this
        replace he3 := Lib.hid he3
        go_wp2_with fail
        go_roundw
        case rel => exact ⟨j + 1, out, by omega, by go_num, by omega, hz3, hbox3, hbox13, he3, hown3, hw3, hL3, hfar, hne⟩
        case measure => simp [intOf]; omega
      | true =>
        have he3 : (out ++ [k]) ++ (L.drop (j + 1)).filter (fun k => mkK made k) = M := by have := he2.out; simpa using this
        replace he3 := Lib.hid he3
        go_wp2_with (at_builtin; go_loud (with_reducible refine wpList_app1 (by rfl) (.tmp 22) (.tmp 24) 28 (by rfl) intTy w.heap.size u5 out.length (ints out) (by with_unfolding_all rfl) (hown3.out.alloc _) w3.heap.size 1 [.int .i64 k] (by with_unfolding_all rfl) (by with_unfolding_all rfl) ?_ (one_int _ _) ?_ ?_ ?_ ?_))
        · exact ⟨_, _, heap_alloc_new w3 _, rfl⟩
        · unfold maxLen; omega
        · omega
        · first | omega | (simp; omega)
        intro g cap w7 hown7 hgrow7 hat7
        have hw7 := (below_al' hw3.out (.cells #[.int .i64 k] 3 (0, 0)) hsz3).grown hgrow7 (by simp; omega) (fun i hi => (hown3.out.lt i hi).1)
        have hown7' : w7.ownsRow w.heap.size 3 1 (.slice (some ⟨g, 0, none⟩) (out.length + 1) cap) (out ++ [k]).length (ints (out ++ [k])) := by simpa [ints_append, ints] using hown7
        have hk0 : w7.heap[w.heap.size]? = w3.heap[w.heap.size]? := far_grown hgrow7 hz3 hne.out
        have hkL : w7.heap[bL]? = w3.heap[bL]? := far_grown hgrow7 hbL3 hfb.out
        have hbox7 := (World.cell?_of_block (w := w3) (a := ⟨w.heap.size, 0, none⟩) hk0).trans hbox3
        have hbox17 := (World.cell?_of_block (w := w3) (a := ⟨w.heap.size, 1, none⟩) hk0).trans hbox13
        have hz7 : w3.heap.size < w7.heap.size := by have := hgrow7.size; simp at this; omega
        have hL7 : IntsAt w7.heap.size w7 (some ⟨bL, oL, none⟩) L := fun i hi => by
          obtain ⟨b', o', e', hb', c'⟩ := hL3.out i hi
          cases e'
          exact ⟨_, _, rfl, by omega, (World.cell?_of_block (w := w3) hkL).trans c'⟩
        have hg7 : ∀ b : Nat, u5.ownBlock ≠ some b → b < w3.heap.size → (Value.slice (some ⟨g, 0, none⟩) (out.length + 1) cap).ownBlock ≠ some b := fun b h1 h2 e => by
          cases e
          rcases hat7 with e | e
          · exact h1 e
          · first | omega | (dsimp only at h2; omega) | (simp at e; dsimp only at h2; omega)
        have hfar7 : ∀ b oo, (some ⟨bL, oL, none⟩ : Option Addr) = some ⟨b, oo, none⟩ → (Value.slice (some ⟨g, 0, none⟩) (out.length + 1) cap).ownBlock ≠ some b := fun b oo e => by cases e; exact hg7 _ hfb.out hbL3
        have hne7 := hg7 _ hne.out hz3
        have hz8 : w.heap.size < w7.heap.size := by omega
        replace hw7 := Lib.hid hw7
        replace hown7' := Lib.hid hown7'
        replace hL7 := Lib.hid hL7
        replace hfar7 := Lib.hid hfar7
        replace hne7 := Lib.hid hne7
        clear hown7 hgrow7 hat7 hk0 hkL hg7 hown3 hL3 hfar hne hw3
        go_wp2_with fail
        go_roundw
        case rel => exact ⟨j + 1, out ++ [k], by omega, by go_num, by simp; omega, hz8, hbox7, hbox17, he3, hown7', hw7, hL7, hfar7, hne7⟩
        case measure => simp [intOf]; omega
    · have he2 : out = M := by
        have := he.out
        rw [List.drop_eq_nil_of_le (by omega)] at this
        simpa using this
      replace he2 := Lib.hid he2
      clear he
      go_wp2_with fail
      go_ret
      rw [← he2.out]
      exact ⟨_, rfl, hown.out, hw.out⟩

/-- the variable that a row is kept in, and the row -/
structure RowVar (base ob : Nat) (v : Value) (l : List Int) (w : World) : Prop where
  blk : w.heap[ob]? = some (.cells #[v] 28 (0, 0))
  own : w.ownsRow base 3 1 v l.length (ints l)
  le : base ≤ ob
theorem RowVar.ne {base ob : Nat} {v : Value} {l : List Int} {w : World} (h : RowVar base ob v l w) : v.ownBlock ≠ some ob := ownsRow_ne h.own h.blk (fun c e => by cases e)
theorem RowVar.kept {base ob : Nat} {v : Value} {l : List Int} {w w' : World} (h : RowVar base ob v l w) (h1 : w'.heap[ob]? = w.heap[ob]?) (h2 : ∀ i, v.ownBlock = some i → w'.heap[i]? = w.heap[i]?) : RowVar base ob v l w' := ⟨h1.trans h.blk, ownsRow_block h.own h2, h.le⟩
theorem RowVar.up {base ob : Nat} {v : Value} {l : List Int} {w w' : World} (h : RowVar base ob v l w) (hb : Below w.heap.size w w') : RowVar base ob v l w' := h.kept (hb.block _ (block_lt h.blk)) (fun i hi => hb.block i (h.own.lt i hi).2)
theorem RowVar.alloc {base ob : Nat} {v : Value} {l : List Int} {w : World} (h : RowVar base ob v l w) (o : Obj) : RowVar base ob v l (w.alloc o) := h.up (below_al (Below.refl _ _) o)
/-- a row that has grown is stored -/
theorem RowVar.set {base ob : Nat} {v v' : Value} {l l' : List Int} {w w' : World} (h : RowVar base ob v l w) (hg : w.grownBy w' v.ownBlock) (ho : w'.ownsRow base 3 1 v' l'.length (ints l')) : RowVar base ob v' l' (w'.setCell ⟨ob, 0, none⟩ v') := by
  have hblk := (hg.block _ (block_lt h.blk) (fun e => h.ne e.symm)).trans h.blk
  have hvm : v'.ownBlock ≠ some ob := ownsRow_ne ho hblk (fun c e => by cases e)
  exact ⟨(setCell_block hblk 0 v').trans rfl, ownsRow_block ho (fun i hi => setCell_far (own_far hi hvm)), h.le⟩

theorem topo1_calls (j : Int) (base ob : Nat) (v : Value) (l : List Int) (w : World) (h : RowVar base ob v l w) :
    Calls Try.prog 142 #[.int .i64 j, .pointer (some ⟨ob, 0, none⟩)] w fun e w' => e = .returned (.bool (!l.contains j)) ∧ w = w' := by
  obtain ⟨A, c, rfl, hl1, hl2, hl3⟩ := ownsRow_ints h.own
  have x0 : w.cell? ⟨ob, 0, none⟩ = some (.slice A l.length c) := (cellm h.blk 0).trans rfl
  have hc := contains_calls A c j l w.heap.size w w (Below.refl _ _) (Nat.le_refl _) (Nat.le_trans hl1 hl2) hl3
  generalize l.contains j = d at *
  replace hc := Lib.hid hc
  replace h := Lib.hid h
  clear hl3
  go_enter Try.func142, Try.ntmps142
  go_wp2_with fail
  refine hc.out.mono ?_
  rintro e w1 ⟨rfl, rfl⟩
  go_wp2_with fail
  go_ret
  exact ⟨rfl, rfl⟩
end Go.Proofs.Ytkbblekengdhaaa

set_option linter.unusedVariables false
set_option linter.unusedSimpArgs false
namespace Go.Proofs.Ytkbblekengdhaaa
open Go Go.RowKit

/-- a set as a map of truths -/
def setF (X : Int → Bool) : Int → Option Value := fun k => if X k = true then some (.bool true) else none
theorem setF_get (X : Int → Bool) (k : Int) : (setF X k).getD (.bool false) = .bool (X k) := by
  unfold setF; cases X k <;> rfl
theorem setMapTy : VMapTy Try.prog 122 3 4 (.bool false) := ⟨Try.underlying122, Try.underlying3, fun w => by kernel_rfl⟩

set_option maxRecDepth 5000 in
set_option maxHeartbeats 8000000 in
theorem topo_calls (Am At : Option Addr) (cm ct : Nat) (made : List Bool) (tasks : List Task) (B : Nat) (w0 w : World) (hb : Below B w0 w) (hB : B ≤ w.heap.size) (hs : SheetAt B w0 Am cm At ct made tasks)
    (hlen : made.length = tasks.length) (hten : made.length ≤ 10) (mb c : Nat) (X : Int → Bool) (hM : VMap Try.prog 3 w mb (setF X) c) (hc : c ≤ 10) :
    Calls Try.prog 107 #[.agg #[.slice Am made.length cm, .slice At tasks.length ct], .map (some mb)] w fun e w' => GivesRow (topoP X (mayS made tasks) made.length c []) e w w' := by
  have hmc := fun w1 (hw : Below w.heap.size w w1) (q : Nat) (hq : q < tasks.length) => sheetMay_calls Am At cm ct made tasks B w0 w1 (below_up' hb hB hw) (Nat.le_trans hB hw.size) hs q hq
  have hmay : ∀ (q : Nat) (hq : q < tasks.length), mayMade made tasks[q] = mayS made tasks q := fun q hq => by unfold mayS; rw [taskAt_get hq]
  have hml : ∀ k : Int, (mayS made tasks k).length ≤ 10 := fun k => Nat.le_trans (List.length_filter_le _ _) (mayList_len _)
  have hmw : ∀ w1, Below w.heap.size w w1 → VMap Try.prog 3 w1 mb (setF X) c := fun w1 h => hM.block (h.block _ hM.lt)
  have hmbl := hM.lt
  generalize mayS made tasks = may at *
  obtain ⟨R, hR⟩ : ∃ R, topoP X may made.length c [] = R := ⟨_, rfl⟩
  rw [hR]
  have hg84 : Enters Try.prog 142 := enters_of Try.func142 (by kernel_rfl) rfl
  replace hmc := Lib.hid hmc
  replace hmay := Lib.hid hmay
  replace hml := Lib.hid hml
  replace hmw := Lib.hid hmw
  replace hR := Lib.hid hR
  replace hlen := Lib.hid hlen
  replace hg84 := Lib.hid hg84
  clear hs hb hM
  go_enter Try.func107, Try.ntmps107
  go_wp2_with fail
  go_step3
  go_wp2_with fail
  go_step3
  go_wp2_with fail
  go_loopg [7] c (fun g _ wr => ∃ (v : Value) (out : List Int), out.length + g = c ∧ Hid (wr.heap[w.heap.size]? = some (.cells #[.slice Am made.length cm, .slice At tasks.length ct] 26 (0, 0))) ∧ Hid (RowVar w.heap.size (w.heap.size + 1) v out wr) ∧ Hid (Below w.heap.size w wr) ∧ Hid (topoP X may made.length g out = R))
  case atStart => exact ⟨.slice none 0 0, [], by simp, Lib.hid ((heap_old (by simp)).trans (heap_new rfl)), Lib.hid ⟨heap_new (by simp), World.ownsRow_nil _ _ _ _, by omega⟩, Lib.hid (below_al (below_al (Below.refl _ _) _) _), hR⟩
  case round =>
    obtain ⟨v, out, hol, hbx, hV, hw, hp⟩ := hrel
    have y0 : wr.cell? ⟨w.heap.size, 0, none⟩ = some (.slice Am made.length cm) := (cellm hbx.out 0).trans rfl
    have y1 : wr.cell? ⟨w.heap.size, 1, none⟩ = some (.slice At tasks.length ct) := (cellm hbx.out 1).trans rfl
    obtain ⟨A, cv, rfl, hl1, hl2, hl3⟩ := ownsRow_ints hV.out.own
    have z0 : wr.cell? ⟨w.heap.size + 1, 0, none⟩ = some (.slice A out.length cv) := (cellm hV.out.blk 0).trans rfl
    have hmv := hmw.out wr hw.out
    have hsz := hw.out.size
    replace hmv := Lib.hid hmv
    cases gk with
    | zero =>
      have hR2 : (out, true) = R := by have := hp.out; rwa [topoP] at this
      have hd : decide (out.length < c) = false := by simp; omega
      replace hR2 := Lib.hid hR2
      go_wp2_with (with_reducible refine wpList_vlen (by rfl) (.tmp 10) 122 (by rfl) setMapTy mb c (setF X) (by with_unfolding_all rfl) hmv.out ?_)
      try rw [Exit.noGoto_ret]
      go_ret2
      rw [← hR2.out]
      exact ⟨_, rfl, hV.out.own, hw.out⟩
    | succ g =>
      have hd : decide (out.length < c) = true := by simp; omega
      have hp2 := hp.out
      rw [topoP] at hp2
      replace hp2 := Lib.hid hp2
      clear hp
      go_wp2_with (with_reducible refine wpList_vlen (by rfl) (.tmp 10) 122 (by rfl) setMapTy mb c (setF X) (by with_unfolding_all rfl) hmv.out ?_)
      obtain ⟨w9, hw9⟩ : ∃ w9, w9 = wr := ⟨_, rfl⟩
      subst hw9
      clear hmv
      go_loopg [7, 16] made.length (fun g2 _ i wr => ∃ (q : Nat), q + g2 = made.length ∧ i = .int .i64 q ∧ Hid (wr.heap[w.heap.size]? = some (.cells #[.slice Am made.length cm, .slice At tasks.length ct] 26 (0, 0))) ∧ Hid (RowVar w.heap.size (w.heap.size + 1) (.slice A out.length cv) out wr) ∧ Hid (Below w.heap.size w wr) ∧ Hid (∀ j : Nat, j < q → freeK X may out j = false))
      case atStart => exact ⟨0, by omega, rfl, hbx, hV, hw, Lib.hid (fun j hj => by omega)⟩
      case round =>
        obtain ⟨q, hq, rfl, hbx, hV, hw, hno⟩ := hrel
        have y0 : wr.cell? ⟨w.heap.size, 0, none⟩ = some (.slice Am made.length cm) := (cellm hbx.out 0).trans rfl
        have y1 : wr.cell? ⟨w.heap.size, 1, none⟩ = some (.slice At tasks.length ct) := (cellm hbx.out 1).trans rfl
        have hsz := hw.out.size
        have z0 : wr.cell? ⟨w.heap.size + 1, 0, none⟩ = some (.slice A out.length cv) := (cellm hV.out.blk 0).trans rfl
        have hmv := hmw.out wr hw.out
        replace hmv := Lib.hid hmv
        cases gk with
        | zero =>
          have e : q = made.length := by omega
          subst e
          have hR2 : ([], false) = R := by
            have := hp2.out
            have hn : nextK X may made.length out = none := by
              unfold nextK
              rw [List.find?_eq_none]
              intro j hj
              rw [hno.out j (List.mem_range.1 hj)]; simp
            rw [hn] at this
            exact this
          have hd3 : decide (made.length < made.length) = false := by simp
          replace hR2 := Lib.hid hR2
          go_wp2_with fail
          try rw [Exit.noGoto_ret]
          go_ret2
          rw [← hR2.out]
          exact ⟨_, rfl, World.ownsRow_nil _ _ _ _, hw.out⟩
        | succ g2 =>
          have hlt : q < made.length := by omega
          have hd3 : decide (q < made.length) = true := by simp; omega
          have hqw : (Lit.int .i64 (q : Int)).wf = true := wf_small (by omega) (by omega)
          have hgx := setF_get X q
          cases hX : X q with
          | false =>
            rw [hX] at hgx
            have hno2 : ∀ j : Nat, j < q + 1 → freeK X may out j = false := fun j hj => if e : j = q then by subst e; simp [freeK, hX] else hno.out j (by omega)
            replace hno2 := Lib.hid hno2
            replace hX := Lib.hid hX
            go_wp2_with (with_reducible refine wpList_vget (by rfl) (.tmp 19) (.tmp 20) 122 (by rfl) setMapTy mb c (setF X) (by with_unfolding_all rfl) hmv.out q (by with_unfolding_all rfl) hqw ?_)
            go_roundg g2
            case rel => exact ⟨q + 1, by omega, by go_num, hbx, hV, hw, hno2⟩
            case measure => omega
          | true =>
            rw [hX] at hgx
            have hcon := contains_calls A cv q out wr.heap.size wr wr (Below.refl _ _) (Nat.le_refl _) (Nat.le_trans hl1 hl2) (ownsRow_ints_of hV.out.own)
            cases hco : out.contains (q : Int) with
            | true =>
              rw [hco] at hcon
              have hno2 : ∀ j : Nat, j < q + 1 → freeK X may out j = false := fun j hj => if e : j = q then by subst e; unfold freeK; rw [hX, hco]; rfl else hno.out j (by omega)
              replace hno2 := Lib.hid hno2
              replace hX := Lib.hid hX
              replace hco := Lib.hid hco
              replace hcon := Lib.hid hcon
              go_wp2_with (with_reducible refine wpList_vget (by rfl) (.tmp 19) (.tmp 20) 122 (by rfl) setMapTy mb c (setF X) (by with_unfolding_all rfl) hmv.out q (by with_unfolding_all rfl) hqw ?_)
              refine hcon.out.mono ?_
              rintro e w3 ⟨rfl, rfl⟩
              go_wp2_with fail
              go_roundg g2
              case rel => exact ⟨q + 1, by omega, by go_num, hbx, hV, hw, hno2⟩
              case measure => omega
            | false =>
              rw [hco] at hcon
              have hqt : q < tasks.length := by have := hlen.out; omega
              have hmay2 := hmc.out wr hw.out q hqt
              rw [hmay.out q hqt] at hmay2
              have hml2 := hml.out q
              have hall : freeK X may out q = (may q).all fun j => out.contains j := by unfold freeK; rw [hX, hco]; rfl
              generalize may q = L at hmay2 hml2 hall
              replace hX := Lib.hid hX
              replace hco := Lib.hid hco
              replace hcon := Lib.hid hcon
              replace hmay2 := Lib.hid hmay2
              replace hall := Lib.hid hall
              go_wp2_with (with_reducible refine wpList_vget (by rfl) (.tmp 19) (.tmp 20) 122 (by rfl) setMapTy mb c (setF X) (by with_unfolding_all rfl) hmv.out q (by with_unfolding_all rfl) hqw ?_)
              refine hcon.out.mono ?_
              rintro e w3 ⟨rfl, rfl⟩
              go_wp2_with fail
              refine hmay2.out.mono ?_
              rintro e w4 ⟨vL, rfl, hownL, h4⟩
              obtain ⟨AL, cL, rfl, hm1, hm2, hm3⟩ := ownsRow_ints hownL
              have hV4 := hV.out.up h4
              have hcf := containsFunc_calls (fun j => !out.contains j) 142 #[] #[.pointer (some ⟨w.heap.size + 1, 0, none⟩)] hg84.out AL cL L w4.heap.size w4 w4 (Below.refl _ _) (Nat.le_refl _) (Nat.le_trans hm1 hm2) hm3
                (fun x w5 _ h5 => (by simpa using (topo1_calls x w.heap.size (w.heap.size + 1) _ out w5 (hV4.up h5)) : Calls Try.prog 142 (#[] ++ #[.int .i64 x] ++ #[.pointer (some ⟨w.heap.size + 1, 0, none⟩)]) w5 (fun e w'' => e = .returned (.bool (!out.contains x)) ∧ w5 = w'')).mono (fun e w'' h => ⟨h.1, by rw [← h.2]; exact Below.refl _ _⟩))
              have hbx4 := (h4.block _ (block_lt hbx.out)).trans hbx.out
              have q0 : w4.cell? ⟨w.heap.size, 0, none⟩ = some (.slice Am made.length cm) := (cellm hbx4 0).trans rfl
              have q1 : w4.cell? ⟨w.heap.size, 1, none⟩ = some (.slice At tasks.length ct) := (cellm hbx4 1).trans rfl
              replace hbx4 := Lib.hid hbx4
              have hw4 := below_up hw.out h4
              have hany : L.any (fun j => !out.contains j) = !(L.all fun j => out.contains j) := by rw [List.not_all_eq_any_not]
              rw [hany, ← hall.out] at hcf
              obtain ⟨fr, hfr⟩ : ∃ fr, freeK X may out q = fr := ⟨_, rfl⟩
              rw [hfr] at hcf
              replace hcf := Lib.hid hcf
              replace hV4 := Lib.hid hV4
              replace hw4 := Lib.hid hw4
              clear hmay2 hcon hmv hm3 hownL h4 hall hany y0 y1 hV hw z0
              go_wp2_with fail
              refine hcf.out.mono ?_
              rintro e w5 ⟨rfl, h5⟩
              have hV5 := hV4.out.up h5
              have hbx5 := (h5.block _ (block_lt hbx4.out)).trans hbx4.out
              have hbxl := block_lt hbx5
              replace hbx5 := Lib.hid hbx5
              have hw5 := below_up hw4.out h5
              have z0 : w5.cell? ⟨w.heap.size + 1, 0, none⟩ = some (.slice A out.length cv) := (cellm hV5.blk 0).trans rfl
              have hsz5 := hw5.size
              have hob5 := block_lt hV5.blk
              replace hV5 := Lib.hid hV5
              replace hw5 := Lib.hid hw5
              clear hcf h5 hV4 hw4 q0 q1
              cases fr with
              | false =>
                have hno2 : ∀ j : Nat, j < q + 1 → freeK X may out j = false := fun j hj => if e : j = q then by subst e; exact hfr else hno.out j (by omega)
                replace hno2 := Lib.hid hno2
                replace hfr := Lib.hid hfr
                go_wp2_with fail
                go_roundg g2
                case rel => exact ⟨q + 1, by omega, by go_num, hbx5, hV5, hw5, hno2⟩
                case measure => omega
              | true =>
                have hnx := nextK_at hlt hfr hno.out
                have hp3 : topoP X may made.length g (out ++ [(q : Int)]) = R := by have := hp2.out; rw [hnx] at this; exact this
                replace hp3 := Lib.hid hp3
                replace hfr := Lib.hid hfr
                replace hnx := Lib.hid hnx
                go_wp2_with (at_builtin; go_loud (with_reducible refine wpList_app1 (by rfl) (.tmp 34) (.tmp 36) 28 (by rfl) intTy w.heap.size (.slice A out.length cv) out.length (ints out) (by with_unfolding_all rfl) (hV5.out.own.alloc _) w5.heap.size 1 [.int .i64 q] (by with_unfolding_all rfl) (by with_unfolding_all rfl) ?_ (one_int _ _) ?_ ?_ ?_ ?_))
                · exact ⟨_, _, heap_alloc_new w5 _, rfl⟩
                · unfold maxLen; omega
                · omega
                · first | omega | (simp; omega)
                intro g5 cap w7 hown7 hgrow7 hat7
                have hV7 := (hV5.out.alloc (.cells #[.int .i64 q] 3 (0, 0))).set (l' := out ++ [(q : Int)]) hgrow7 (by simpa [ints_append, ints] using hown7)
                have hk0 : w7.heap[w.heap.size + 1]? = w5.heap[w.heap.size + 1]? := far_grown hgrow7 hob5 hV5.out.ne
                have hbx7 : (w7.setCell ⟨w.heap.size + 1, 0, none⟩ (.slice (some ⟨g5, 0, none⟩) (out.length + 1) cap)).heap[w.heap.size]? = some (.cells #[.slice Am made.length cm, .slice At tasks.length ct] 26 (0, 0)) :=
                  (setCell_far (show w.heap.size ≠ w.heap.size + 1 by omega)).trans ((far_grown hgrow7 hbxl (box_ne hV5.out.own hbx5.out (by decide))).trans hbx5.out)
                have hbb : w7.heap[w.heap.size + 1]? = some (.cells #[.slice A out.length cv] 28 (0, 0)) := hk0.trans hV5.out.blk
                have f0 : w7.frozen? ⟨w.heap.size + 1, 0, none⟩ = false := frozenm hbb 0
                have c0 : w7.cell? ⟨w.heap.size + 1, 0, none⟩ = some (.slice A out.length cv) := (cellm hbb 0).trans rfl
                have hw7 : Below w.heap.size w (w7.setCell ⟨w.heap.size + 1, 0, none⟩ (.slice (some ⟨g5, 0, none⟩) (out.length + 1) cap)) := ((below_al' hw5.out (.cells #[.int .i64 q] 3 (0, 0)) hsz5).grown hgrow7 (by simp; omega) (fun i hi => (hV5.out.own.lt i hi).1)).setCell (by simp) _
                replace hbx7 := Lib.hid hbx7
                replace hV7 := Lib.hid hV7
                replace hw7 := Lib.hid hw7
                clear hown7 hgrow7 hat7 hk0 hbb hV5 hw5 z0
                go_wp2_with fail
                go_roundg g
                case rel => exact ⟨_, out ++ [(q : Int)], by simp; omega, hbx7, hV7, hw7, hp3⟩
                case measure => omega
end Go.Proofs.Ytkbblekengdhaaa

set_option linter.unusedVariables false
set_option linter.unusedSimpArgs false
namespace Go.Proofs.Ytkbblekengdhaaa
open Go Go.RowKit

/-- a call of a function value, as a step of a region that draws its order -/
theorem step_call_value {P : Program} {ops : Array Oper} {o : Oper} {a : Act} {w : World} {K : Act → World → Prop} {Q : Exit → Act → World → Prop} {X : Prop}
    (hg : o.guard = none) (x : Operand) (xs : List Operand) (ts : Array TypeId) (hop : o.op = Op.call { callee := Callee.value x, args := xs.toArray, argTypes := ts })
    (g : Nat) (first cap : Array Value) (hx : a.eval x = .func (.func g) first cap) (hP : Enters P g)
    (hc : Calls P g (first ++ (xs.map a.eval).toArray ++ cap) w fun e w' => ∃ v, e = .returned v ∧ K (a.put o.dst v) w') :
    if Region.wanted o (yielded ops a.tmps) = true then Oper.wp P o a w K Q else X := by
  have hw : Region.wanted o (yielded ops a.tmps) = true := by simp [Region.wanted, hg]
  rw [if_pos hw]
  unfold Oper.wp
  have hrun : (execOp a.eval o).run P w = .ok (.enter g (first ++ (xs.map a.eval).toArray ++ cap)) w := by
    have := hP (first ++ (xs.map a.eval).toArray ++ cap) w
    simp [execOp, hop, resolve, hx, Deferred.ofValue, invoke]
    simpa using this
  rw [hrun]
  show Calls P g _ w _
  refine hc.mono fun e w' h => ?_
  obtain ⟨v, rfl, hk⟩ := h
  exact hk

theorem wpList_gate {P : Program} {ops : Array Oper} {rest : List Oper} {o : Oper} {a : Act} {Q : Exit → Act → World → Prop} {w : World} (hw : Region.wanted o (yielded ops a.tmps) = true) (h : wpList P ops Q (⟨o.dst, o.op, o.type, o.pos, o.after, none⟩ :: rest) a w) : wpList P ops Q (o :: rest) a w := by
  unfold wpList at h ⊢
  rw [if_pos hw]
  rwa [if_pos (show Region.wanted ⟨o.dst, o.op, o.type, o.pos, o.after, none⟩ (yielded ops a.tmps) = true from rfl)] at h

/-- a variable in a block of its own -/
def Var (w : World) (b : Nat) (v : Value) : Prop := ∃ T, w.heap[b]? = some (.cells #[v] T (0, 0))
theorem Var.cell {w : World} {b : Nat} {v : Value} (h : Var w b v) : w.cell? ⟨b, 0, none⟩ = some v := by
  obtain ⟨T, h⟩ := h; exact (cellm h 0).trans rfl
theorem Var.frozen {w : World} {b : Nat} {v : Value} (h : Var w b v) : w.frozen? ⟨b, 0, none⟩ = false := by
  obtain ⟨T, h⟩ := h; exact frozenm h 0
theorem Var.lt {w : World} {b : Nat} {v : Value} (h : Var w b v) : b < w.heap.size := by
  obtain ⟨T, h⟩ := h; exact block_lt h
theorem Var.kept {w w' : World} {b : Nat} {v : Value} (h : Var w b v) (hk : w'.heap[b]? = w.heap[b]?) : Var w' b v := by
  obtain ⟨T, h⟩ := h; exact ⟨T, hk.trans h⟩

/-- what the walk of 'reached' works on -/
structure RCtx (ps po pw pn mb : Nat) (sv : Array Value) (fw fn : Value) (n : Nat) (B : Nat) (w0 : World) (X : Int → Bool) (w : World) : Prop where
  vs : w.heap[ps]? = some (.cells sv 26 (0, 0))
  vo : Var w po (.map (some mb))
  vw : Var w pw fw
  vn : Var w pn fn
  m : VMap Try.prog 3 w mb (setF X) (cntN X n)
  range : ∀ k, X k = true → 0 ≤ k ∧ k < n
  hm : B ≤ mb
  below : Below B w0 w
  size : B ≤ w.heap.size
section
variable {ps po pw pn mb : Nat} {sv : Array Value} {fw fn : Value} {n : Nat} {B : Nat} {w0 : World} {X : Int → Bool} {w w' : World}
theorem RCtx.ne (h : RCtx ps po pw pn mb sv fw fn n B w0 X w) : ps ≠ mb ∧ po ≠ mb ∧ pw ≠ mb ∧ pn ≠ mb := by
  obtain ⟨_, h1⟩ := h.vo; obtain ⟨_, h2⟩ := h.vw; obtain ⟨_, h3⟩ := h.vn
  exact ⟨h.m.ne_cells h.vs, h.m.ne_cells h1, h.m.ne_cells h2, h.m.ne_cells h3⟩
theorem RCtx.up (h : RCtx ps po pw pn mb sv fw fn n B w0 X w) (hb : Below w.heap.size w w') : RCtx ps po pw pn mb sv fw fn n B w0 X w' :=
  ⟨(hb.block _ (block_lt h.vs)).trans h.vs, h.vo.kept (hb.block _ h.vo.lt), h.vw.kept (hb.block _ h.vw.lt), h.vn.kept (hb.block _ h.vn.lt), h.m.block (hb.block _ h.m.lt), h.range, h.hm, below_up' h.below h.size hb, Nat.le_trans h.size hb.size⟩
theorem RCtx.drew (h : RCtx ps po pw pn mb sv fw fn n B w0 X w) : RCtx ps po pw pn mb sv fw fn n B w0 X w.drew := h.up (Below.refl _ _).drew
theorem RCtx.put (h : RCtx ps po pw pn mb sv fw fn n B w0 X w) {k : Int} (hr : 0 ≤ k ∧ k < n) (hX : X k = false) (hM : VMap Try.prog 3 w' mb (updV (setF X) k (.bool true)) (putC (setF X) k (cntN X n))) (hg : w.grownBy w' (some mb)) :
    RCtx ps po pw pn mb sv fw fn n B w0 (setX X k) w' := by
  obtain ⟨n1, n2, n3, n4⟩ := h.ne
  have hb : ∀ i, i < w.heap.size → i ≠ mb → w'.heap[i]? = w.heap[i]? := fun i hi hne => hg.block i hi (by simpa using hne)
  refine ⟨(hb _ (block_lt h.vs) n1).trans h.vs, h.vo.kept (hb _ h.vo.lt n2), h.vw.kept (hb _ h.vw.lt n3), h.vn.kept (hb _ h.vn.lt n4), ?_, fun j hj => ?_, h.hm, ?_, ?_⟩
  · have e1 : (setF X k).isSome = false := by simp [setF, hX]
    unfold putC at hM
    rw [e1] at hM
    obtain ⟨q, rfl⟩ := Int.eq_ofNat_of_zero_le hr.1
    rw [cntN_set (by omega) hX]
    refine (hM.congr fun j => ?_)
    unfold updV setF setX
    by_cases e : j = (q : Int)
    · simp [e]
    · simp [e]
  · simp only [setX] at hj
    split at hj
    · rename_i e; rw [e]; exact hr
    · exact h.range j hj
  · exact h.below.grown hg h.size (fun i hi => by cases hi; exact h.hm)
  · exact Nat.le_trans h.size hg.size
end

set_option maxRecDepth 5000 in
set_option maxHeartbeats 8000000 in
theorem reached1_calls (Am At : Option Addr) (cm nt ct : Nat) (made : List Bool) (g : Nat) (first cap : Array Value) (nx : Int → List Int) (B : Nat) (w0 : World) (hten : made.length ≤ 10) (hmade : BoolsAt B w0 Am made) (hg : Enters Try.prog g)
    (hnx : ∀ k w', mkK made k = true → Below B w0 w' → B ≤ w'.heap.size → Calls Try.prog g (first ++ #[.int .i64 k] ++ cap) w' (fun e w'' => ∃ v, e = .returned v ∧ w''.ownsRow w'.heap.size 3 1 v (nx k).length (ints (nx k)) ∧ Below w'.heap.size w' w''))
    (ps po pw pn mb : Nat) :
    ∀ (m : Nat) (X : Int → Bool) (w : World) (A : Option Addr) (c : Nat) (xs : List Int), made.length - cntN X made.length = m →
      RCtx ps po pw pn mb #[.slice Am made.length cm, .slice At nt ct] (.func (.func 143) #[] #[.pointer (some ⟨ps, 0, none⟩), .pointer (some ⟨po, 0, none⟩), .pointer (some ⟨pw, 0, none⟩), .pointer (some ⟨pn, 0, none⟩)]) (.func (.func g) first cap) made.length B w0 X w →
      IntsAt w.heap.size w A xs → xs.length ≤ maxLen →
      Calls Try.prog 143 #[.slice A xs.length c, .pointer (some ⟨ps, 0, none⟩), .pointer (some ⟨po, 0, none⟩), .pointer (some ⟨pw, 0, none⟩), .pointer (some ⟨pn, 0, none⟩)] w fun e w' => (∃ v, e = .returned v) ∧ ∃ Y,
        RCtx ps po pw pn mb #[.slice Am made.length cm, .slice At nt ct] (.func (.func 143) #[] #[.pointer (some ⟨ps, 0, none⟩), .pointer (some ⟨po, 0, none⟩), .pointer (some ⟨pw, 0, none⟩), .pointer (some ⟨pn, 0, none⟩)]) (.func (.func g) first cap) made.length B w0 Y w' ∧
        RStep (mkK made) nx X xs Y ∧ Turn (· = mb) (· = mb) w w' := by
  have hg1 : Enters Try.prog 143 := enters_of Try.func143 (by kernel_rfl) rfl
  intro m
  induction m using Nat.strongRecOn with
  | ind m ih =>
  intro X w A c xs hmes hC hxs hlx
  have hmk := fun (w1 : World) (hb1 : Below B w0 w1) (hB1 : B ≤ w1.heap.size) k => makes_calls Am At cm nt ct k made B w0 w1 hb1 hB1 (by unfold maxLen; omega) hmade
  unfold maxLen at hlx
  replace hmk := Lib.hid hmk
  replace hnx := Lib.hid hnx
  replace ih := Lib.hid ih
  replace hC := Lib.hid hC
  replace hxs := Lib.hid hxs
  replace hmes := Lib.hid hmes
  replace hg1 := Lib.hid hg1
  replace hg := Lib.hid hg
  clear hmade
  go_enter Try.func143, Try.ntmps143
  go_wp2_with fail
  go_loopw [7, 10] (fun _ i wr => ∃ (j : Nat) (Y : Int → Bool), j ≤ xs.length ∧ i = .int .i64 j ∧ Hid (RCtx ps po pw pn mb #[.slice Am made.length cm, .slice At nt ct] (.func (.func 143) #[] #[.pointer (some ⟨ps, 0, none⟩), .pointer (some ⟨po, 0, none⟩), .pointer (some ⟨pw, 0, none⟩), .pointer (some ⟨pn, 0, none⟩)]) (.func (.func g) first cap) made.length B w0 Y wr) ∧
    Hid (RStep (mkK made) nx X (xs.take j) Y) ∧ Hid (Turn (· = mb) (· = mb) w wr) ∧ Hid (IntsAt wr.heap.size wr A xs)) (fun _ i _ => xs.length - (intOf i).toNat)
  case atStart => exact ⟨0, X, Nat.zero_le _, rfl, hC, Lib.hid (RStep.nil X), Lib.hid (Turn.refl _ _), hxs⟩
  case round =>
    obtain ⟨j, Y, hj, rfl, hC, hR, hT, hxs⟩ := hrel
    by_cases hlt : j < xs.length
    · obtain ⟨bx, ox, ex, hbx, y⟩ := hxs.out j hlt
      subst ex
      have htk : xs.take (j + 1) = xs.take j ++ [xs[j]] := List.take_succ_eq_append_getElem hlt
      obtain ⟨k, hk⟩ : ∃ k, xs[j] = k := ⟨_, rfl⟩
      rw [hk] at y htk
      have hcm := hmk.out wr hC.out.below hC.out.size k
      have s0 : wr.cell? ⟨ps, 0, none⟩ = some (.slice Am made.length cm) := (cellm hC.out.vs 0).trans rfl
      have s1 : wr.cell? ⟨ps, 1, none⟩ = some (.slice At nt ct) := (cellm hC.out.vs 1).trans rfl
      replace hk := Lib.hid hk
      replace htk := Lib.hid htk
      cases hm : mkK made k with
      | false =>
        rw [hm] at hcm
        replace hm := Lib.hid hm
        replace hcm := Lib.hid hcm
        go_wp2_with fail
        refine hcm.out.mono ?_
        rintro e w1 ⟨rfl, h1⟩
        have hC1 := hC.out.up h1
        have hR1 := hR.out.skip (k := k) (.inl hm.out)
        rw [← htk.out] at hR1
        have hT1 := hT.out.trans (below_turn h1)
        have hxs1 : IntsAt w1.heap.size w1 (some ⟨bx, ox, none⟩) xs := hxs.out.up h1 h1.size
        replace hC1 := Lib.hid hC1
        replace hR1 := Lib.hid hR1
        replace hT1 := Lib.hid hT1
        replace hxs1 := Lib.hid hxs1
        clear h1 hcm hC hR hT hxs
        go_wp2_with fail
        go_roundw
        case rel => exact ⟨j + 1, Y, by omega, by go_num, hC1, hR1, hT1, hxs1⟩
        case measure => simp [intOf]; omega
      | true =>
        rw [hm] at hcm
        have hkr := mkK_range (show mkK made k ≠ false by rw [hm]; simp)
        have hkw : (Lit.int .i64 k).wf = true := wf_small (by omega) (by omega)
        replace hm := Lib.hid hm
        replace hcm := Lib.hid hcm
        have hgx := setF_get Y k
        cases hY : Y k with
        | true =>
          rw [hY] at hgx
          replace hY := Lib.hid hY
          go_wp2_with fail
          refine hcm.out.mono ?_
          rintro e w1 ⟨rfl, h1⟩
          have hC1 := hC.out.up h1
          have o0 := hC1.vo.cell
          have hR1 := hR.out.skip (k := k) (.inr hY.out)
          rw [← htk.out] at hR1
          have hT1 := hT.out.trans (below_turn h1)
          have hxs1 : IntsAt w1.heap.size w1 (some ⟨bx, ox, none⟩) xs := hxs.out.up h1 h1.size
          replace hC1 := Lib.hid hC1
          replace hR1 := Lib.hid hR1
          replace hT1 := Lib.hid hT1
          replace hxs1 := Lib.hid hxs1
          clear h1 hcm hC hR hT hxs
          go_wp2_with (refine wpList_gate (by with_unfolding_all rfl) ?_; with_reducible refine wpList_vget (by rfl) (.tmp 18) (.tmp 19) 122 (by rfl) setMapTy mb (cntN Y made.length) (setF Y) (by with_unfolding_all rfl) hC1.out.m k (by with_unfolding_all rfl) hkw ?_)
          go_roundw
          case rel => exact ⟨j + 1, Y, by omega, by go_num, hC1, hR1, hT1, hxs1⟩
          case measure => simp [intOf]; omega
        | false =>
          rw [hY] at hgx
          obtain ⟨q, hq⟩ := Int.eq_ofNat_of_zero_le hkr.1
          have hcs : cntN (setX Y k) made.length = cntN Y made.length + 1 := by rw [hq]; exact cntN_set (by omega) (by rw [← hq]; exact hY)
          have hcl : cntN Y made.length + 1 ≤ made.length := by have := cntN_le (setX Y k) made.length; omega
          have hmono := cntN_mono (n := made.length) hR.out.mono
          have hcm2 : cntN Y made.length < 10 := by omega
          replace hY := Lib.hid hY
          replace hq := Lib.hid hq
          replace hcs := Lib.hid hcs
          go_wp2_with fail
          refine hcm.out.mono ?_
          rintro e w1 ⟨rfl, h1⟩
          have hC1 := hC.out.up h1
          have o0 := hC1.vo.cell
          have hT1 := hT.out.trans (below_turn h1)
          have hxs1 : IntsAt w1.heap.size w1 (some ⟨bx, ox, none⟩) xs := hxs.out.up h1 h1.size
          replace hC1 := Lib.hid hC1
          replace hT1 := Lib.hid hT1
          replace hxs1 := Lib.hid hxs1
          clear h1 hcm hC hT hxs s0 s1 y
          go_wp2_with (first | (refine wpList_gate (by with_unfolding_all rfl) ?_; with_reducible refine wpList_vget (by rfl) (.tmp 18) (.tmp 19) 122 (by rfl) setMapTy mb (cntN Y made.length) (setF Y) (by with_unfolding_all rfl) hC1.out.m k (by with_unfolding_all rfl) hkw ?_) | with_reducible refine wpList_vput (by rfl) (.tmp 23) (.tmp 24) (.const (.bool true)) 122 (by rfl) setMapTy mb (cntN Y made.length) (setF Y) (by with_unfolding_all rfl) hC1.out.m (by unfold maxLen; omega) k (.bool true) (by with_unfolding_all rfl) (by with_unfolding_all rfl) hkw ?_)
          intro w2 hM2 hg2
          have hC2 := hC1.out.put hkr hY.out hM2 hg2
          have hT2 := hT1.out.trans (grown_turn hg2 (F := (· = mb)) (F' := (· = mb)) (fun i hi => by cases hi; rfl) (fun i hi => .inl hi))
          have hxs2 : IntsAt w2.heap.size w2 (some ⟨bx, ox, none⟩) xs := fun i hi => by
            obtain ⟨b', o', e', hb', c'⟩ := hxs1.out i hi
            have hne := hC1.out.m.ne_cell c'
            exact ⟨b', o', e', Nat.lt_of_lt_of_le hb' hg2.size, (World.cell?_of_block (w := w1) (hg2.block _ hb' (by simpa using hne))).trans c'⟩
          have w0c := hC2.vw.cell
          have n0c := hC2.vn.cell
          have hnk := hnx.out k w2.drew hm.out hC2.drew.below hC2.drew.size
          have hih := ih.out (made.length - cntN (setX Y k) made.length) (by rw [← hmes.out, hcs.out]; omega) (setX Y k)
          replace hC2 := Lib.hid hC2
          replace hT2 := Lib.hid hT2
          replace hxs2 := Lib.hid hxs2
          replace hnk := Lib.hid hnk
          replace hih := Lib.hid hih
          clear hM2 hg2 hC1 hT1 hxs1 o0
          go_wp2_with fail
          go_region_law (first | ((with_reducible refine step_call_value (by rfl) (.tmp 26) _ _ (by rfl) g first cap (by with_unfolding_all rfl) hg.out ?_); refine hnk.out.mono ?_; rintro e w3 ⟨vL, rfl, hownL, h3⟩; obtain ⟨AL, cL, rfl, hm1, hm2, hm3⟩ := ownsRow_ints hownL; have hC3 := hC2.out.drew.up h3; have w3c := hC3.vw.cell; replace hC3 := Lib.hid hC3; replace hm3 := Lib.hid hm3; replace hm2 := Lib.hid hm2; replace h3 := Lib.hid h3; clear hownL; refine ⟨_, rfl, ?_⟩) | ((with_reducible refine step_call_value (by rfl) (.tmp 25) _ _ (by rfl) 143 #[] #[.pointer (some ⟨ps, 0, none⟩), .pointer (some ⟨po, 0, none⟩), .pointer (some ⟨pw, 0, none⟩), .pointer (some ⟨pn, 0, none⟩)] (by with_unfolding_all rfl) hg1.out ?_); refine (hih.out w3 AL cL (nx k) (by first | rfl | trivial) hC3.out hm3.out (Nat.le_trans hm1 hm2.out)).mono ?_; rintro e w4 ⟨⟨v4, rfl⟩, Y4, hC4, hR4, hT4⟩; replace hC4 := Lib.hid hC4; replace hR4 := Lib.hid hR4; replace hT4 := Lib.hid hT4; refine ⟨_, rfl, ?_⟩))
          all_goals
            have hR5 := hR.out.walk hm.out hY.out hR4.out
            rw [← htk.out] at hR5
            have hT5 := (hT2.out.drew.trans (below_turn h3.out)).trans hT4.out
            have hxs3 : IntsAt w4.heap.size w4 (some ⟨bx, ox, none⟩) xs := fun i hi => by
              obtain ⟨b', o', e', hb', c'⟩ := hxs2.out i hi
              have hne := hC2.out.m.ne_cell c'
              have hb3 : b' < w3.heap.size := Nat.lt_of_lt_of_le hb' h3.out.size
              exact ⟨b', o', e', Nat.lt_of_lt_of_le hb3 hT4.out.size, (World.cell?_of_block (w := w2) ((hT4.out.block b' hb3 hne).trans (h3.out.block b' hb'))).trans c'⟩
            replace hR5 := Lib.hid hR5
            replace hT5 := Lib.hid hT5
            replace hxs3 := Lib.hid hxs3
            go_wp2_with fail
            go_roundw
            case rel => exact ⟨j + 1, Y4, by omega, by go_num, hC4, hR5, hT5, hxs3⟩
            case measure => simp [intOf]; omega
    · have htk : xs.take j = xs := List.take_of_length_le (by omega)
      have hR2 := hR.out
      rw [htk] at hR2
      replace hR2 := Lib.hid hR2
      replace htk := Lib.hid htk
      go_wp2_with fail
      go_end0
      exact ⟨⟨_, rfl⟩, Y, hC.out, hR2.out, hT.out⟩
end Go.Proofs.Ytkbblekengdhaaa
