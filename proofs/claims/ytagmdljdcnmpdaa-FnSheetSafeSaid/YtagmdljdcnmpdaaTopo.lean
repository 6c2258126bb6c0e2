import Derived.Test.YtagmdljdcnmpdaaTopoA
import Derived.Deep.LoopGhost
set_option linter.unusedVariables false
set_option linter.unusedSimpArgs false
namespace Go.Proofs.Ytagmdljdcnmpdaa
open Go Go.RowKit

/-- a set as a map of truths -/
def setF (X : Int → Bool) : Int → Option Value := fun k => if X k = true then some (.bool true) else none
theorem setF_get (X : Int → Bool) (k : Int) : (setF X k).getD (.bool false) = .bool (X k) := by
  unfold setF; cases X k <;> rfl
theorem setMapTy : VMapTy Try.prog 79 3 4 (.bool false) := ⟨Try.underlying79, Try.underlying3, fun w => by kernel_rfl⟩

theorem ownsRow_ints_of {w : World} {base : Nat} {e : TypeId} {A : Option Addr} {c : Nat} {xs : List Int} (h : w.ownsRow base e 1 (.slice A xs.length c) xs.length (ints xs)) : IntsAt w.heap.size w A xs := by
  obtain ⟨A', c', e, _, _, hx⟩ := ownsRow_ints h
  cases e; exact hx
/-- the box that a struct was put into when the call began is no row that the call owns -/
theorem box_ne {w : World} {base : Nat} {e : TypeId} {size : Nat} {v : Value} {n : Nat} {xs : List Value} (h : w.ownsRow base e size v n xs) {m : Nat} {cs : Array Value} {t : TypeId} (hm : w.heap[m]? = some (.cells cs t (0, 0))) (hne : t ≠ e) : v.ownBlock ≠ some m :=
  ownsRow_ne h hm (fun c e' => by cases e'; exact hne rfl)

set_option maxRecDepth 5000 in
set_option maxHeartbeats 8000000 in
theorem topo_calls (Am At : Option Addr) (cm ct : Nat) (made : List Bool) (tasks : List Task) (B : Nat) (w0 w : World) (hb : Below B w0 w) (hB : B ≤ w.heap.size) (hs : SheetAt B w0 Am cm At ct made tasks)
    (hlen : made.length = tasks.length) (hten : made.length ≤ 10) (mb c : Nat) (X : Int → Bool) (hM : VMap Try.prog 3 w mb (setF X) c) (hc : c ≤ 10) :
    Calls Try.prog 51 #[.agg #[.slice Am made.length cm, .slice At tasks.length ct], .map (some mb)] w fun e w' => GivesRow (topoP X (mayS made tasks) made.length c []) e w w' := by
  have hmc := fun w1 (hw : Below w.heap.size w w1) (q : Nat) (hq : q < tasks.length) => sheetMay_calls Am At cm ct made tasks B w0 w1 (below_up' hb hB hw) (Nat.le_trans hB hw.size) hs q hq
  have hmay : ∀ (q : Nat) (hq : q < tasks.length), mayMade made tasks[q] = mayS made tasks q := fun q hq => by unfold mayS; rw [taskAt_get hq]
  have hml : ∀ k : Int, (mayS made tasks k).length ≤ 10 := fun k => Nat.le_trans (List.length_filter_le _ _) (mayList_len _)
  have hmw : ∀ w1, Below w.heap.size w w1 → VMap Try.prog 3 w1 mb (setF X) c := fun w1 h => hM.block (h.block _ hM.lt)
  have hmbl := hM.lt
  generalize mayS made tasks = may at *
  obtain ⟨R, hR⟩ : ∃ R, topoP X may made.length c [] = R := ⟨_, rfl⟩
  rw [hR]
  have hg84 : Enters Try.prog 84 := enters_of Try.func84 (by kernel_rfl) rfl
  replace hmc := Lib.hid hmc
  replace hmay := Lib.hid hmay
  replace hml := Lib.hid hml
  replace hmw := Lib.hid hmw
  replace hR := Lib.hid hR
  replace hlen := Lib.hid hlen
  replace hg84 := Lib.hid hg84
  clear hs hb hM
  go_enter Try.func51, Try.ntmps51
  go_wp2_with fail
  go_step3
  go_wp2_with fail
  go_step3
  go_wp2_with fail
  go_loopg [7] c (fun g _ wr => ∃ (v : Value) (out : List Int), out.length + g = c ∧ Hid (wr.heap[w.heap.size]? = some (.cells #[.slice Am made.length cm, .slice At tasks.length ct] 26 (0, 0))) ∧ Hid (RowVar w.heap.size (w.heap.size + 1) v out wr) ∧ Hid (Below w.heap.size w wr) ∧ Hid (topoP X may made.length g out = R))
  case atStart => exact ⟨.slice none 0 0, [], by simp, Lib.hid ((heap_old (by simp)).trans (heap_new rfl)), Lib.hid ⟨heap_new (by simp), World.ownsRow_nil _ _ _ _, by omega⟩, Lib.hid (below_al (below_al (Below.refl _ _) _) _), hR⟩
  case round =>
    obtain ⟨v, out, hol, hbx, hV, hw, hp⟩ := hrel
    have y0 : wr.cell? ⟨w.heap.size, 0, none⟩ = some (.slice Am made.length cm) := (cellm hbx.out 0).trans rfl
    have y1 : wr.cell? ⟨w.heap.size, 1, none⟩ = some (.slice At tasks.length ct) := (cellm hbx.out 1).trans rfl
    obtain ⟨A, cv, rfl, hl1, hl2, hl3⟩ := ownsRow_ints hV.out.own
    have z0 : wr.cell? ⟨w.heap.size + 1, 0, none⟩ = some (.slice A out.length cv) := (cellm hV.out.blk 0).trans rfl
    have hmv := hmw.out wr hw.out
    have hsz := hw.out.size
    replace hmv := Lib.hid hmv
    cases gk with
    | zero =>
      have hR2 : (out, true) = R := by have := hp.out; rwa [topoP] at this
      have hd : decide (out.length < c) = false := by simp; omega
      replace hR2 := Lib.hid hR2
      go_wp2_with (with_reducible refine wpList_vlen (by rfl) (.tmp 10) 79 (by rfl) setMapTy mb c (setF X) (by with_unfolding_all rfl) hmv.out ?_)
      try rw [Exit.noGoto_ret]
      go_ret2
      rw [← hR2.out]
      exact ⟨_, rfl, hV.out.own, hw.out⟩
    | succ g =>
      have hd : decide (out.length < c) = true := by simp; omega
      have hp2 := hp.out
      rw [topoP] at hp2
      replace hp2 := Lib.hid hp2
      clear hp
      go_wp2_with (with_reducible refine wpList_vlen (by rfl) (.tmp 10) 79 (by rfl) setMapTy mb c (setF X) (by with_unfolding_all rfl) hmv.out ?_)
      obtain ⟨w9, hw9⟩ : ∃ w9, w9 = wr := ⟨_, rfl⟩
      subst hw9
      clear hmv
      go_loopg [7, 16] made.length (fun g2 _ i wr => ∃ (q : Nat), q + g2 = made.length ∧ i = .int .i64 q ∧ Hid (wr.heap[w.heap.size]? = some (.cells #[.slice Am made.length cm, .slice At tasks.length ct] 26 (0, 0))) ∧ Hid (RowVar w.heap.size (w.heap.size + 1) (.slice A out.length cv) out wr) ∧ Hid (Below w.heap.size w wr) ∧ Hid (∀ j : Nat, j < q → freeK X may out j = false))
      case atStart => exact ⟨0, by omega, rfl, hbx, hV, hw, Lib.hid (fun j hj => by omega)⟩
      case round =>
        obtain ⟨q, hq, rfl, hbx, hV, hw, hno⟩ := hrel
        have y0 : wr.cell? ⟨w.heap.size, 0, none⟩ = some (.slice Am made.length cm) := (cellm hbx.out 0).trans rfl
        have y1 : wr.cell? ⟨w.heap.size, 1, none⟩ = some (.slice At tasks.length ct) := (cellm hbx.out 1).trans rfl
        have hsz := hw.out.size
        have z0 : wr.cell? ⟨w.heap.size + 1, 0, none⟩ = some (.slice A out.length cv) := (cellm hV.out.blk 0).trans rfl
        have hmv := hmw.out wr hw.out
        replace hmv := Lib.hid hmv
        cases gk with
        | zero =>
          have e : q = made.length := by omega
          subst e
          have hR2 : ([], false) = R := by
            have := hp2.out
            have hn : nextK X may made.length out = none := by
              unfold nextK
              rw [List.find?_eq_none]
              intro j hj
              rw [hno.out j (List.mem_range.1 hj)]; simp
            rw [hn] at this
            exact this
          have hd3 : decide (made.length < made.length) = false := by simp
          replace hR2 := Lib.hid hR2
          go_wp2_with fail
          try rw [Exit.noGoto_ret]
          go_ret2
          rw [← hR2.out]
          exact ⟨_, rfl, World.ownsRow_nil _ _ _ _, hw.out⟩
        | succ g2 =>
          have hlt : q < made.length := by omega
          have hd3 : decide (q < made.length) = true := by simp; omega
          have hqw : (Lit.int .i64 (q : Int)).wf = true := wf_small (by omega) (by omega)
          have hgx := setF_get X q
          cases hX : X q with
          | false =>
            rw [hX] at hgx
            have hno2 : ∀ j : Nat, j < q + 1 → freeK X may out j = false := fun j hj => if e : j = q then by subst e; simp [freeK, hX] else hno.out j (by omega)
            replace hno2 := Lib.hid hno2
            replace hX := Lib.hid hX
            go_wp2_with (with_reducible refine wpList_vget (by rfl) (.tmp 19) (.tmp 20) 79 (by rfl) setMapTy mb c (setF X) (by with_unfolding_all rfl) hmv.out q (by with_unfolding_all rfl) hqw ?_)
            go_roundg g2
            case rel => exact ⟨q + 1, by omega, by go_num, hbx, hV, hw, hno2⟩
            case measure => omega
          | true =>
            rw [hX] at hgx
            have hcon := contains_calls A cv q out wr.heap.size wr wr (Below.refl _ _) (Nat.le_refl _) (Nat.le_trans hl1 hl2) (ownsRow_ints_of hV.out.own)
            cases hco : out.contains (q : Int) with
            | true =>
              rw [hco] at hcon
              have hno2 : ∀ j : Nat, j < q + 1 → freeK X may out j = false := fun j hj => if e : j = q then by subst e; unfold freeK; rw [hX, hco]; rfl else hno.out j (by omega)
              replace hno2 := Lib.hid hno2
              replace hX := Lib.hid hX
              replace hco := Lib.hid hco
              replace hcon := Lib.hid hcon
              go_wp2_with (with_reducible refine wpList_vget (by rfl) (.tmp 19) (.tmp 20) 79 (by rfl) setMapTy mb c (setF X) (by with_unfolding_all rfl) hmv.out q (by with_unfolding_all rfl) hqw ?_)
              refine hcon.out.mono ?_
              rintro e w3 ⟨rfl, rfl⟩
              go_wp2_with fail
              go_roundg g2
              case rel => exact ⟨q + 1, by omega, by go_num, hbx, hV, hw, hno2⟩
              case measure => omega
            | false =>
              rw [hco] at hcon
              have hqt : q < tasks.length := by have := hlen.out; omega
              have hmay2 := hmc.out wr hw.out q hqt
              rw [hmay.out q hqt] at hmay2
              have hml2 := hml.out q
              have hall : freeK X may out q = (may q).all fun j => out.contains j := by unfold freeK; rw [hX, hco]; rfl
              generalize may q = L at hmay2 hml2 hall
              replace hX := Lib.hid hX
              replace hco := Lib.hid hco
              replace hcon := Lib.hid hcon
              replace hmay2 := Lib.hid hmay2
              replace hall := Lib.hid hall
              go_wp2_with (with_reducible refine wpList_vget (by rfl) (.tmp 19) (.tmp 20) 79 (by rfl) setMapTy mb c (setF X) (by with_unfolding_all rfl) hmv.out q (by with_unfolding_all rfl) hqw ?_)
              refine hcon.out.mono ?_
              rintro e w3 ⟨rfl, rfl⟩
              go_wp2_with fail
              refine hmay2.out.mono ?_
              rintro e w4 ⟨vL, rfl, hownL, h4⟩
              obtain ⟨AL, cL, rfl, hm1, hm2, hm3⟩ := ownsRow_ints hownL
              have hV4 := hV.out.up h4
              have hcf := containsFunc_calls (fun j => !out.contains j) 84 #[] #[.pointer (some ⟨w.heap.size + 1, 0, none⟩)] hg84.out AL cL L w4.heap.size w4 w4 (Below.refl _ _) (Nat.le_refl _) (Nat.le_trans hm1 hm2) hm3
                (fun x w5 _ h5 => (by simpa using (topo1_calls x w.heap.size (w.heap.size + 1) _ out w5 (hV4.up h5)) : Calls Try.prog 84 (#[] ++ #[.int .i64 x] ++ #[.pointer (some ⟨w.heap.size + 1, 0, none⟩)]) w5 (fun e w'' => e = .returned (.bool (!out.contains x)) ∧ w5 = w'')).mono (fun e w'' h => ⟨h.1, by rw [← h.2]; exact Below.refl _ _⟩))
              have hbx4 := (h4.block _ (block_lt hbx.out)).trans hbx.out
              have q0 : w4.cell? ⟨w.heap.size, 0, none⟩ = some (.slice Am made.length cm) := (cellm hbx4 0).trans rfl
              have q1 : w4.cell? ⟨w.heap.size, 1, none⟩ = some (.slice At tasks.length ct) := (cellm hbx4 1).trans rfl
              replace hbx4 := Lib.hid hbx4
              have hw4 := below_up hw.out h4
              have hany : L.any (fun j => !out.contains j) = !(L.all fun j => out.contains j) := by rw [List.not_all_eq_any_not]
              rw [hany, ← hall.out] at hcf
              obtain ⟨fr, hfr⟩ : ∃ fr, freeK X may out q = fr := ⟨_, rfl⟩
              rw [hfr] at hcf
              replace hcf := Lib.hid hcf
              replace hV4 := Lib.hid hV4
              replace hw4 := Lib.hid hw4
              clear hmay2 hcon hmv hm3 hownL h4 hall hany y0 y1 hV hw z0
              go_wp2_with fail
              refine hcf.out.mono ?_
              rintro e w5 ⟨rfl, h5⟩
              have hV5 := hV4.out.up h5
              have hbx5 := (h5.block _ (block_lt hbx4.out)).trans hbx4.out
              have hbxl := block_lt hbx5
              replace hbx5 := Lib.hid hbx5
              have hw5 := below_up hw4.out h5
              have z0 : w5.cell? ⟨w.heap.size + 1, 0, none⟩ = some (.slice A out.length cv) := (cellm hV5.blk 0).trans rfl
              have hsz5 := hw5.size
              have hob5 := block_lt hV5.blk
              replace hV5 := Lib.hid hV5
              replace hw5 := Lib.hid hw5
              clear hcf h5 hV4 hw4 q0 q1
              cases fr with
              | false =>
                have hno2 : ∀ j : Nat, j < q + 1 → freeK X may out j = false := fun j hj => if e : j = q then by subst e; exact hfr else hno.out j (by omega)
                replace hno2 := Lib.hid hno2
                replace hfr := Lib.hid hfr
                go_wp2_with fail
                go_roundg g2
                case rel => exact ⟨q + 1, by omega, by go_num, hbx5, hV5, hw5, hno2⟩
                case measure => omega
              | true =>
                have hnx := nextK_at hlt hfr hno.out
                have hp3 : topoP X may made.length g (out ++ [(q : Int)]) = R := by have := hp2.out; rw [hnx] at this; exact this
                replace hp3 := Lib.hid hp3
                replace hfr := Lib.hid hfr
                replace hnx := Lib.hid hnx
                go_wp2_with (at_builtin; go_loud (with_reducible refine wpList_app1 (by rfl) (.tmp 34) (.tmp 36) 27 (by rfl) intTy w.heap.size (.slice A out.length cv) out.length (ints out) (by with_unfolding_all rfl) (hV5.out.own.alloc _) w5.heap.size 1 [.int .i64 q] (by with_unfolding_all rfl) (by with_unfolding_all rfl) ?_ (one_int _ _) ?_ ?_ ?_ ?_))
                · exact ⟨_, _, heap_alloc_new w5 _, rfl⟩
                · unfold maxLen; omega
                · omega
                · first | omega | (simp; omega)
                intro g5 cap w7 hown7 hgrow7 hat7
                have hV7 := (hV5.out.alloc (.cells #[.int .i64 q] 3 (0, 0))).set (l' := out ++ [(q : Int)]) hgrow7 (by simpa [ints_append, ints] using hown7)
                have hk0 : w7.heap[w.heap.size + 1]? = w5.heap[w.heap.size + 1]? := far_grown hgrow7 hob5 hV5.out.ne
                have hbx7 : (w7.setCell ⟨w.heap.size + 1, 0, none⟩ (.slice (some ⟨g5, 0, none⟩) (out.length + 1) cap)).heap[w.heap.size]? = some (.cells #[.slice Am made.length cm, .slice At tasks.length ct] 26 (0, 0)) :=
                  (setCell_far (show w.heap.size ≠ w.heap.size + 1 by omega)).trans ((far_grown hgrow7 hbxl (box_ne hV5.out.own hbx5.out (by decide))).trans hbx5.out)
                have hbb : w7.heap[w.heap.size + 1]? = some (.cells #[.slice A out.length cv] 27 (0, 0)) := hk0.trans hV5.out.blk
                have f0 : w7.frozen? ⟨w.heap.size + 1, 0, none⟩ = false := frozenm hbb 0
                have c0 : w7.cell? ⟨w.heap.size + 1, 0, none⟩ = some (.slice A out.length cv) := (cellm hbb 0).trans rfl
                have hw7 : Below w.heap.size w (w7.setCell ⟨w.heap.size + 1, 0, none⟩ (.slice (some ⟨g5, 0, none⟩) (out.length + 1) cap)) := ((below_al' hw5.out (.cells #[.int .i64 q] 3 (0, 0)) hsz5).grown hgrow7 (by simp; omega) (fun i hi => (hV5.out.own.lt i hi).1)).setCell (by simp) _
                replace hbx7 := Lib.hid hbx7
                replace hV7 := Lib.hid hV7
                replace hw7 := Lib.hid hw7
                clear hown7 hgrow7 hat7 hk0 hbb hV5 hw5 z0
                go_wp2_with fail
                go_roundg g
                case rel => exact ⟨_, out ++ [(q : Int)], by simp; omega, hbx7, hV7, hw7, hp3⟩
                case measure => omega
end Go.Proofs.Ytagmdljdcnmpdaa
