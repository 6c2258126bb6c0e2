import Derived.Test.YtagmdljdcnmpdaaTopo
set_option linter.unusedVariables false
set_option linter.unusedSimpArgs false
namespace Go.Proofs.Ytagmdljdcnmpdaa
open Go Go.RowKit

/-- a call of a function value, as a step of a region that draws its order -/
theorem step_call_value {P : Program} {ops : Array Oper} {o : Oper} {a : Act} {w : World} {K : Act → World → Prop} {Q : Exit → Act → World → Prop} {X : Prop}
    (hg : o.guard = none) (x : Operand) (xs : List Operand) (ts : Array TypeId) (hop : o.op = Op.call { callee := Callee.value x, args := xs.toArray, argTypes := ts })
    (g : Nat) (first cap : Array Value) (hx : a.eval x = .func (.func g) first cap) (hP : Enters P g)
    (hc : Calls P g (first ++ (xs.map a.eval).toArray ++ cap) w fun e w' => ∃ v, e = .returned v ∧ K (a.put o.dst v) w') :
    if Region.wanted o (yielded ops a.tmps) = true then Oper.wp P o a w K Q else X := by
  have hw : Region.wanted o (yielded ops a.tmps) = true := by simp [Region.wanted, hg]
  rw [if_pos hw]
  unfold Oper.wp
  have hrun : (execOp a.eval o).run P w = .ok (.enter g (first ++ (xs.map a.eval).toArray ++ cap)) w := by
    have := hP (first ++ (xs.map a.eval).toArray ++ cap) w
    simp [execOp, hop, resolve, hx, Deferred.ofValue, invoke]
    simpa using this
  rw [hrun]
  show Calls P g _ w _
  refine hc.mono fun e w' h => ?_
  obtain ⟨v, rfl, hk⟩ := h
  exact hk

theorem wpList_gate {P : Program} {ops : Array Oper} {rest : List Oper} {o : Oper} {a : Act} {Q : Exit → Act → World → Prop} {w : World} (hw : Region.wanted o (yielded ops a.tmps) = true) (h : wpList P ops Q (⟨o.dst, o.op, o.type, o.pos, o.after, none⟩ :: rest) a w) : wpList P ops Q (o :: rest) a w := by
  unfold wpList at h ⊢
  rw [if_pos hw]
  rwa [if_pos (show Region.wanted ⟨o.dst, o.op, o.type, o.pos, o.after, none⟩ (yielded ops a.tmps) = true from rfl)] at h

/-- a variable in a block of its own -/
def Var (w : World) (b : Nat) (v : Value) : Prop := ∃ T, w.heap[b]? = some (.cells #[v] T (0, 0))
theorem Var.cell {w : World} {b : Nat} {v : Value} (h : Var w b v) : w.cell? ⟨b, 0, none⟩ = some v := by
  obtain ⟨T, h⟩ := h; exact (cellm h 0).trans rfl
theorem Var.frozen {w : World} {b : Nat} {v : Value} (h : Var w b v) : w.frozen? ⟨b, 0, none⟩ = false := by
  obtain ⟨T, h⟩ := h; exact frozenm h 0
theorem Var.lt {w : World} {b : Nat} {v : Value} (h : Var w b v) : b < w.heap.size := by
  obtain ⟨T, h⟩ := h; exact block_lt h
theorem Var.kept {w w' : World} {b : Nat} {v : Value} (h : Var w b v) (hk : w'.heap[b]? = w.heap[b]?) : Var w' b v := by
  obtain ⟨T, h⟩ := h; exact ⟨T, hk.trans h⟩

/-- what the walk of 'reached' works on -/
structure RCtx (ps po pw pn mb : Nat) (sv : Array Value) (fw fn : Value) (n : Nat) (B : Nat) (w0 : World) (X : Int → Bool) (w : World) : Prop where
  vs : w.heap[ps]? = some (.cells sv 26 (0, 0))
  vo : Var w po (.map (some mb))
  vw : Var w pw fw
  vn : Var w pn fn
  m : VMap Try.prog 3 w mb (setF X) (cntN X n)
  range : ∀ k, X k = true → 0 ≤ k ∧ k < n
  hm : B ≤ mb
  below : Below B w0 w
  size : B ≤ w.heap.size
section
variable {ps po pw pn mb : Nat} {sv : Array Value} {fw fn : Value} {n : Nat} {B : Nat} {w0 : World} {X : Int → Bool} {w w' : World}
theorem RCtx.ne (h : RCtx ps po pw pn mb sv fw fn n B w0 X w) : ps ≠ mb ∧ po ≠ mb ∧ pw ≠ mb ∧ pn ≠ mb := by
  obtain ⟨_, h1⟩ := h.vo; obtain ⟨_, h2⟩ := h.vw; obtain ⟨_, h3⟩ := h.vn
  exact ⟨h.m.ne_cells h.vs, h.m.ne_cells h1, h.m.ne_cells h2, h.m.ne_cells h3⟩
theorem RCtx.up (h : RCtx ps po pw pn mb sv fw fn n B w0 X w) (hb : Below w.heap.size w w') : RCtx ps po pw pn mb sv fw fn n B w0 X w' :=
  ⟨(hb.block _ (block_lt h.vs)).trans h.vs, h.vo.kept (hb.block _ h.vo.lt), h.vw.kept (hb.block _ h.vw.lt), h.vn.kept (hb.block _ h.vn.lt), h.m.block (hb.block _ h.m.lt), h.range, h.hm, below_up' h.below h.size hb, Nat.le_trans h.size hb.size⟩
theorem RCtx.drew (h : RCtx ps po pw pn mb sv fw fn n B w0 X w) : RCtx ps po pw pn mb sv fw fn n B w0 X w.drew := h.up (Below.refl _ _).drew
theorem RCtx.put (h : RCtx ps po pw pn mb sv fw fn n B w0 X w) {k : Int} (hr : 0 ≤ k ∧ k < n) (hX : X k = false) (hM : VMap Try.prog 3 w' mb (updV (setF X) k (.bool true)) (putC (setF X) k (cntN X n))) (hg : w.grownBy w' (some mb)) :
    RCtx ps po pw pn mb sv fw fn n B w0 (setX X k) w' := by
  obtain ⟨n1, n2, n3, n4⟩ := h.ne
  have hb : ∀ i, i < w.heap.size → i ≠ mb → w'.heap[i]? = w.heap[i]? := fun i hi hne => hg.block i hi (by simpa using hne)
  refine ⟨(hb _ (block_lt h.vs) n1).trans h.vs, h.vo.kept (hb _ h.vo.lt n2), h.vw.kept (hb _ h.vw.lt n3), h.vn.kept (hb _ h.vn.lt n4), ?_, fun j hj => ?_, h.hm, ?_, ?_⟩
  · have e1 : (setF X k).isSome = false := by simp [setF, hX]
    unfold putC at hM
    rw [e1] at hM
    obtain ⟨q, rfl⟩ := Int.eq_ofNat_of_zero_le hr.1
    rw [cntN_set (by omega) hX]
    refine (hM.congr fun j => ?_)
    unfold updV setF setX
    by_cases e : j = (q : Int)
    · simp [e]
    · simp [e]
  · simp only [setX] at hj
    split at hj
    · rename_i e; rw [e]; exact hr
    · exact h.range j hj
  · exact h.below.grown hg h.size (fun i hi => by cases hi; exact h.hm)
  · exact Nat.le_trans h.size hg.size
end

set_option maxRecDepth 5000 in
set_option maxHeartbeats 8000000 in
theorem reached1_calls (Am At : Option Addr) (cm nt ct : Nat) (made : List Bool) (g : Nat) (first cap : Array Value) (nx : Int → List Int) (B : Nat) (w0 : World) (hten : made.length ≤ 10) (hmade : BoolsAt B w0 Am made) (hg : Enters Try.prog g)
    (hnx : ∀ k w', mkK made k = true → Below B w0 w' → B ≤ w'.heap.size → Calls Try.prog g (first ++ #[.int .i64 k] ++ cap) w' (fun e w'' => ∃ v, e = .returned v ∧ w''.ownsRow w'.heap.size 3 1 v (nx k).length (ints (nx k)) ∧ Below w'.heap.size w' w''))
    (ps po pw pn mb : Nat) :
    ∀ (m : Nat) (X : Int → Bool) (w : World) (A : Option Addr) (c : Nat) (xs : List Int), made.length - cntN X made.length = m →
      RCtx ps po pw pn mb #[.slice Am made.length cm, .slice At nt ct] (.func (.func 85) #[] #[.pointer (some ⟨ps, 0, none⟩), .pointer (some ⟨po, 0, none⟩), .pointer (some ⟨pw, 0, none⟩), .pointer (some ⟨pn, 0, none⟩)]) (.func (.func g) first cap) made.length B w0 X w →
      IntsAt w.heap.size w A xs → xs.length ≤ maxLen →
      Calls Try.prog 85 #[.slice A xs.length c, .pointer (some ⟨ps, 0, none⟩), .pointer (some ⟨po, 0, none⟩), .pointer (some ⟨pw, 0, none⟩), .pointer (some ⟨pn, 0, none⟩)] w fun e w' => (∃ v, e = .returned v) ∧ ∃ Y,
        RCtx ps po pw pn mb #[.slice Am made.length cm, .slice At nt ct] (.func (.func 85) #[] #[.pointer (some ⟨ps, 0, none⟩), .pointer (some ⟨po, 0, none⟩), .pointer (some ⟨pw, 0, none⟩), .pointer (some ⟨pn, 0, none⟩)]) (.func (.func g) first cap) made.length B w0 Y w' ∧
        RStep (mkK made) nx X xs Y ∧ Turn (· = mb) (· = mb) w w' := by
  have hg1 : Enters Try.prog 85 := enters_of Try.func85 (by kernel_rfl) rfl
  intro m
  induction m using Nat.strongRecOn with
  | ind m ih =>
  intro X w A c xs hmes hC hxs hlx
  have hmk := fun (w1 : World) (hb1 : Below B w0 w1) (hB1 : B ≤ w1.heap.size) k => makes_calls Am At cm nt ct k made B w0 w1 hb1 hB1 (by unfold maxLen; omega) hmade
  unfold maxLen at hlx
  replace hmk := Lib.hid hmk
  replace hnx := Lib.hid hnx
  replace ih := Lib.hid ih
  replace hC := Lib.hid hC
  replace hxs := Lib.hid hxs
  replace hmes := Lib.hid hmes
  replace hg1 := Lib.hid hg1
  replace hg := Lib.hid hg
  clear hmade
  go_enter Try.func85, Try.ntmps85
  go_wp2_with fail
  go_loopw [7, 10] (fun _ i wr => ∃ (j : Nat) (Y : Int → Bool), j ≤ xs.length ∧ i = .int .i64 j ∧ Hid (RCtx ps po pw pn mb #[.slice Am made.length cm, .slice At nt ct] (.func (.func 85) #[] #[.pointer (some ⟨ps, 0, none⟩), .pointer (some ⟨po, 0, none⟩), .pointer (some ⟨pw, 0, none⟩), .pointer (some ⟨pn, 0, none⟩)]) (.func (.func g) first cap) made.length B w0 Y wr) ∧
    Hid (RStep (mkK made) nx X (xs.take j) Y) ∧ Hid (Turn (· = mb) (· = mb) w wr) ∧ Hid (IntsAt wr.heap.size wr A xs)) (fun _ i _ => xs.length - (intOf i).toNat)
  case atStart => exact ⟨0, X, Nat.zero_le _, rfl, hC, Lib.hid (RStep.nil X), Lib.hid (Turn.refl _ _), hxs⟩
  case round =>
    obtain ⟨j, Y, hj, rfl, hC, hR, hT, hxs⟩ := hrel
    by_cases hlt : j < xs.length
    · obtain ⟨bx, ox, ex, hbx, y⟩ := hxs.out j hlt
      subst ex
      have htk : xs.take (j + 1) = xs.take j ++ [xs[j]] := List.take_succ_eq_append_getElem hlt
      obtain ⟨k, hk⟩ : ∃ k, xs[j] = k := ⟨_, rfl⟩
      rw [hk] at y htk
      have hcm := hmk.out wr hC.out.below hC.out.size k
      have s0 : wr.cell? ⟨ps, 0, none⟩ = some (.slice Am made.length cm) := (cellm hC.out.vs 0).trans rfl
      have s1 : wr.cell? ⟨ps, 1, none⟩ = some (.slice At nt ct) := (cellm hC.out.vs 1).trans rfl
      replace hk := Lib.hid hk
      replace htk := Lib.hid htk
      cases hm : mkK made k with
      | false =>
        rw [hm] at hcm
        replace hm := Lib.hid hm
        replace hcm := Lib.hid hcm
        go_wp2_with fail
        refine hcm.out.mono ?_
        rintro e w1 ⟨rfl, h1⟩
        have hC1 := hC.out.up h1
        have hR1 := hR.out.skip (k := k) (.inl hm.out)
        rw [← htk.out] at hR1
        have hT1 := hT.out.trans (below_turn h1)
        have hxs1 : IntsAt w1.heap.size w1 (some ⟨bx, ox, none⟩) xs := hxs.out.up h1 h1.size
        replace hC1 := Lib.hid hC1
        replace hR1 := Lib.hid hR1
        replace hT1 := Lib.hid hT1
        replace hxs1 := Lib.hid hxs1
        clear h1 hcm hC hR hT hxs
        go_wp2_with fail
        go_roundw
        case rel => exact ⟨j + 1, Y, by omega, by go_num, hC1, hR1, hT1, hxs1⟩
        case measure => simp [intOf]; omega
      | true =>
        rw [hm] at hcm
        have hkr := mkK_range (show mkK made k ≠ false by rw [hm]; simp)
        have hkw : (Lit.int .i64 k).wf = true := wf_small (by omega) (by omega)
        replace hm := Lib.hid hm
        replace hcm := Lib.hid hcm
        have hgx := setF_get Y k
        cases hY : Y k with
        | true =>
          rw [hY] at hgx
          replace hY := Lib.hid hY
          go_wp2_with fail
          refine hcm.out.mono ?_
          rintro e w1 ⟨rfl, h1⟩
          have hC1 := hC.out.up h1
          have o0 := hC1.vo.cell
          have hR1 := hR.out.skip (k := k) (.inr hY.out)
          rw [← htk.out] at hR1
          have hT1 := hT.out.trans (below_turn h1)
          have hxs1 : IntsAt w1.heap.size w1 (some ⟨bx, ox, none⟩) xs := hxs.out.up h1 h1.size
          replace hC1 := Lib.hid hC1
          replace hR1 := Lib.hid hR1
          replace hT1 := Lib.hid hT1
          replace hxs1 := Lib.hid hxs1
          clear h1 hcm hC hR hT hxs
          go_wp2_with (refine wpList_gate (by with_unfolding_all rfl) ?_; with_reducible refine wpList_vget (by rfl) (.tmp 18) (.tmp 19) 79 (by rfl) setMapTy mb (cntN Y made.length) (setF Y) (by with_unfolding_all rfl) hC1.out.m k (by with_unfolding_all rfl) hkw ?_)
          go_roundw
          case rel => exact ⟨j + 1, Y, by omega, by go_num, hC1, hR1, hT1, hxs1⟩
          case measure => simp [intOf]; omega
        | false =>
          rw [hY] at hgx
          obtain ⟨q, hq⟩ := Int.eq_ofNat_of_zero_le hkr.1
          have hcs : cntN (setX Y k) made.length = cntN Y made.length + 1 := by rw [hq]; exact cntN_set (by omega) (by rw [← hq]; exact hY)
          have hcl : cntN Y made.length + 1 ≤ made.length := by have := cntN_le (setX Y k) made.length; omega
          have hmono := cntN_mono (n := made.length) hR.out.mono
          have hcm2 : cntN Y made.length < 10 := by omega
          replace hY := Lib.hid hY
          replace hq := Lib.hid hq
          replace hcs := Lib.hid hcs
          go_wp2_with fail
          refine hcm.out.mono ?_
          rintro e w1 ⟨rfl, h1⟩
          have hC1 := hC.out.up h1
          have o0 := hC1.vo.cell
          have hT1 := hT.out.trans (below_turn h1)
          have hxs1 : IntsAt w1.heap.size w1 (some ⟨bx, ox, none⟩) xs := hxs.out.up h1 h1.size
          replace hC1 := Lib.hid hC1
          replace hT1 := Lib.hid hT1
          replace hxs1 := Lib.hid hxs1
          clear h1 hcm hC hT hxs s0 s1 y
          go_wp2_with (first | (refine wpList_gate (by with_unfolding_all rfl) ?_; with_reducible refine wpList_vget (by rfl) (.tmp 18) (.tmp 19) 79 (by rfl) setMapTy mb (cntN Y made.length) (setF Y) (by with_unfolding_all rfl) hC1.out.m k (by with_unfolding_all rfl) hkw ?_) | with_reducible refine wpList_vput (by rfl) (.tmp 23) (.tmp 24) (.const (.bool true)) 79 (by rfl) setMapTy mb (cntN Y made.length) (setF Y) (by with_unfolding_all rfl) hC1.out.m (by unfold maxLen; omega) k (.bool true) (by with_unfolding_all rfl) (by with_unfolding_all rfl) hkw ?_)
          intro w2 hM2 hg2
          have hC2 := hC1.out.put hkr hY.out hM2 hg2
          have hT2 := hT1.out.trans (grown_turn hg2 (F := (· = mb)) (F' := (· = mb)) (fun i hi => by cases hi; rfl) (fun i hi => .inl hi))
          have hxs2 : IntsAt w2.heap.size w2 (some ⟨bx, ox, none⟩) xs := fun i hi => by
            obtain ⟨b', o', e', hb', c'⟩ := hxs1.out i hi
            have hne := hC1.out.m.ne_cell c'
            exact ⟨b', o', e', Nat.lt_of_lt_of_le hb' hg2.size, (World.cell?_of_block (w := w1) (hg2.block _ hb' (by simpa using hne))).trans c'⟩
          have w0c := hC2.vw.cell
          have n0c := hC2.vn.cell
          have hnk := hnx.out k w2.drew hm.out hC2.drew.below hC2.drew.size
          have hih := ih.out (made.length - cntN (setX Y k) made.length) (by rw [← hmes.out, hcs.out]; omega) (setX Y k)
          replace hC2 := Lib.hid hC2
          replace hT2 := Lib.hid hT2
          replace hxs2 := Lib.hid hxs2
          replace hnk := Lib.hid hnk
          replace hih := Lib.hid hih
          clear hM2 hg2 hC1 hT1 hxs1 o0
          go_wp2_with fail
          go_region_law (first | ((with_reducible refine step_call_value (by rfl) (.tmp 26) _ _ (by rfl) g first cap (by with_unfolding_all rfl) hg.out ?_); refine hnk.out.mono ?_; rintro e w3 ⟨vL, rfl, hownL, h3⟩; obtain ⟨AL, cL, rfl, hm1, hm2, hm3⟩ := ownsRow_ints hownL; have hC3 := hC2.out.drew.up h3; have w3c := hC3.vw.cell; replace hC3 := Lib.hid hC3; replace hm3 := Lib.hid hm3; replace hm2 := Lib.hid hm2; replace h3 := Lib.hid h3; clear hownL; refine ⟨_, rfl, ?_⟩) | ((with_reducible refine step_call_value (by rfl) (.tmp 25) _ _ (by rfl) 85 #[] #[.pointer (some ⟨ps, 0, none⟩), .pointer (some ⟨po, 0, none⟩), .pointer (some ⟨pw, 0, none⟩), .pointer (some ⟨pn, 0, none⟩)] (by with_unfolding_all rfl) hg1.out ?_); refine (hih.out w3 AL cL (nx k) (by first | rfl | trivial) hC3.out hm3.out (Nat.le_trans hm1 hm2.out)).mono ?_; rintro e w4 ⟨⟨v4, rfl⟩, Y4, hC4, hR4, hT4⟩; replace hC4 := Lib.hid hC4; replace hR4 := Lib.hid hR4; replace hT4 := Lib.hid hT4; refine ⟨_, rfl, ?_⟩))
          all_goals
            have hR5 := hR.out.walk hm.out hY.out hR4.out
            rw [← htk.out] at hR5
            have hT5 := (hT2.out.drew.trans (below_turn h3.out)).trans hT4.out
            have hxs3 : IntsAt w4.heap.size w4 (some ⟨bx, ox, none⟩) xs := fun i hi => by
              obtain ⟨b', o', e', hb', c'⟩ := hxs2.out i hi
              have hne := hC2.out.m.ne_cell c'
              have hb3 : b' < w3.heap.size := Nat.lt_of_lt_of_le hb' h3.out.size
              exact ⟨b', o', e', Nat.lt_of_lt_of_le hb3 hT4.out.size, (World.cell?_of_block (w := w2) ((hT4.out.block b' hb3 hne).trans (h3.out.block b' hb'))).trans c'⟩
            replace hR5 := Lib.hid hR5
            replace hT5 := Lib.hid hT5
            replace hxs3 := Lib.hid hxs3
            go_wp2_with fail
            go_roundw
            case rel => exact ⟨j + 1, Y4, by omega, by go_num, hC4, hR5, hT5, hxs3⟩
            case measure => simp [intOf]; omega
    · have htk : xs.take j = xs := List.take_of_length_le (by omega)
      have hR2 := hR.out
      rw [htk] at hR2
      replace hR2 := Lib.hid hR2
      replace htk := Lib.hid htk
      go_wp2_with fail
      go_end0
      exact ⟨⟨_, rfl⟩, Y, hC.out, hR2.out, hT.out⟩
end Go.Proofs.Ytagmdljdcnmpdaa
