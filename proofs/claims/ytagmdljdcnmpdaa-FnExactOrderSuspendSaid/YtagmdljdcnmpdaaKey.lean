import Derived.Test.YtagmdljdcnmpdaaMaker
import Derived.WalkSmall
set_option linter.unusedVariables false
set_option linter.unusedSimpArgs false
namespace Go.Proofs.Ytagmdljdcnmpdaa
open Go Go.RowKit

theorem keyP_unmade {S : Sh} {n : Nat} {st : MkSt} {k : Int} (h : mkK S.made k = false) : keyP S n st k = ((atK S.inputs k, true), st) := by
  cases n <;> simp [keyP, h]
theorem keyP_known {S : Sh} {n : Nat} {st : MkSt} {k v : Int} (h : mkK S.made k = true) (hk : st.known k = some v) : keyP S n st k = ((v, true), st) := by
  cases n <;> simp [keyP, h, hk]
theorem keyP_opened {S : Sh} {n : Nat} {st : MkSt} {k : Int} (h : mkK S.made k = true) (hk : st.known k = none) (ho : 0 ≤ idx (fun x => k == x) st.open_) :
    keyP S n st k = ((0, false), { st with circle := st.open_.drop (idx (fun x => k == x) st.open_).toNat }) := by
  cases n <;> simp [keyP, h, hk, ho]
theorem keyP_new {S : Sh} {n : Nat} {st : MkSt} {k : Int} (h : mkK S.made k = true) (hk : st.known k = none) (ho : ¬ 0 ≤ idx (fun x => k == x) st.open_) :
    keyP S (n + 1) st k = (let r := (S.tk k).run (keyP S n) { st with open_ := st.open_ ++ [k] }
      if r.1.2 then ((r.1.1, true), { r.2 with open_ := r.2.open_.dropLast, known := upd r.2.known k r.1.1, order := r.2.order ++ [k] }) else ((0, false), r.2)) := by
  simp [keyP, h, hk, ho]

theorem wf_small {k : Int} (h0 : -1000 ≤ k) (h1 : k ≤ 1000) : (Lit.int .i64 k).wf = true := WalkArith.wf_i64 (by omega)
theorem fitsI {k : Int} (h0 : 0 ≤ k) (h1 : k ≤ 9) : True := trivial

set_option maxHeartbeats 1000000 in
theorem key_unmade (E : MkEnv) (S : Sh) (hE : E.Good S) (m n : Nat) (st : MkSt) (k : Int) (w : World) (F : Nat → Prop) (hk0 : 0 ≤ k) (hk9 : k ≤ 9) (h : MkI E S m n st w F) (hmk : mkK S.made k = false) :
    Calls Try.prog 44 #[.pointer (some ⟨m, 0, none⟩), .int .i64 k] w (Gives (MkI E S m n) F w (keyP S n st k)) := by
  rw [keyP_unmade hmk]
  have hv := atK_value hE.ok k
  obtain ⟨⟨b, vo, vc, vr, hM, rfl⟩, hi⟩ := h
  have x0 : w.cell? ⟨m, 0, none⟩ = some (.slice E.Am S.made.length E.cm) := (cellm hM.blk 0).trans rfl
  have x1 : w.cell? ⟨m, 1, none⟩ = some (.slice E.At S.tks.length E.ct) := (cellm hM.blk 1).trans rfl
  have hc1 := fun w1 (hw : Below w.heap.size w w1) => makes_calls E.Am E.At E.cm S.tks.length E.ct k S.made E.B E.w0 w1 (below_up' hM.below hM.size hw) (Nat.le_trans hM.size hw.size) (Nat.le_trans hE.sheet.lm hE.sheet.mm) hE.sheet.made
  have hc2 := fun w1 (hw : Below w.heap.size w w1) => at_calls E.Ai E.ci k S.inputs E.B E.w0 w1 (below_up' hM.below hM.size hw) (Nat.le_trans hM.size hw.size) (Nat.le_trans hE.li hE.mi) hE.ins
  replace hc1 := Lib.hid hc1
  replace hc2 := Lib.hid hc2
  replace hM := Lib.hid hM
  replace hi := Lib.hid hi
  replace hv := Lib.hid hv
  replace hmk := Lib.hid hmk
  clear hE
  go_enter Try.func44, Try.ntmps44
  go_wp2_with fail
  refine (hc1.out _ (Below.refl _ _)).mono ?_
  rintro e w1 ⟨rfl, h3⟩
  rw [hmk.out]
  have hM1 := hM.out.up h3
  have y2 : w1.cell? ⟨m, 2, none⟩ = some (.slice E.Ai S.inputs.length E.ci) := (cellm hM1.blk 2).trans rfl
  replace hM1 := Lib.hid hM1
  replace h3 := Lib.hid h3
  clear x0 x1
  go_wp2_with fail
  refine (hc2.out _ h3.out).mono ?_
  rintro e w2 ⟨rfl, rfl⟩
  go_wp2_with fail
  go_ret2
  exact ⟨rfl, hv.out.1, hv.out.2, _, ⟨⟨b, vo, vc, vr, hM1.out, rfl⟩, hi.out⟩, below_turn h3.out⟩

set_option maxHeartbeats 1000000 in
theorem key_known (E : MkEnv) (S : Sh) (hE : E.Good S) (m n : Nat) (st : MkSt) (k v : Int) (w : World) (F : Nat → Prop) (hk0 : 0 ≤ k) (hk9 : k ≤ 9) (h : MkI E S m n st w F) (hmk : mkK S.made k = true) (hkn : st.known k = some v) :
    Calls Try.prog 44 #[.pointer (some ⟨m, 0, none⟩), .int .i64 k] w (Gives (MkI E S m n) F w (keyP S n st k)) := by
  rw [keyP_known hmk hkn]
  obtain ⟨⟨b, vo, vc, vr, hM, rfl⟩, hi⟩ := h
  have hv := hi.vals k v hkn
  have x0 : w.cell? ⟨m, 0, none⟩ = some (.slice E.Am S.made.length E.cm) := (cellm hM.blk 0).trans rfl
  have x1 : w.cell? ⟨m, 1, none⟩ = some (.slice E.At S.tks.length E.ct) := (cellm hM.blk 1).trans rfl
  have hc1 := fun w1 (hw : Below w.heap.size w w1) => makes_calls E.Am E.At E.cm S.tks.length E.ct k S.made E.B E.w0 w1 (below_up' hM.below hM.size hw) (Nat.le_trans hM.size hw.size) (Nat.le_trans hE.sheet.lm hE.sheet.mm) hE.sheet.made
  replace hc1 := Lib.hid hc1
  replace hM := Lib.hid hM
  replace hi := Lib.hid hi
  replace hv := Lib.hid hv
  replace hmk := Lib.hid hmk
  replace hkn := Lib.hid hkn
  clear hE
  go_enter Try.func44, Try.ntmps44
  go_wp2_with fail
  refine (hc1.out _ (Below.refl _ _)).mono ?_
  rintro e w1 ⟨rfl, h3⟩
  rw [hmk.out]
  have hM1 := hM.out.up h3
  have y3 : w1.cell? ⟨m, 3, none⟩ = some (.map (some b)) := (cellm hM1.blk 3).trans rfl
  replace hM1 := Lib.hid hM1
  replace h3 := Lib.hid h3
  clear x0 x1
  go_wp2_with ((with_reducible refine wpList_mapget (by rfl) (.tmp 28) (.tmp 29) 84 (by rfl) mapTy b _ _ (by with_unfolding_all rfl) hM1.out.map k (by with_unfolding_all rfl) (wf_small (by omega) (by omega)) ?_); rw [hkn.out]; simp only [Option.getD_some, Option.isSome_some])
  go_ret2
  exact ⟨rfl, hv.out.1, hv.out.2, _, ⟨⟨b, vo, vc, vr, hM1.out, rfl⟩, hi.out⟩, below_turn h3.out⟩

set_option maxHeartbeats 1000000 in
theorem key_opened (E : MkEnv) (S : Sh) (hE : E.Good S) (m n : Nat) (st : MkSt) (k : Int) (w : World) (F : Nat → Prop) (hk0 : 0 ≤ k) (hk9 : k ≤ 9) (h : MkI E S m n st w F) (hmk : mkK S.made k = true) (hkn : st.known k = none)
    (ho : 0 ≤ idx (fun x => k == x) st.open_) :
    Calls Try.prog 44 #[.pointer (some ⟨m, 0, none⟩), .int .i64 k] w (Gives (MkI E S m n) F w (keyP S n st k)) := by
  rw [keyP_opened hmk hkn ho]
  obtain ⟨⟨b, vo, vc, vr, hM, rfl⟩, hi⟩ := h
  obtain ⟨j, hj, hjl⟩ := idx_lt ho
  have hol := inv_open hi
  have hten := hE.ok.ten
  have x0 : w.cell? ⟨m, 0, none⟩ = some (.slice E.Am S.made.length E.cm) := (cellm hM.blk 0).trans rfl
  have x1 : w.cell? ⟨m, 1, none⟩ = some (.slice E.At S.tks.length E.ct) := (cellm hM.blk 1).trans rfl
  have hc1 := fun w1 (hw : Below w.heap.size w w1) => makes_calls E.Am E.At E.cm S.tks.length E.ct k S.made E.B E.w0 w1 (below_up' hM.below hM.size hw) (Nat.le_trans hM.size hw.size) (Nat.le_trans hE.sheet.lm hE.sheet.mm) hE.sheet.made
  replace hc1 := Lib.hid hc1
  obtain ⟨g, co, hvo, hBg, hgl⟩ := hM.oo.form (by omega)
  subst hvo
  replace hM := Lib.hid hM
  replace hi := Lib.hid hi
  replace hmk := Lib.hid hmk
  replace hkn := Lib.hid hkn
  clear hE ho
  have hml := block_lt hM.out.blk
  go_enter Try.func44, Try.ntmps44
  go_wp2_with fail
  refine (hc1.out _ (Below.refl _ _)).mono ?_
  rintro e w1 ⟨rfl, h3⟩
  rw [hmk.out]
  have hM1 := hM.out.up h3
  have y3 : w1.cell? ⟨m, 3, none⟩ = some (.map (some b)) := (cellm hM1.blk 3).trans rfl
  have y4 : w1.cell? ⟨m, 4, none⟩ = some (.slice (some ⟨g, 0, none⟩) st.open_.length co) := (cellm hM1.blk 4).trans rfl
  obtain ⟨A', c', e', hlo, hmo, hio⟩ := ownsRow_ints hM1.oo
  simp only [Value.slice.injEq, true_and] at e'
  obtain ⟨rfl, rfl⟩ := e'
  have hcall := index_calls _ co k st.open_ w1.heap.size w1 w1 (Below.refl _ _) (Nat.le_refl _) (Nat.le_trans hlo hmo) hio
  have hc2 := fun w2 (hw : Below w1.heap.size w1 w2) => clone_calls (some ⟨g, j, none⟩) (co - j) (st.open_.drop j) w1.heap.size w1 w2 hw hw.size (by simp; omega) (by simpa using hio.drop j)
  have hdl : (st.open_.drop j).length = st.open_.length - j := by simp
  rw [hdl] at hc2
  rw [hj] at hcall
  have hne : co ≠ j := by omega
  unfold maxLen at hmo
  replace hcall := Lib.hid hcall
  replace hc2 := Lib.hid hc2
  replace hM1 := Lib.hid hM1
  replace h3 := Lib.hid h3
  replace hj := Lib.hid hj
  replace hdl := Lib.hid hdl
  clear x0 x1 hio
  go_wp2_with (first | ((with_reducible refine wpList_mapget (by rfl) (.tmp 28) (.tmp 29) 84 (by rfl) mapTy b _ _ (by with_unfolding_all rfl) hM1.out.map k (by with_unfolding_all rfl) (wf_small (by omega) (by omega)) ?_); rw [hkn.out]; simp only [Option.getD_none, Option.isSome_none]) | (go_at_call 75; refine hcall.out.mono ?_; rintro e w2 ⟨rfl, rfl⟩))
  refine (hc2.out w1 (Below.refl _ _)).mono ?_
  rintro e w2 ⟨v, rfl, ho, hw⟩
  obtain ⟨Av, cv, rfl, _, _, _⟩ := ownsRow_ints (by rw [hdl.out]; exact ho)
  have z5 : w2.cell? ⟨m, 5, none⟩ = some vc := (cellm (hM1.out.up hw).blk 5).trans rfl
  have f5 : w2.frozen? ⟨m, 5, none⟩ = false := frozenm (hM1.out.up hw).blk 5
  have hset := hM1.out.set_circle hw (by rw [hdl.out]; exact ho)
  simp only [hdl.out] at hset
  replace hset := Lib.hid hset
  clear ho hw y3 y4
  go_wp2_with fail
  go_ret2
  rw [hj.out]
  have hi' := hi.out
  exact ⟨rfl, by simp, by simp, _, ⟨⟨b, _, _, vr, hset.out.1, rfl⟩, ⟨hi'.nodup, hi'.range, hi'.fuel, hi'.openUnknown, hi'.vals, hi'.onodup, hi'.orange, hi'.oknown⟩⟩, (below_turn h3.out).trans hset.out.2⟩

set_option maxHeartbeats 2000000 in
theorem key_new (E : MkEnv) (S : Sh) (hE : E.Good S) (m n : Nat)
    (ih : ∀ (st : MkSt) (k : Int) (w : World) (F : Nat → Prop), 0 ≤ k → k ≤ 9 → MkI E S m n st w F →
      Calls Try.prog 44 #[.pointer (some ⟨m, 0, none⟩), .int .i64 k] w (Gives (MkI E S m n) F w (keyP S n st k)))
    (st : MkSt) (k : Int) (w : World) (F : Nat → Prop) (hk0 : 0 ≤ k) (hk9 : k ≤ 9) (h : MkI E S m (n + 1) st w F) (hmk : mkK S.made k = true) (hkn : st.known k = none)
    (ho : ¬ 0 ≤ idx (fun x => k == x) st.open_) :
    Calls Try.prog 44 #[.pointer (some ⟨m, 0, none⟩), .int .i64 k] w (Gives (MkI E S m (n + 1)) F w (keyP S (n + 1) st k)) := by
  have hinv := keyP_inv hE.ok (n + 1) st k h.2
  have hP := keyP_new (n := n) hmk hkn ho
  obtain ⟨⟨b, vo, vc, vr, hM, rfl⟩, hi⟩ := h
  have hol := inv_open hi
  have hten := hE.ok.ten
  have hkr := mkK_range (show mkK S.made k ≠ false by rw [hmk]; simp)
  have hkl : k < S.tks.length := by have := hE.ok.len; omega
  obtain ⟨q, rfl⟩ := Int.eq_ofNat_of_zero_le hk0
  have hql : q < S.tks.length := by omega
  have hi1 := inv_push hi hkr hkn (not_open ho)
  have hpr := keyP_run hE.ok hi1 (hE.ok.tks S.tks[q] (List.getElem_mem _))
  obtain ⟨r, hr⟩ : ∃ r, (S.tks[q]).run (keyP S n) { st with open_ := st.open_ ++ [(q : Int)] } = r := ⟨_, rfl⟩
  rw [tk_at hql] at hP
  rw [hr] at hP hpr
  replace hi1 := Lib.hid hi1
  replace hpr := Lib.hid hpr
  replace hr := Lib.hid hr
  have x0 : w.cell? ⟨m, 0, none⟩ = some (.slice E.Am S.made.length E.cm) := (cellm hM.blk 0).trans rfl
  have x1 : w.cell? ⟨m, 1, none⟩ = some (.slice E.At S.tks.length E.ct) := (cellm hM.blk 1).trans rfl
  have hc1 := fun w1 (hw : Below w.heap.size w w1) => makes_calls E.Am E.At E.cm S.tks.length E.ct q S.made E.B E.w0 w1 (below_up' hM.below hM.size hw) (Nat.le_trans hM.size hw.size) (Nat.le_trans hE.sheet.lm hE.sheet.mm) hE.sheet.made
  replace hc1 := Lib.hid hc1
  replace hM := Lib.hid hM
  replace hi := Lib.hid hi
  replace hmk := Lib.hid hmk
  replace hkn := Lib.hid hkn
  replace hE := Lib.hid hE
  replace ho := Lib.hid ho
  replace ih := Lib.hid ih
  replace hP := Lib.hid hP
  replace hinv := Lib.hid hinv
  replace hkr := Lib.hid hkr
  go_enter Try.func44, Try.ntmps44
  go_wp2_with fail
  refine (hc1.out _ (Below.refl _ _)).mono ?_
  rintro e w1 ⟨rfl, h3⟩
  rw [hmk.out]
  have hM1 := hM.out.up h3
  have y3 : w1.cell? ⟨m, 3, none⟩ = some (.map (some b)) := (cellm hM1.blk 3).trans rfl
  have y4 : w1.cell? ⟨m, 4, none⟩ = some vo := (cellm hM1.blk 4).trans rfl
  obtain ⟨Ao, co, e', hlo, hmo, hio⟩ := ownsRow_ints hM1.oo
  subst e'
  have hcall := index_calls Ao co q st.open_ w1.heap.size w1 w1 (Below.refl _ _) (Nat.le_refl _) (Nat.le_trans hlo hmo) hio
  have hneg : ∃ j : Int, idx (fun x => (q : Int) == x) st.open_ = j ∧ j < 0 := ⟨_, rfl, by have := ho.out; omega⟩
  obtain ⟨j, hj, hj0⟩ := hneg
  rw [hj] at hcall
  have f4 : w1.frozen? ⟨m, 4, none⟩ = false := frozenm hM1.blk 4
  have hml := block_lt hM1.blk
  have hsz1 := hM1.size
  unfold maxLen at hmo
  replace hcall := Lib.hid hcall
  replace hM1 := Lib.hid hM1
  replace h3 := Lib.hid h3
  replace hj := Lib.hid hj
  clear x0 x1 hio
  go_wp2_with (first | ((with_reducible refine wpList_mapget (by rfl) (.tmp 28) (.tmp 29) 84 (by rfl) mapTy b _ _ (by with_unfolding_all rfl) hM1.out.map q (by with_unfolding_all rfl) (wf_small (by omega) (by omega)) ?_); rw [hkn.out]; simp only [Option.getD_none, Option.isSome_none]) | (go_at_call 75; refine hcall.out.mono ?_; rintro e w2 ⟨rfl, rfl⟩) | (at_builtin; go_loud (with_reducible refine wpList_app1 (by rfl) (.tmp 57) (.tmp 59) 27 (by rfl) intTy E.B (.slice Ao st.open_.length co) st.open_.length (ints st.open_) (by with_unfolding_all rfl) (hM1.out.oo.alloc _) w1.heap.size 1 [.int .i64 q] (by with_unfolding_all rfl) (by with_unfolding_all rfl) ⟨_, _, heap_alloc_new w1 _, rfl⟩ (one_int _ _) ?_ ?_ ?_ ?_)))
  · unfold maxLen; omega
  · omega
  · simp; omega
  intro g cap w2 hown hgrow hat
  have hblk2 := (hM1.out.blk_grown hM1.out.nm.1 hgrow).trans hM1.out.blk
  have z4 : w2.cell? ⟨m, 4, none⟩ = some (.slice Ao st.open_.length co) := (cellm hblk2 4).trans rfl
  have fz4 : w2.frozen? ⟨m, 4, none⟩ = false := frozenm hblk2 4
  have hset := (hM1.out.alloc _).set_open (l := st.open_ ++ [(q : Int)]) hgrow (by simpa [ints_append, ints] using hown) (fun i hi => by cases hi; exact hat.imp id (fun e => by simp; omega))
  have hM3 := hset.1
  have t3 := (below_turn (below_al (Below.refl _ _) _)).trans hset.2
  obtain ⟨bt, ot, At', ct', et, hbt, ht0, ht1, ht2, htc, htm, htp⟩ := hE.out.sheet.tasks.at hM3.below q (by simpa using hql)
  have hbt3 := Nat.lt_of_lt_of_le hbt hM3.size
  simp only [List.getElem_map] at ht0 ht1 ht2 htc htp
  have w0 : (w2.setCell ⟨m, 4, none⟩ (.slice (some ⟨g, 0, none⟩) (st.open_.length + 1) cap)).cell? ⟨m, 1, none⟩ = some (.slice (some ⟨bt, ot, none⟩) S.tks.length E.ct) := by rw [← et]; exact (cellm hM3.blk 1).trans rfl
  have hrun := run_calls (MkI E S m n) (keyP S n) 44 #[.pointer (some ⟨m, 0, none⟩)] #[] E.B E.w0 (enters_of Try.func44 (by kernel_rfl) rfl) (MakerIs.holds E S m n)
    (fun s k w F h h0 h9 => by simpa using ih.out s k w F h0 h9 h) S.tks[q] At' ct' _ _ _ (hE.out.ok.tks _ (List.getElem_mem _)) ⟨⟨b, _, vc, vr, hM3, rfl⟩, hi1.out⟩ htc htp
  rw [hr.out] at hrun
  replace hrun := Lib.hid hrun
  replace t3 := Lib.hid t3
  replace hM3 := Lib.hid hM3
  replace et := Lib.hid et
  clear hown hgrow hat hset y3 y4 hblk2 htp htc htm hcall
  have hbm : bt ≠ m := fun e => by have := hM3.out.hm; omega
  generalize hw3 : w2.setCell ⟨m, 4, none⟩ (.slice (some ⟨g, 0, none⟩) (st.open_.length + 1) cap) = w3 at *
  go_wp2_with fail
  refine hrun.out.mono ?_
  rintro e w4 ⟨rfl, v1, v2, F4, ⟨⟨b4, vo4, vc4, vr4, hM4, rfl⟩, hi4⟩, t4⟩
  have tt := ((below_turn h3.out).trans t3.out).trans t4
  replace tt := Lib.hid tt
  clear z4 fz4 ht0 ht1 ht2 w0 hbt3 f4
  cases hok : r.1.2 with
  | false =>
    have hP2 := hP.out
    simp only [hok] at hP2
    replace hP2 := Lib.hid hP2
    go_wp2_with fail
    go_ret2
    rw [hP2.out]
    exact ⟨rfl, by simp, by simp, _, ⟨⟨b4, vo4, vc4, vr4, hM4, rfl⟩, by have := hinv.out.1; rw [hP2.out] at this; exact this⟩, tt.out⟩
  | true =>
    have hP2 := hP.out
    simp only [hok, if_true] at hP2
    have hop : r.2.open_ = st.open_ ++ [(q : Int)] := hpr.out.2.1 hok
    have hlen : r.2.open_.length = st.open_.length + 1 := by rw [hop]; simp
    have hol4 := inv_open hi4
    have hor4 := inv_order hi4
    have hoo4 := hM4.oo
    have hlm := hoo4.1
    rw [hop, ints_append] at hoo4
    have e1 : (st.open_ ++ [(q : Int)]).length = st.open_.length + 1 := by simp
    rw [e1] at hoo4
    obtain ⟨g4, co4, hvo, hBg, hgl⟩ := hoo4.form (by omega)
    subst hvo
    have hmo4 : st.open_.length + 1 ≤ co4 ∧ co4 ≤ maxLen := by
      rcases hoo4.2 with ⟨e, _⟩ | ⟨_, _, _, e, _, _, hc, hm, _⟩
      · cases e
      · cases e; exact ⟨hc, hm⟩
    obtain ⟨hlo4, hmo4⟩ := hmo4
    unfold maxLen at hmo4
    have hpop := ownsRow_pop (by simp [ints]) hoo4
    have y4 : w4.cell? ⟨m, 4, none⟩ = some (.slice (some ⟨g4, 0, none⟩) (st.open_.length + 1) co4) := (cellm hM4.blk 4).trans rfl
    have f4 : w4.frozen? ⟨m, 4, none⟩ = false := frozenm hM4.blk 4
    have h5 := hM4.set_open (l := st.open_) (World.grownBy.refl _ _) hpop (fun i hi => .inl hi)
    have hM5 := h5.1.drew
    have t5 := h5.2.drew
    have x3 : (w4.setCell ⟨m, 4, none⟩ (.slice (some ⟨g4, 0, none⟩) st.open_.length co4)).drew.cell? ⟨m, 3, none⟩ = some (.map (some b4)) := (cellm hM5.blk 3).trans rfl
    replace hlen := Lib.hid hlen
    replace hP2 := Lib.hid hP2
    replace hop := Lib.hid hop
    replace hi4 := Lib.hid hi4
    replace hM4 := Lib.hid hM4
    replace hM5 := Lib.hid hM5
    replace t5 := Lib.hid t5
    replace hol4 := Lib.hid hol4
    clear hpop hoo4 hlm e1 h5
    go_wp2_with fail
    go_region
    clear y4 f4
    generalize hw5 : (w4.setCell ⟨m, 4, none⟩ (.slice (some ⟨g4, 0, none⟩) st.open_.length co4)).drew = w5 at *
    go_wp2_with ((with_reducible refine wpList_mapput (by rfl) (.tmp 96) (.tmp 97) (.tmp 98) 84 (by rfl) mapTy b4 _ _ (by with_unfolding_all rfl) hM5.out.map ?_ (q : Int) r.1.1 (by with_unfolding_all rfl) (by with_unfolding_all rfl) (wf_small (by omega) (by omega)) (wf_small (by omega) (by omega)) ?_))
    · unfold maxLen; omega
    intro w6 hm6 hg6
    have h6 := hM5.out.set_map (f := upd r.2.known q r.1.1) hm6 hg6
    have hM6 := h6.1
    have t6 := h6.2
    obtain ⟨Ar, cr, er, hlr, hmr, _⟩ := ownsRow_ints hM6.or
    subst er
    have y6 : w6.cell? ⟨m, 6, none⟩ = some (.slice Ar r.2.order.length cr) := (cellm hM6.blk 6).trans rfl
    have hml6 := block_lt hM6.blk
    have hsz6 := hM6.size
    replace hM6 := Lib.hid hM6
    replace t6 := Lib.hid t6
    clear hm6 hg6 h6 x3
    go_wp2_with ((with_reducible refine wpList_app1 (by rfl) (.tmp 103) (.tmp 105) 27 (by rfl) intTy E.B (.slice Ar r.2.order.length cr) r.2.order.length (ints r.2.order) (by with_unfolding_all rfl) (hM6.out.or.alloc _) w6.heap.size 1 [.int .i64 q] (by with_unfolding_all rfl) (by with_unfolding_all rfl) ⟨_, _, heap_alloc_new w6 _, rfl⟩ (one_int _ _) ?_ ?_ ?_ ?_))
    · unfold maxLen; omega
    · omega
    · first | omega | (simp; omega)
    intro g7 cap7 w7 hown7 hgrow7 hat7
    have hblk7 := (hM6.out.blk_grown hM6.out.nm.2.2 hgrow7).trans hM6.out.blk
    have z6 : w7.cell? ⟨m, 6, none⟩ = some (.slice Ar r.2.order.length cr) := (cellm hblk7 6).trans rfl
    have fz6 : w7.frozen? ⟨m, 6, none⟩ = false := frozenm hblk7 6
    have h7 := (hM6.out.alloc _).set_order (l := r.2.order ++ [(q : Int)]) hgrow7 (by simpa [ints_append, ints] using hown7) (fun i hi => by cases hi; exact hat7.imp id (fun e => by simp; omega))
    replace h7 := Lib.hid h7
    clear hown7 hgrow7 hat7 hblk7 y6
    go_wp2_with fail
    go_ret2
    have e2 : r.2.open_.dropLast = st.open_ := by rw [hop.out]; simp
    have hP3 := hP2.out
    rw [e2] at hP3
    rw [hP3]
    refine ⟨rfl, hpr.out.2.2.1, hpr.out.2.2.2, _, ⟨⟨b4, _, vc4, _, ?_, rfl⟩, ?_⟩, ((tt.out.trans t5.out).trans t6.out).trans ((below_turn (below_al (Below.refl _ _) _)).trans h7.out.2)⟩
    · have := h7.out.1
      simpa [upd] using this
    · have := hinv.out.1
      rw [hP3] at this
      exact this

theorem key_calls (E : MkEnv) (S : Sh) (hE : E.Good S) (m : Nat) : ∀ (n : Nat) (st : MkSt) (k : Int) (w : World) (F : Nat → Prop), 0 ≤ k → k ≤ 9 → MkI E S m n st w F →
    Calls Try.prog 44 #[.pointer (some ⟨m, 0, none⟩), .int .i64 k] w (Gives (MkI E S m n) F w (keyP S n st k)) := by
  intro n
  induction n with
  | zero =>
    intro st k w F hk0 hk9 h
    cases hmk : mkK S.made k with
    | false => exact key_unmade E S hE m 0 st k w F hk0 hk9 h hmk
    | true =>
      cases hkn : st.known k with
      | some v => exact key_known E S hE m 0 st k v w F hk0 hk9 h hmk hkn
      | none =>
        by_cases ho : 0 ≤ idx (fun x => k == x) st.open_
        · exact key_opened E S hE m 0 st k w F hk0 hk9 h hmk hkn ho
        · have hkr := mkK_range (show mkK S.made k ≠ false by rw [hmk]; simp)
          have hno := not_open ho
          have h1 : (k :: st.open_).Nodup := List.nodup_cons.2 ⟨hno, h.2.nodup⟩
          have h2 := nodup_bound (n := S.made.length) h1 (fun x hx => by
            rcases List.mem_cons.1 hx with rfl | hx
            · exact hkr
            · exact h.2.range x hx)
          have h3 := h.2.fuel
          simp at h2
          omega
  | succ n ih =>
    intro st k w F hk0 hk9 h
    cases hmk : mkK S.made k with
    | false => exact key_unmade E S hE m (n + 1) st k w F hk0 hk9 h hmk
    | true =>
      cases hkn : st.known k with
      | some v => exact key_known E S hE m (n + 1) st k v w F hk0 hk9 h hmk hkn
      | none =>
        by_cases ho : 0 ≤ idx (fun x => k == x) st.open_
        · exact key_opened E S hE m (n + 1) st k w F hk0 hk9 h hmk hkn ho
        · exact key_new E S hE m n ih st k w F hk0 hk9 h hmk hkn ho
end Go.Proofs.Ytagmdljdcnmpdaa
