import Derived.Deep.QuietTactic
import Derived.BigQuiet
import Derived.Test.YtpccgdkidnkppaaPk8FnExactOrderFits
import Derived.Test.YtpccgdkidnkppaaPk9FnExactOrderFits
import Derived.Test.YtpccgdkidnkppaaPk14FnExactOrderFits
set_option linter.unusedVariables false
set_option linter.unusedSimpArgs false
namespace Go.Proofs.Ytpccgdkidnkppaa
open Go Go.RowKit

/-! l4Once in memory -/
abbrev onCs (E : MkEnv) (S : Sh) (vv vd vu : Value) : Array Value := #[.slice E.Am S.made.length E.cm, .slice E.At S.tks.length E.ct, vv, vd, vu]
abbrev onPs (E : MkEnv) (vv vd vu : Value) (st : OSt) : List Part := [rowP E.B 3 1 vv st.vals.length (ints st.vals), rowP E.B 3 1 vd st.done.length (ints st.done), rowP E.B 3 1 vu st.under.length (ints st.under)]
theorem ints_set (xs : List Int) (q : Nat) (x : Int) : (ints xs).set q (.int .i64 x) = ints (xs.set q x) := (List.map_set).symm
theorem onPs_under (E : MkEnv) (vv vd vu v : Value) (st : OSt) (k : Int) : (onPs E vv vd vu st).set 2 (rowP E.B 3 1 v (st.under.length + 1) (ints (st.under ++ [k]))) = onPs E vv vd v ⟨st.vals, st.done, st.under ++ [k]⟩ := by
  simp only [onPs, List.set, List.length_append, List.length_singleton]
theorem onPs_done (E : MkEnv) (vv vd vu v : Value) (st : OSt) (k : Int) : (onPs E vv vd vu st).set 1 (rowP E.B 3 1 v (st.done.length + 1) (ints (st.done ++ [k]))) = onPs E vv v vu ⟨st.vals, st.done ++ [k], st.under⟩ := by
  simp only [onPs, List.set, List.length_append, List.length_singleton]
theorem onPs_val (E : MkEnv) (vv vd vu : Value) (st : OSt) (q : Nat) (x : Int) : (onPs E vv vd vu st).set 0 (rowP E.B 3 1 vv st.vals.length ((ints st.vals).set q (.int .i64 x))) = onPs E vv vd vu ⟨st.vals.set q x, st.done, st.under⟩ := by
  simp only [onPs, List.set, List.length_set, ints_set]
abbrev OnAt (E : MkEnv) (S : Sh) (m : Nat) (vv vd vu : Value) (st : OSt) (w : World) : Prop := ObjAt E.B E.w0 m 104 (onCs E S vv vd vu) (onPs E vv vd vu st) w
def OnI (E : MkEnv) (S : Sh) (m : Nat) (st : OSt) (w : World) (F : Nat → Prop) : Prop := ∃ vv vd vu, OnAt E S m vv vd vu st w ∧ F = Foot m (onPs E vv vd vu st)
section
variable {E : MkEnv} {S : Sh} {m : Nat} {vv vd vu : Value} {st : OSt} {w w' : World}
theorem OnAt.cells (h : OnAt E S m vv vd vu st w) : w.cell? ⟨m, 0, none⟩ = some (.slice E.Am S.made.length E.cm) ∧ w.cell? ⟨m, 1, none⟩ = some (.slice E.At S.tks.length E.ct) ∧ w.cell? ⟨m, 2, none⟩ = some vv ∧
    w.cell? ⟨m, 3, none⟩ = some vd ∧ w.cell? ⟨m, 4, none⟩ = some vu ∧ w.frozen? ⟨m, 3, none⟩ = false ∧ w.frozen? ⟨m, 4, none⟩ = false ∧ m < w.heap.size :=
  ⟨h.cell 0, h.cell 1, h.cell 2, h.cell 3, h.cell 4, h.frozen 3, h.frozen 4, h.lt⟩
theorem OnAt.vals (h : OnAt E S m vv vd vu st w) : w.ownsRow E.B 3 1 vv st.vals.length (ints st.vals) := ObjAt.row h 0 rfl
theorem OnAt.done (h : OnAt E S m vv vd vu st w) : w.ownsRow E.B 3 1 vd st.done.length (ints st.done) := ObjAt.row h 1 rfl
theorem OnAt.und (h : OnAt E S m vv vd vu st w) : w.ownsRow E.B 3 1 vu st.under.length (ints st.under) := ObjAt.row h 2 rfl
theorem OnAt.val_at (h : OnAt E S m vv vd vu st w) {q : Nat} (hq : q < st.vals.length) : ∃ g c, vv = .slice (some ⟨g, 0, none⟩) st.vals.length c ∧ w.cell? ⟨g, q, none⟩ = some (.int .i64 st.vals[q]) ∧ w.frozen? ⟨g, q, none⟩ = false ∧ g < w.heap.size ∧ st.vals.length ≤ c ∧ c ≤ maxLen := by
  have ho := h.vals
  obtain ⟨A, c, rfl, h1, h2, h3⟩ := ownsRow_ints ho
  obtain ⟨b, o, e, hb, hc⟩ := h3 q hq
  subst e
  obtain ⟨g, co, e, hg, hgl⟩ := ho.form (by omega)
  cases e
  refine ⟨b, c, rfl, by simpa using hc, ?_, hgl, h1, h2⟩
  obtain ⟨_, ⟨h2, _⟩ | ⟨g', cap', cur, h2, h3, h4, _⟩⟩ := ho
  · cases h2
  · cases h2; exact frozenm h4 q
end

set_option maxHeartbeats 2000000 in
theorem okey_unmade (E : MkEnv) (S : Sh) (hE : E.Good S) (m n : Nat) (st : OSt) (k : Int) (w : World) (F : Nat → Prop) (hk0 : 0 ≤ k) (hk9 : k ≤ 9) (hi : OInv S n st) (h : OnI E S m st w F) (hmk : mkK S.made k = false) :
    Calls Try.prog 85 #[.pointer (some ⟨m, 0, none⟩), .int .i64 k] w (Gives (OnI E S m) F w (onceP S n st k)) := by
  rw [onceP_unmade hmk]
  obtain ⟨vv, vd, vu, hM, rfl⟩ := h
  obtain ⟨x0, x1, x2, x3, x4, f3, f4, hz⟩ := hM.cells
  obtain ⟨q, rfl⟩ := Int.eq_ofNat_of_zero_le hk0
  have hten := hE.ok.ten
  have hav := hi.at q
  by_cases hq : q < S.made.length
  · have hqv : q < st.vals.length := by have := hi.vlen; omega
    have hmq : S.made[q] = false := by
      unfold mkK at hmk
      rw [if_neg (by omega), Int.toNat_natCast, getD_at _ hq] at hmk
      exact hmk
    have hat : atK st.vals q = st.vals[q] := atK_in hqv
    obtain ⟨bm, om, em, hbm, cm⟩ := hE.sheet.made.at hM.below hM.size q hq
    obtain ⟨g, c, rfl, cv, -, hgl, hcl, hcm⟩ := hM.val_at hqv
    rw [em] at x0
    simp only [hmq] at cm
    rw [hat] at hav ⊢
    unfold maxLen at hcm
    replace hM := Lib.hid hM
    replace hE := Lib.hid hE
    replace hi := Lib.hid hi
    clear hat hmq hmk x3 x4 f3 f4
    go_enter Try.func85, Try.ntmps85
    go_wp2_with fail
    go_ret2
    exact ⟨rfl, hav.1, hav.2, _, ⟨_, vd, vu, hM.out, rfl⟩, Turn.refl _ _⟩
  · have hat : atK st.vals q = 0 := atK_out (by have := hi.vlen; omega)
    rw [hat]
    replace hM := Lib.hid hM
    clear hE hmk hat hav hi
    go_enter Try.func85, Try.ntmps85
    go_wp2_with fail
    go_ret2
    exact ⟨rfl, by simp, by simp, _, ⟨vv, vd, vu, hM.out, rfl⟩, Turn.refl _ _⟩

set_option maxHeartbeats 2000000 in
theorem okey_made (E : MkEnv) (S : Sh) (hE : E.Good S) (m n : Nat) (st : OSt) (k : Int) (w : World) (F : Nat → Prop) (hk0 : 0 ≤ k) (hk9 : k ≤ 9) (hi : OInv S n st) (h : OnI E S m st w F) (hmk : mkK S.made k = true) (hsome : st.done.contains k = true ∨ st.under.contains k = true) :
    Calls Try.prog 85 #[.pointer (some ⟨m, 0, none⟩), .int .i64 k] w (Gives (OnI E S m) F w (onceP S n st k)) := by
  obtain ⟨vv, vd, vu, hM, rfl⟩ := h
  obtain ⟨x0, x1, x2, x3, x4, f3, f4, hz⟩ := hM.cells
  obtain ⟨q, rfl⟩ := Int.eq_ofNat_of_zero_le hk0
  have hten := hE.ok.ten
  have hav := hi.at q
  obtain ⟨hq, hmq⟩ := made_at hmk
  have hqv : q < st.vals.length := by have := hi.vlen; omega
  have hat : atK st.vals q = st.vals[q] := atK_in hqv
  obtain ⟨bm, om, em, hbm, cm⟩ := hE.sheet.made.at hM.below hM.size q hq
  obtain ⟨g, c, rfl, cv, -, hgl, hcl, hcm⟩ := hM.val_at hqv
  obtain ⟨Ad, cd, rfl, hd1, hd2, hd3⟩ := ownsRow_ints hM.done
  obtain ⟨Au, cu, rfl, hu1, hu2, hu3⟩ := ownsRow_ints hM.und
  have hcd := l2Has_calls Ad cd st.done q w.heap.size w w (Below.refl _ _) (Nat.le_refl _) (Nat.le_trans hd1 hd2) hd3
  have hcu := l2Has_calls Au cu st.under q w.heap.size w w (Below.refl _ _) (Nat.le_refl _) (Nat.le_trans hu1 hu2) hu3
  rw [em] at x0
  simp only [hmq] at cm
  unfold maxLen at hcm
  cases hd : st.done.contains (q : Int) with
  | true =>
    rw [onceP_done hmk hd]
    rw [hd] at hcd
    rw [hat] at hav ⊢
    replace hM := Lib.hid hM
    replace hE := Lib.hid hE
    replace hi := Lib.hid hi
    replace hd := Lib.hid hd
    replace hcd := Lib.hid hcd
    clear hat hmq hmk f3 f4 hcu hsome hd3 hu3
    go_enter Try.func85, Try.ntmps85
    go_wp2_with fail
    refine hcd.out.mono ?_
    rintro e w1 ⟨rfl, rfl⟩
    go_wp2_with fail
    go_ret2
    exact ⟨rfl, hav.1, hav.2, _, ⟨_, _, _, hM.out, rfl⟩, Turn.refl _ _⟩
  | false =>
    have hu : st.under.contains (q : Int) = true := hsome.resolve_left (by rw [hd]; simp)
    rw [onceP_under hmk hd hu]
    rw [hd] at hcd
    rw [hu] at hcu
    replace hM := Lib.hid hM
    replace hE := Lib.hid hE
    replace hi := Lib.hid hi
    replace hd := Lib.hid hd
    replace hu := Lib.hid hu
    replace hcd := Lib.hid hcd
    replace hcu := Lib.hid hcu
    clear hat hmq hmk f3 f4 hsome hd3 hu3 hav
    go_enter Try.func85, Try.ntmps85
    go_wp2_with fail
    refine hcd.out.mono ?_
    rintro e w1 ⟨rfl, rfl⟩
    go_wp2_with fail
    refine hcu.out.mono ?_
    rintro e w1 ⟨rfl, rfl⟩
    go_wp2_with fail
    go_ret2
    exact ⟨rfl, by simp, by simp, _, ⟨_, _, _, hM.out, rfl⟩, Turn.refl _ _⟩

set_option maxRecDepth 5000 in
set_option maxHeartbeats 8000000 in
theorem okey_new (E : MkEnv) (S : Sh) (hE : E.Good S) (m n : Nat)
    (ih : ∀ (st : OSt) (k : Int) (w : World) (F : Nat → Prop), 0 ≤ k → k ≤ 9 → OInv S n st → OnI E S m st w F →
      Calls Try.prog 85 #[.pointer (some ⟨m, 0, none⟩), .int .i64 k] w (Gives (OnI E S m) F w (onceP S n st k)))
    (st : OSt) (k : Int) (w : World) (F : Nat → Prop) (hk0 : 0 ≤ k) (hk9 : k ≤ 9) (hi : OInv S (n + 1) st) (h : OnI E S m st w F) (hmk : mkK S.made k = true) (hd : st.done.contains k = false) (hu : st.under.contains k = false) :
    Calls Try.prog 85 #[.pointer (some ⟨m, 0, none⟩), .int .i64 k] w (Gives (OnI E S m) F w (onceP S (n + 1) st k)) := by
  have hinv1 := onceP_inv hE.ok (n + 1) st k hi
  have hP := onceP_new (n := n) hmk hd hu
  obtain ⟨vv, vd, vu, hM, rfl⟩ := h
  obtain ⟨x0, x1, x2, x3, x4, f3, f4, hz⟩ := hM.cells
  obtain ⟨q, rfl⟩ := Int.eq_ofNat_of_zero_le hk0
  have hten := hE.ok.ten
  obtain ⟨hq, hmq⟩ := made_at hmk
  have hku : (q : Int) ∉ st.under := by simpa using hu
  have hkd : (q : Int) ∉ st.done := by simpa using hd
  have hi1 : OInv S n ⟨st.vals, st.done, st.under ++ [(q : Int)]⟩ := ⟨hi.vlen, hi.vals, hi.done, hi.nodup, hi.range, hi.under.push hku (mkK_range (show mkK S.made q ≠ false by rw [hmk]; simp)), fun x hx => (List.mem_append.1 hx).elim (hi.apart x) (fun e => by rw [List.mem_singleton.1 e]; exact hkd)⟩
  have hql : q < S.tks.length := by have := hE.ok.len; omega
  have hul := hi.under.len
  rw [tk_at hql] at hP
  have hok := hE.ok.tks S.tks[q] (List.getElem_mem _)
  have hfs : S.tks[q].fets ≤ 100 := fets_small (hE.ok.okT hql)
  obtain ⟨Q, hQ⟩ : ∃ Q, S.tks[q].itr.run (onceP S n) ⟨st.vals, st.done, st.under ++ [(q : Int)]⟩ = Q := ⟨_, rfl⟩
  rw [hQ] at hP
  have hQi := Itr.run_keeps (f := onceP S n) (J := fun s => OInv S n s ∧ s.under = st.under ++ [(q : Int)]) (fun s j h _ _ => ⟨(onceP_inv hE.ok n s j h.1).1, ((onceP_inv hE.ok n s j h.1).2.1).trans h.2⟩) S.tks[q].itr _ (Tk.itr_ok _ hok) ⟨hi1, rfl⟩
  rw [hQ] at hQi
  have hstep := fun (s : OSt) (j : Int) (hs : OInv S n s ∧ s.under = st.under ++ [(q : Int)]) => (⟨(onceP_inv hE.ok n s j hs.1).1, ((onceP_inv hE.ok n s j hs.1).2.1).trans hs.2⟩ : OInv S n (onceP S n s j).2 ∧ (onceP S n s j).2.under = st.under ++ [(q : Int)])
  obtain ⟨bm, om, em, hbm, cm⟩ := hE.sheet.made.at hM.below hM.size q hq
  rw [em] at x0
  simp only [hmq] at cm
  obtain ⟨Ad, cd, evd, hd1, hd2, hd3⟩ := ownsRow_ints hM.done
  obtain ⟨Au, cu, evu, hu1, hu2, hu3⟩ := ownsRow_ints hM.und
  subst evd evu
  have hcd := l2Has_calls Ad cd st.done q w.heap.size w w (Below.refl _ _) (Nat.le_refl _) (Nat.le_trans hd1 hd2) hd3
  have hcu := l2Has_calls Au cu st.under q w.heap.size w w (Below.refl _ _) (Nat.le_refl _) (Nat.le_trans hu1 hu2) hu3
  rw [hd] at hcd
  rw [hu] at hcu
  unfold maxLen at hu2 hd2
  have hsz := hM.size
  have hdl := hi.done
  have hvl := hi.vlen
  replace hM := Lib.hid hM
  replace hE := Lib.hid hE
  replace ih := Lib.hid ih
  replace hi1 := Lib.hid hi1
  replace hi := Lib.hid hi
  replace hQ := Lib.hid hQ
  replace hQi := Lib.hid hQi
  replace hstep := Lib.hid hstep
  replace hP := Lib.hid hP
  replace hok := Lib.hid hok
  replace hcd := Lib.hid hcd
  replace hcu := Lib.hid hcu
  replace em := Lib.hid em
  replace hinv1 := Lib.hid hinv1
  replace hvl := Lib.hid hvl
  clear hmk hmq hd hu hku hkd hd3 hu3
  go_enter Try.func85, Try.ntmps85
  go_wp2_with fail
  refine hcd.out.mono ?_
  rintro e w1 ⟨rfl, rfl⟩
  go_wp2_with fail
  refine hcu.out.mono ?_
  rintro e w1 ⟨rfl, rfl⟩
  go_wp2_with (at_builtin; go_loud (with_reducible refine wpList_app1 (by rfl) (.tmp 54) (.tmp 56) 26 (by rfl) intTy E.B (.slice Au st.under.length cu) st.under.length (ints st.under) (by with_unfolding_all rfl) (hM.out.und.alloc _) w.heap.size 1 [.int .i64 q] (by with_unfolding_all rfl) (by with_unfolding_all rfl) ⟨_, _, heap_alloc_new w _, rfl⟩ (one_int _ _) ?_ ?_ ?_ ?_))
  · unfold maxLen; omega
  · omega
  · simp; omega
  intro g cap w2 hown hgrow hat
  have hMa := hM.out.alloc (.cells #[.int .i64 q] 3 (0, 0))
  have hblk2 := (hgrow.block m (block_lt hMa.blk) (fun e => hMa.far _ (List.mem_of_getElem? (i := 2) rfl) e.symm)).trans hMa.blk
  have z4 : w2.cell? ⟨m, 4, none⟩ = some (.slice Au st.under.length cu) := (cellm hblk2 4).trans rfl
  have fz4 : w2.frozen? ⟨m, 4, none⟩ = false := frozenm hblk2 4
  have hset := hMa.set_row 2 4 rfl (xs' := ints (st.under ++ [(q : Int)])) hgrow (by simpa [ints_append, ints] using hown) (fun i hi => by cases hi; exact hat.imp id (fun e => by simp at e ⊢; omega))
  have hM3 : OnAt E S m vv (.slice Ad st.done.length cd) (.slice (some ⟨g, 0, none⟩) (st.under.length + 1) cap) ⟨st.vals, st.done, st.under ++ [(q : Int)]⟩ (w2.setCell ⟨m, 4, none⟩ (.slice (some ⟨g, 0, none⟩) (st.under.length + 1) cap)) := by
    have := hset.1
    rw [onPs_under] at this
    exact this
  have t3 := (below_turn (F := Foot m (onPs E vv (.slice Ad st.done.length cd) (.slice Au st.under.length cu) st)) (below_al (Below.refl w.heap.size w) (.cells #[.int .i64 q] 3 (0, 0)))).trans hset.2
  rw [onPs_under] at t3
  have hzm2 := block_lt hblk2
  replace hM3 := Lib.hid hM3
  replace t3 := Lib.hid t3
  clear hown hgrow hat hMa hblk2 hset x0 x1 x2 x3 x4 f3 f4 cm hcd hcu
  obtain ⟨bt, ot, At', ct', et, hbt, ht0, ht1, ht2, htc, htm, htp⟩ := hE.out.sheet.tasks.at hM3.out.below q (by simpa using hql)
  simp only [List.getElem_map] at ht0 ht1 ht2 htc htp
  have hbt3 := Nat.lt_of_lt_of_le hbt hM3.out.size
  obtain ⟨y0, y1, y2, y3, y4, e3, e4, hzm⟩ := hM3.out.cells
  rw [et] at y1
  replace htp := Lib.hid htp
  generalize hw3 : w2.setCell ⟨m, 4, none⟩ (.slice (some ⟨g, 0, none⟩) (st.under.length + 1) cap) = w3 at *
  have hst0 := LpO.start hM3.out t3.out hsz
  have hnx := l2Next_calls S.tks[q] At' ct' [] (some ⟨w3.heap.size, 0, none⟩) 0 E.B E.w0 _ hst0.ob.below hst0.ob.size hok.out htc htp.out (RowAt.nil _ _ _ _) (fun x hx => (by cases hx)) (by simp)
  replace hnx := Lib.hid hnx
  replace hst0 := Lib.hid hst0
  go_wp2_with fail
  refine hnx.out.mono ?_
  rintro e w4 ⟨rfl, v0, v1, hb4⟩
  have hst4 := hst0.out.up hb4
  have hvv : 0 ≤ (nextP S.tks[q].itr []).1 ∧ (nextP S.tks[q].itr []).1 ≤ 96 := ⟨v0, v1⟩
  replace hst4 := Lib.hid hst4
  replace hvv := Lib.hid hvv
  clear hnx hst0 hb4 v0 v1 y0 y1 y2 y3 y4 e3 e4 hzm ht0 ht1 ht2 hbt3 hM3 t3 hw3 z4 fz4 hzm2
  go_wp2_with fail
  go_loopw [6, 7, 8, 9] (fun a v ky o ws => ∃ (got : List Int) (s1 : OSt) (vv1 vd1 vu1 : Value), got.length ≤ S.tks[q].fets ∧ v = .int .i64 (nextP S.tks[q].itr got).1 ∧ ky = .int .i64 (nextP S.tks[q].itr got).2.1 ∧ o = .bool (nextP S.tks[q].itr got).2.2 ∧
    Hid (LpO E.B E.w0 m 104 (onCs E S vv1 vd1 vu1) (onPs E vv1 vd1 vu1 s1) w (Foot m (onPs E vv (.slice Ad st.done.length cd) (.slice Au st.under.length cu) st)) got a ws) ∧ Hid (OInv S n s1 ∧ s1.under = st.under ++ [(q : Int)]) ∧
    Hid (Q = (S.tks[q].itr.walk got).run (onceP S n) s1) ∧ Hid (0 ≤ (nextP S.tks[q].itr got).1 ∧ (nextP S.tks[q].itr got).1 ≤ 96) ∧ lenOf a = got.length) (fun a _ _ _ _ => S.tks[q].fets - lenOf a)
  case atStart => exact ⟨[], _, _, _, _, Nat.zero_le _, rfl, rfl, rfl, hst4, Lib.hid ⟨hi1.out, rfl⟩, Lib.hid (by rw [← hQ.out, Itr.walk_nil]), hvv, rfl⟩
  case round =>
    obtain ⟨got, s1, vv1, vd1, vu1, hgl, rfl, rfl, rfl, hL, hI1, hEq, hvv, hla⟩ := hrel
    cases hw : S.tks[q].itr.walk got with
    | done x =>
      obtain ⟨n1, n2⟩ := nextP_done hw
      have he := hEq.out
      rw [hw] at he
      have he2 : Q = ((x, true), s1) := he
      have hx := hvv.out
      rw [n1] at hx
      rw [n1, n2]
      have hP2 := hP.out
      rw [he2] at hP2
      have hob := hL.out.ob
      have hun := hI1.out.2
      rw [he2] at hQi
      have hqi := hQi.out.1
      have hps : (onPs E vv1 vd1 vu1 s1)[2]? = some (rowP E.B 3 1 vu1 (st.under ++ [(q : Int)]).length (ints (st.under ++ [(q : Int)]))) := by rw [← hun]; rfl
      obtain ⟨gp, cp, evu, hcp, hcpm, hgp, hBp, hpop1, hpop2⟩ := hob.pop_row 2 4 hps
      subst evu
      obtain ⟨x0, x1, x2, x3, x4, f3, f4, hz⟩ := OnAt.cells hob
      unfold maxLen at hcpm
      have hqv : q < s1.vals.length := Nat.lt_of_lt_of_eq hq hqi.vlen.symm
      have hO1 : OnAt E S m vv1 vd1 (.slice (some ⟨gp, 0, none⟩) st.under.length cp) ⟨s1.vals, s1.done, st.under⟩ (wr.setCell ⟨m, 4, none⟩ (.slice (some ⟨gp, 0, none⟩) st.under.length cp)).drew := by
        have := hpop1.drew
        simpa [onPs] using this
      have t1 : Turn (Foot m (onPs E vv1 vd1 (.slice (some ⟨gp, 0, none⟩) (st.under.length + 1) cp) s1)) (Foot m (onPs E vv1 vd1 (.slice (some ⟨gp, 0, none⟩) st.under.length cp) ⟨s1.vals, s1.done, st.under⟩)) wr (wr.setCell ⟨m, 4, none⟩ (.slice (some ⟨gp, 0, none⟩) st.under.length cp)).drew := by
        have := hpop2.drew
        simpa [onPs] using this
      have t1' := hL.out.turn.trans t1
      have hxx := hx
      have hsd : s1.done.length ≤ 10 := Nat.le_trans hqi.done hten
      replace hx := Lib.hid hx
      replace hP2 := Lib.hid hP2
      replace hO1 := Lib.hid hO1
      replace t1' := Lib.hid t1'
      replace hvx := Lib.hid hxx
      clear hw n1 n2 he he2 hEq hvv hL hst4 htp hob hun hqi hps hpop1 hpop2 hI1 t1 hQi x0 x1 x2 x3 f3 hxx hQ
      go_wp2_with fail
      go_region
      generalize hW1 : (wr.setCell ⟨m, 4, none⟩ (.slice (some ⟨gp, 0, none⟩) st.under.length cp)).drew = W1 at *
      obtain ⟨x0, x1, x2, x3, x4', f3, f4', hz'⟩ := OnAt.cells hO1.out
      obtain ⟨gv, cv, ev, c1, f1, hgv, hcv, hcvm⟩ := OnAt.val_at hO1.out hqv
      subst ev
      unfold maxLen at hcvm
      obtain ⟨p1, p2⟩ := hO1.out.put_row 0 q rfl (.int .i64 x) hqv
      have hO2 : OnAt E S m (.slice (some ⟨gv, 0, none⟩) s1.vals.length cv) vd1 (.slice (some ⟨gp, 0, none⟩) st.under.length cp) ⟨s1.vals.set q x, s1.done, st.under⟩ (W1.setCell ⟨gv, q, none⟩ (.int .i64 x)) := by
        rw [onPs_val] at p1
        exact p1
      have t2 : Turn (Foot m (onPs E (.slice (some ⟨gv, 0, none⟩) s1.vals.length cv) vd1 (.slice (some ⟨gp, 0, none⟩) st.under.length cp) ⟨s1.vals, s1.done, st.under⟩)) (Foot m (onPs E (.slice (some ⟨gv, 0, none⟩) s1.vals.length cv) vd1 (.slice (some ⟨gp, 0, none⟩) st.under.length cp) ⟨s1.vals.set q x, s1.done, st.under⟩)) W1 (W1.setCell ⟨gv, q, none⟩ (.int .i64 x)) := by
        rw [onPs_val] at p2
        exact p2
      have t2' := t1'.out.trans t2
      obtain ⟨z0, z1, z2, z3, z4, g3, g4, hz2⟩ := OnAt.cells hO2
      obtain ⟨A1, cd1, ed1, k1, k2, -⟩ := ownsRow_ints hO2.done
      subst ed1
      have hszB := hO2.size
      replace hO2 := Lib.hid hO2
      replace t2' := Lib.hid t2'
      clear p1 p2 t2 t1' hO1 hW1 x4 f4 hz
      clear z0 z1 z2 z4 g4
      go_wp2_with (at_builtin; go_loud (with_reducible refine wpList_app1 (by rfl) (.tmp 130) (.tmp 132) 26 (by rfl) intTy E.B (.slice A1 s1.done.length cd1) s1.done.length (ints s1.done) (by with_unfolding_all rfl) ((OnAt.done hO2.out).alloc _) W1.heap.size 1 [.int .i64 q] (by with_unfolding_all rfl) (by with_unfolding_all rfl) ⟨_, _, heap_new (by rw [World.size_setCell]), rfl⟩ (one_int _ _) ?_ ?_ ?_ ?_))
      · unfold maxLen; omega
      · omega
      · first | omega | (simp; omega) | (simp at hszB ⊢; omega)
      intro g7 cap7 w7 hown7 hgrow7 hat7
      have hMb := hO2.out.alloc (.cells #[.int .i64 q] 3 (0, 0))
      have hblk7 := (hgrow7.block m (block_lt hMb.blk) (fun e => hMb.far _ (List.mem_of_getElem? (i := 1) rfl) e.symm)).trans hMb.blk
      have z5 : w7.cell? ⟨m, 3, none⟩ = some (.slice A1 s1.done.length cd1) := (cellm hblk7 3).trans rfl
      have fz5 : w7.frozen? ⟨m, 3, none⟩ = false := frozenm hblk7 3
      have hset7 := hMb.set_row 1 3 rfl (xs' := ints (s1.done ++ [(q : Int)])) hgrow7 (by simpa [ints_append, ints] using hown7) (fun i hi => by cases hi; exact hat7.imp id (fun e => by simp at e ⊢; omega))
      have hO3 : OnAt E S m (.slice (some ⟨gv, 0, none⟩) s1.vals.length cv) (.slice (some ⟨g7, 0, none⟩) (s1.done.length + 1) cap7) (.slice (some ⟨gp, 0, none⟩) st.under.length cp) ⟨s1.vals.set q x, s1.done ++ [(q : Int)], st.under⟩ (w7.setCell ⟨m, 3, none⟩ (.slice (some ⟨g7, 0, none⟩) (s1.done.length + 1) cap7)) := by
        have := hset7.1
        rw [onPs_done] at this
        exact this
      have t3 : Turn (Foot m (onPs E vv (.slice Ad st.done.length cd) (.slice Au st.under.length cu) st)) (Foot m (onPs E (.slice (some ⟨gv, 0, none⟩) s1.vals.length cv) (.slice (some ⟨g7, 0, none⟩) (s1.done.length + 1) cap7) (.slice (some ⟨gp, 0, none⟩) st.under.length cp) ⟨s1.vals.set q x, s1.done ++ [(q : Int)], st.under⟩)) w (w7.setCell ⟨m, 3, none⟩ (.slice (some ⟨g7, 0, none⟩) (s1.done.length + 1) cap7)) := by
        have := (t2'.out.alloc (.cells #[.int .i64 q] 3 (0, 0))).trans hset7.2
        rw [onPs_done] at this
        exact this
      replace hO3 := Lib.hid hO3
      replace t3 := Lib.hid t3
      clear hown7 hgrow7 hat7 hMb hblk7 hset7 hO2 t2'
      go_wp2_with fail
      go_ret2
      rw [hP2.out]
      dsimp only
      rw [if_pos trivial, Int.toNat_natCast]
      exact ⟨rfl, hvx.out.1, hvx.out.2, _, ⟨_, _, _, hO3.out, rfl⟩, t3.out⟩
    | ask ky ct =>
      have hnp := nextP_ask hw
      have hkr := Itr.walk_ok got _ (Tk.itr_ok _ hok.out)
      rw [hw] at hkr
      obtain ⟨hk0', hk9', -⟩ := hkr
      have hglt := Itr.walk_le got _ _ (Tk.itr_le S.tks[q]) ky ct hw
      rw [hnp]
      have hcall := ih.out s1 ky wr _ hk0' hk9' hI1.out.1 ⟨vv1, vd1, vu1, hL.out.ob, rfl⟩
      have he := hEq.out
      rw [hw] at he
      have hI2 := hstep.out s1 ky hI1.out
      obtain ⟨X, hX⟩ : ∃ X, onceP S n s1 ky = X := ⟨_, rfl⟩
      rw [hX] at hcall hI2
      replace hcall := Lib.hid hcall
      replace he := Lib.hid he
      replace hX := Lib.hid hX
      replace hnp := Lib.hid hnp
      replace hw := Lib.hid hw
      replace hI2 := Lib.hid hI2
      clear hEq hvv hst4
      go_wp2_with fail
      refine hcall.out.mono ?_
      rintro e w5 ⟨rfl, p0, p1, F5, ⟨vv5, vd5, vu5, hs5, rfl⟩, t5⟩
      have hL5 := hL.out.key hs5 t5
      replace hL5 := Lib.hid hL5
      clear hcall hs5 t5 hL
      cases hfin : X.1.2 with
      | false =>
        have he2 : Q = ((0, false), X.2) := by rw [he.out, Itr.run_no (by rw [hX.out, hfin]; simp), hX.out]
        have hP2 := hP.out
        rw [he2] at hP2
        have hob := hL5.out.ob
        have hps : (onPs E vv5 vd5 vu5 X.2)[2]? = some (rowP E.B 3 1 vu5 (st.under ++ [(q : Int)]).length (ints (st.under ++ [(q : Int)]))) := by rw [← hI2.out.2]; rfl
        obtain ⟨gp, cp, evu, hcp, hcpm, hgp, hBp, hpop1, hpop2⟩ := hob.pop_row 2 4 hps
        subst evu
        obtain ⟨x0, x1, x2, x3, x4, f3, f4, hz⟩ := OnAt.cells hob
        unfold maxLen at hcpm
        have hO1 : OnAt E S m vv5 vd5 (.slice (some ⟨gp, 0, none⟩) st.under.length cp) ⟨X.2.vals, X.2.done, st.under⟩ (w5.setCell ⟨m, 4, none⟩ (.slice (some ⟨gp, 0, none⟩) st.under.length cp)).drew := by
          have := hpop1.drew
          simpa [onPs] using this
        have t1 : Turn (Foot m (onPs E vv5 vd5 (.slice (some ⟨gp, 0, none⟩) (st.under.length + 1) cp) X.2)) (Foot m (onPs E vv5 vd5 (.slice (some ⟨gp, 0, none⟩) st.under.length cp) ⟨X.2.vals, X.2.done, st.under⟩)) w5 (w5.setCell ⟨m, 4, none⟩ (.slice (some ⟨gp, 0, none⟩) st.under.length cp)).drew := by
          have := hpop2.drew
          simpa [onPs] using this
        have t1' := hL5.out.turn.trans t1
        replace hP2 := Lib.hid hP2
        replace hO1 := Lib.hid hO1
        replace t1' := Lib.hid t1'
        clear he2 hL5 he hX htp hob hps hpop1 hpop2 t1 x0 x1 x2 x3 f3 hQi
        go_wp2_with fail
        go_region
        go_wp2_with fail
        go_ret2
        rw [hP2.out]
        exact ⟨rfl, by simp, by simp, _, ⟨_, _, _, hO1.out, rfl⟩, t1'.out⟩
      | true =>
        have he2 : Q = ((S.tks[q].itr.walk (got ++ [X.1.1])).run (onceP S n) X.2) := by
          rw [he.out, Itr.run_yes (by rw [hX.out, hfin]), hX.out, Itr.walk_append, hw.out, Itr.walk, Itr.walk_nil]
        obtain ⟨Ag, cg, evg, hlg, hmg, hig⟩ := ownsRow_ints hL5.out.own
        subst evg
        replace he2 := Lib.hid he2
        have hL5a := hL5.out.up (below_al (Below.refl _ _) (.cells #[.int .i64 X.1.1] 3 (0, 0)))
        have hsz5 := hL5a.turn.size
        replace hL5a := Lib.hid hL5a
        clear hig he hX
        go_wp2_with (at_builtin; go_loud (with_reducible refine wpList_app1 (by rfl) (.tmp 85) (.tmp 87) 26 (by rfl) intTy w.heap.size (.slice Ag got.length cg) got.length (ints got) (by with_unfolding_all rfl) hL5a.out.own w5.heap.size 1 [.int .i64 X.1.1] (by with_unfolding_all rfl) (by with_unfolding_all rfl) ⟨_, _, heap_alloc_new w5 _, rfl⟩ (one_int _ _) ?_ ?_ ?_ ?_))
        · unfold maxLen; omega
        · omega
        · exact hsz5
        intro g6 cap6 w6 hown6 hgrow6 hat6
        have hL6 := hL5.out.app (x := X.1.1) (v' := .slice (some ⟨g6, 0, none⟩) (got.length + 1) cap6) hgrow6 hown6 ⟨p0, p1⟩ (fun i hi => by cases hi; exact hat6.imp id (fun e => by simp at e ⊢; omega))
        obtain ⟨y0, y1, y2, y3, y4, e3, e4, hzm⟩ := OnAt.cells hL6.ob
        obtain ⟨bt, ot, At', ct', et2, hbt, ht0, ht1, ht2, htc, htm, htp⟩ := hE.out.sheet.tasks.at hL6.ob.below q (by simpa using hql)
        simp only [List.getElem_map] at ht0 ht1 ht2 htc htp
        have hbt3 := Nat.lt_of_lt_of_le hbt hL6.ob.size
        rw [et2] at y1
        obtain ⟨Ah, ch, eh, hlh, hmh, hih⟩ := ownsRow_ints hL6.own
        have hlen6 : (got ++ [X.1.1]).length = got.length + 1 := by simp
        have eh2 := eh
        rw [hlen6] at eh2
        simp only [Value.slice.injEq, true_and] at eh2
        obtain ⟨rfl, rfl⟩ := eh2
        have hnx := l2Next_calls S.tks[q] At' ct' (got ++ [X.1.1]) (some ⟨g6, 0, none⟩) cap6 E.B E.w0 w6 hL6.ob.below hL6.ob.size hok.out htc htp hih hL6.vals (by simp; omega)
        rw [hlen6] at hnx
        replace hnx := Lib.hid hnx
        replace hL6 := Lib.hid hL6
        replace hlen6 := Lib.hid hlen6
        replace htp := Lib.hid htp
        clear hown6 hgrow6 hat6 hL5 hL5a eh hih
        go_wp2_with fail
        refine hnx.out.mono ?_
        rintro e w7 ⟨rfl, v0, v1, hb7⟩
        have hL7 := hL6.out.up hb7
        replace hL7 := Lib.hid hL7
        clear hnx hL6 hb7 y0 y1 y2 y3 y4 e3 e4 hzm ht0 ht1 ht2
        go_wp2_with fail
        go_roundw
        case rel => exact ⟨got ++ [X.1.1], X.2, _, _, _, by rw [hlen6.out]; omega, rfl, rfl, rfl, hL7, hI2, he2, Lib.hid ⟨v0, v1⟩, by rw [hlen6.out]; rfl⟩
        case measure => simp only [lenOf]; omega
end Go.Proofs.Ytpccgdkidnkppaa

set_option linter.unusedVariables false
set_option linter.unusedSimpArgs false
namespace Go.Proofs.Ytpccgdkidnkppaa
open Go Go.RowKit

theorem okey_calls (E : MkEnv) (S : Sh) (hE : E.Good S) (m : Nat) : ∀ (n : Nat) (st : OSt) (k : Int) (w : World) (F : Nat → Prop), 0 ≤ k → k ≤ 9 → OInv S n st → OnI E S m st w F →
    Calls Try.prog 85 #[.pointer (some ⟨m, 0, none⟩), .int .i64 k] w (Gives (OnI E S m) F w (onceP S n st k)) := by
  intro n
  induction n with
  | zero =>
    intro st k w F hk0 hk9 hi h
    cases hmk : mkK S.made k with
    | false => exact okey_unmade E S hE m 0 st k w F hk0 hk9 hi h hmk
    | true =>
      cases hd : st.done.contains k with
      | true => exact okey_made E S hE m 0 st k w F hk0 hk9 hi h hmk (.inl hd)
      | false =>
        cases hu : st.under.contains k with
        | true => exact okey_made E S hE m 0 st k w F hk0 hk9 hi h hmk (.inr hu)
        | false =>
          exfalso
          have hkr := mkK_range (show mkK S.made k ≠ false by rw [hmk]; simp)
          have h1 : (k :: st.under).Nodup := List.nodup_cons.2 ⟨by simpa using hu, hi.under.nodup⟩
          have h2 := nodup_bound (n := S.made.length) h1 (fun x hx => by
            rcases List.mem_cons.1 hx with rfl | hx
            · exact hkr
            · exact hi.under.range x hx)
          have h3 := hi.under.fuel
          simp at h2
          omega
  | succ n ih =>
    intro st k w F hk0 hk9 hi h
    cases hmk : mkK S.made k with
    | false => exact okey_unmade E S hE m (n + 1) st k w F hk0 hk9 hi h hmk
    | true =>
      cases hd : st.done.contains k with
      | true => exact okey_made E S hE m (n + 1) st k w F hk0 hk9 hi h hmk (.inl hd)
      | false =>
        cases hu : st.under.contains k with
        | true => exact okey_made E S hE m (n + 1) st k w F hk0 hk9 hi h hmk (.inr hu)
        | false => exact okey_new E S hE m n ih st k w F hk0 hk9 hi h hmk hd hu

theorem keysOk_drop {n : Nat} {keys : List Int} {j : Nat} (h : j < keys.length) : keysOk n (keys.drop j) = (decide (0 ≤ keys[j] ∧ keys[j] < n) && keysOk n (keys.drop (j + 1))) := by
  unfold keysOk
  rw [List.drop_eq_getElem_cons h, List.all_cons]
set_option maxHeartbeats 1000000 in
theorem l4Keys_calls (Am At Ak : Option Addr) (cm ct ck : Nat) (made : List Bool) (tasks : List Task) (keys : List Int) (B : Nat) (w0 w : World) (hb : Below B w0 w) (hB : B ≤ w.heap.size) (hs : SheetAt B w0 Am cm At ct made tasks) (hnod : ∀ T ∈ tasks, nodes T ≤ 1000000000) (hml : (made.length : Int) ≤ 9223372036854775807) (hm : keys.length ≤ maxLen) (hx : IntsAt B w0 Ak keys) :
    Calls Try.prog 55 #[.agg #[.slice Am made.length cm, .slice At tasks.length ct], .slice Ak keys.length ck] w fun e w' => e = .returned (.bool (keysOk made.length keys && sheetOk made tasks)) ∧ Below w.heap.size w w' := by
  have hc1 := fun w1 (hw : Below w.heap.size w w1) => specSheetOk_calls Am At cm ct made tasks B w0 w1 (below_up' hb hB hw) (Nat.le_trans hB hw.size) hs hnod
  have hc2 := fun k w1 => l6In_calls k 0 ((made.length : Int) - 1) w1
  have hwr : IntKind.i64.wrap ((made.length : Int) - 1) = (made.length : Int) - 1 := by simp [IntKind.wrap, IntKind.bits, IntKind.signed]; omega
  generalize hsk : sheetOk made tasks = sk at *
  replace hc1 := Lib.hid hc1
  replace hc2 := Lib.hid hc2
  replace hx := Lib.hid hx
  replace hb := Lib.hid hb
  replace hsk := Lib.hid hsk
  unfold maxLen at hm
  clear hs hnod
  go_enter Try.func55, Try.ntmps55
  go_wp2_with fail
  go_loopw [5] (fun i wr => ∃ (j : Nat), j ≤ keys.length ∧ i = .int .i64 j ∧ Hid (Below w.heap.size w wr) ∧ w.heap.size < wr.heap.size ∧ wr.cell? ⟨w.heap.size, 0, none⟩ = some (.slice Am made.length cm) ∧ wr.cell? ⟨w.heap.size, 1, none⟩ = some (.slice At tasks.length ct) ∧
    Hid (keysOk made.length keys = keysOk made.length (keys.drop j))) (fun i _ => keys.length - (intOf i).toNat)
  case atStart => exact ⟨0, Nat.zero_le _, rfl, Lib.hid (below_al (Below.refl _ _) _), by simp, by simp, by simp, Lib.hid rfl⟩
  case round =>
    obtain ⟨j, hj, rfl, hw, hz, x0, x1, he⟩ := hrel
    by_cases hlt : j < keys.length
    · have he2 := he.out
      rw [keysOk_drop hlt] at he2
      obtain ⟨b, o, rfl, hbb, y⟩ := hx.out.at (below_up' hb.out hB hw.out) (Nat.le_trans hB hw.out.size) j hlt
      have hcall := hc2.out keys[j]
      generalize keys[j] = k at *
      have hdd : decide (0 ≤ k ∧ k ≤ (made.length : Int) - 1) = decide (0 ≤ k ∧ k < (made.length : Int)) := by
        by_cases h1 : 0 ≤ k ∧ k < (made.length : Int)
        · rw [decide_eq_true h1, decide_eq_true (by omega)]
        · rw [decide_eq_false h1, decide_eq_false (by omega)]
      rw [hdd] at hcall
      generalize decide (0 ≤ k ∧ k < (made.length : Int)) = d at *
      replace hcall := Lib.hid hcall
      replace hdd := Lib.hid hdd
      replace he2 := Lib.hid he2
      clear he
      go_wp2_with fail
      go_region_law (go_simp; go_at_call 108; refine (hcall.out _).mono ?_; rintro e w5 ⟨rfl, rfl⟩)
      all_goals
        cases d with
        | true =>
          have he3 := he2.out
          simp only [Bool.true_and] at he3
          replace he3 := Lib.hid he3
          go_wp2_with fail
          go_roundw
          case rel => exact ⟨j + 1, by omega, by go_num, Lib.hid hw.out.drew, hz, x0, x1, he3⟩
          case measure => simp [intOf]; omega
        | false =>
          have he3 := he2.out
          simp only [Bool.false_and] at he3
          replace he3 := Lib.hid he3
          go_wp2_with fail
          go_ret
          exact ⟨by rw [he3.out]; rfl, hw.out.drew⟩
    · have hd : keys.drop j = [] := List.drop_eq_nil_of_le (by omega)
      have he2 := he.out
      rw [hd] at he2
      replace he2 := Lib.hid he2
      replace hd := Lib.hid hd
      have hcall := hc1.out wr hw.out
      replace hcall := Lib.hid hcall
      clear he
      go_wp2_with fail
      refine hcall.out.mono ?_
      rintro e w5 ⟨rfl, h5⟩
      have hw5 := below_up hw.out h5
      replace hw5 := Lib.hid hw5
      clear h5 hcall
      go_wp2_with fail
      go_ret
      exact ⟨by rw [he2.out]; simp [keysOk], hw5.out⟩
end Go.Proofs.Ytpccgdkidnkppaa

set_option linter.unusedVariables false
set_option linter.unusedSimpArgs false
namespace Go.Proofs.Ytpccgdkidnkppaa
open Go Go.RowKit

set_option maxHeartbeats 2000000 in
theorem l2Uses_calls (A : Option Addr) (c : Nat) (l : List (Int × Int)) (B : Nat) (w0 w : World) (hb : Below B w0 w) (hB : B ≤ w.heap.size) (hl : l.length ≤ 1000) (hx : FetsAt B w0 A l) :
    Calls Try.prog 58 #[.slice A l.length c] w fun e w' => ∃ v, e = .returned v ∧ w'.ownsRow w.heap.size 3 1 v (usesL l []).length (ints (usesL l [])) ∧ Below w.heap.size w w' := by
  have hhas := fun (Ao : Option Addr) (co : Nat) (out : List Int) (k : Int) (w1 : World) (ho : IntsAt w1.heap.size w1 Ao out) (hol : out.length ≤ maxLen) => l2Has_calls Ao co out k w1.heap.size w1 w1 (Below.refl _ _) (Nat.le_refl _) hol ho
  obtain ⟨R, hR⟩ : ∃ R, usesL l [] = R := ⟨_, rfl⟩
  rw [hR]
  have hown0 : (w.alloc (.cells #[] 3 (0, 0))).ownsRow w.heap.size 3 1 (.slice (some ⟨w.heap.size, 0, none⟩) 0 0) 0 (ints []) := by
    simpa [ints] using World.ownsRow_made (base := w.heap.size) w #[] 0 (Nat.le_refl _) (by simp [maxLen]) rfl
  replace hhas := Lib.hid hhas
  replace hx := Lib.hid hx
  replace hb := Lib.hid hb
  replace hR := Lib.hid hR
  replace hown0 := Lib.hid hown0
  go_enter Try.func58, Try.ntmps58
  go_wp2_with fail
  go_loopw [3, 4] (fun o i wr => ∃ (j : Nat) (out : List Int), j ≤ l.length ∧ i = .int .i64 j ∧ out.length ≤ j ∧ Hid (wr.ownsRow w.heap.size 3 1 o out.length (ints out)) ∧ Hid (Below w.heap.size w wr) ∧ Hid (usesL l [] = usesL (l.drop j) out)) (fun _ i _ => l.length - (intOf i).toNat)
  case atStart => exact ⟨0, [], Nat.zero_le _, rfl, Nat.le_refl _, hown0, Lib.hid (below_al (Below.refl _ _) _), Lib.hid rfl⟩
  case round =>
    obtain ⟨j, out, hj, rfl, hol, hown, hw, he⟩ := hrel
    by_cases hlt : j < l.length
    · have he2 := he.out
      rw [List.drop_eq_getElem_cons hlt, usesL] at he2
      obtain ⟨b, o, rfl, hbb, y0, -⟩ := hx.out.at (below_up' hb.out hB hw.out) (Nat.le_trans hB hw.out.size) j hlt
      generalize l[j] = f at *
      obtain ⟨k, v⟩ := f
      dsimp only at y0 he2
      obtain ⟨Ao, co, rfl, ho1, ho2, hi3⟩ := ownsRow_ints hown.out
      have hcall := hhas.out Ao co out k wr hi3 (Nat.le_trans ho1 ho2)
      have hwz := hw.out.size
      unfold maxLen at ho2
      cases hany : out.contains k with
      | true =>
        rw [hany] at hcall he2
        simp only [if_true] at he2
        replace he2 := Lib.hid he2
        replace hcall := Lib.hid hcall
        replace hany := Lib.hid hany
        clear he hi3
        go_wp2_with fail
        refine hcall.out.mono ?_
        rintro e w5 ⟨rfl, rfl⟩
        go_wp2_with fail
        go_roundw
        case rel => exact ⟨j + 1, out, by omega, by go_num, by omega, hown, hw, he2⟩
        case measure => simp [intOf]; omega
      | false =>
        rw [hany] at hcall he2
        simp only [Bool.false_eq_true, if_false] at he2
        replace he2 := Lib.hid he2
        replace hcall := Lib.hid hcall
        replace hany := Lib.hid hany
        clear he hi3
        go_wp2_with fail
        refine hcall.out.mono ?_
        rintro e w5 ⟨rfl, rfl⟩
        go_wp2_with (at_builtin; go_loud (with_reducible refine wpList_app1 (by rfl) (.tmp 20) (.tmp 26) 26 (by rfl) intTy w.heap.size (.slice Ao out.length co) out.length (ints out) (by with_unfolding_all rfl) (hown.out.alloc _) wr.heap.size 1 [.int .i64 k] (by with_unfolding_all rfl) (by with_unfolding_all rfl) ⟨_, _, heap_alloc_new wr _, rfl⟩ (one_int _ _) ?_ ?_ ?_ ?_))
        · unfold maxLen; omega
        · omega
        · simp; omega
        intro g7 cap w7 hown7 hgrow7 hat7
        have hw7 := (hw.out.alloc hwz _).grown hgrow7 (by simp; omega) (fun i hi => (hown.out.lt i hi).1)
        have hown7' : w7.ownsRow w.heap.size 3 1 (.slice (some ⟨g7, 0, none⟩) (out.length + 1) cap) (out ++ [k]).length (ints (out ++ [k])) := by
          rw [ints_append, List.length_append, List.length_singleton]; exact hown7
        replace hw7 := Lib.hid hw7
        replace hown7' := Lib.hid hown7'
        clear hown7 hgrow7 hat7
        go_wp2_with fail
        go_roundw
        case rel => exact ⟨j + 1, out ++ [k], by omega, by go_num, by simp; omega, hown7', hw7, he2⟩
        case measure => simp [intOf]; omega
    · have hd : l.drop j = [] := List.drop_eq_nil_of_le (by omega)
      have he2 := he.out
      rw [hd, usesL] at he2
      replace he2 := Lib.hid he2
      replace hd := Lib.hid hd
      clear he
      go_wp2_with fail
      go_ret
      rw [← hR.out, he2.out]
      exact ⟨_, rfl, hown.out, hw.out⟩

theorem fits_keys {S : Sh} {vals order : List Int} (h : keysOk S.made.length order = false) : fitsP S vals order = false := by
  cases hf : fitsP S vals order with
  | false => rfl
  | true =>
    exfalso
    have : keysOk S.made.length order = true := by
      rw [keysOk_iff]
      intro k hk
      obtain ⟨i, hi, rfl⟩ := List.getElem_of_mem hk
      have h2 := fitsP_iff.1 hf i hi
      unfold fitAt at h2
      rw [Bool.and_eq_true, Bool.and_eq_true] at h2
      exact mkK_range (by rw [h2.1.1]; simp)
    rw [h] at this; cases this

set_option maxRecDepth 20000 in
set_option maxHeartbeats 8000000 in
theorem specOrderFits_good (E : MkEnv) (S : Sh) (hE : E.Good S) (hnod : ∀ T ∈ S.tks.map Tk.enc, nodes T ≤ 1000000000) (Ak : Option Addr) (ck : Nat) (order : List Int) (w : World) (hb : Below E.B E.w0 w) (hB : E.B ≤ w.heap.size) (hx : IntsAt E.B E.w0 Ak order) (hl : order.length ≤ ck) (hm : ck ≤ maxLen) :
    Calls Try.prog 13 #[.agg #[.slice E.Am S.made.length E.cm, .slice E.At S.tks.length E.ct], .slice E.Ai S.inputs.length E.ci, .slice Ak order.length ck] w fun e w' =>
      e = .returned (.bool (orderFitsP S order)) ∧ Below w.heap.size w w' := by
  have hten := hE.ok.ten
  have hml := Nat.le_trans hl hm
  have hc1 := fun w1 (hw : Below w.heap.size w w1) => specBuildAll_good E S hE hnod w1 (below_up' hb hB hw) (Nat.le_trans hB hw.size)
  rw [← all_same hE.ok] at hc1
  have hc2 := fun w1 (hw : Below w.heap.size w w1) => l4Keys_calls E.Am E.At Ak E.cm E.ct ck S.made (S.tks.map Tk.enc) order E.B E.w0 w1 (below_up' hb hB hw) (Nat.le_trans hB hw.size) hE.sheet hnod (by omega) hml hx
  rw [hE.ok.sheet, Bool.and_true] at hc2
  simp only [List.length_map] at hc2
  have hc3 := fun (j : Nat) (hj : j < order.length) (k : Int) w1 (hw : Below w.heap.size w w1) => by
    have h := l2Has_calls Ak ck (order.take j) k E.B E.w0 w1 (below_up' hb hB hw) (Nat.le_trans hB hw.size) (by rw [List.length_take]; omega) (take_at hx j)
    rw [show (order.take j).length = j by rw [List.length_take]; omega] at h
    exact h
  have hall := fun all (h : buildAllP S = (all, true)) => all_law hE.ok h
  have hlen := hE.ok.len
  have hc4 := fun (vals : List Int) (hvl : vals.length ≤ 10) (hvr : ∀ x ∈ vals, 0 ≤ x ∧ x ≤ 96) (q : Nat) (hq : q < S.tks.length) (A : Option Addr) (c : Nat) (hc : S.tks[q].enc.parts.length ≤ c) (hp : PartsIs E.B E.w0 A 0 S.tks[q].enc.parts) (Av : Option Addr) (cv : Nat) (w1 : World) (hw : Below w.heap.size w w1) (hv : IntsAt w1.heap.size w1 Av vals) =>
    l2Run_calls S.tks[q] A c vals Av cv w1.heap.size w1 w1 (Below.refl _ _) (Nat.le_refl _) (hE.ok.tks _ (List.getElem_mem hq)) (fets_small (hE.ok.okT hq)) hc (PartsIs.up (below_up' hb hB hw) (Nat.le_trans hB hw.size) _ _ _ hp) (by unfold maxLen; omega) hv hvr
  have hfe := fun (vals : List Int) (q : Nat) (hq : q < S.tks.length) => Nat.le_trans (fetched_length S.tks[q] vals) (fets_small (hE.ok.okT hq))
  have huk := fun (vals : List Int) (q : Nat) (hq : q < S.tks.length) => usesP_keys (hE.ok.tks _ (List.getElem_mem hq)) vals
  have hfk := fun vals => fits_keys (S := S) (vals := vals) (order := order)
  unfold orderFitsP
  obtain ⟨P, hP⟩ : ∃ P, buildAllP S = P := ⟨_, rfl⟩
  rw [hP] at hc1 hall ⊢
  obtain ⟨vals, ok⟩ := P
  dsimp only at hc1 hall ⊢
  unfold maxLen at hm hml
  replace hc1 := Lib.hid hc1
  replace hc2 := Lib.hid hc2
  replace hc3 := Lib.hid hc3
  replace hc4 := Lib.hid hc4
  replace hb := Lib.hid hb
  replace hE := Lib.hid hE
  replace hx := Lib.hid hx
  replace hlen := Lib.hid hlen
  replace hfe := Lib.hid hfe
  replace huk := Lib.hid huk
  replace hfk := Lib.hid hfk
  replace hP := Lib.hid hP
  clear hnod
  go_enter Try.func13, Try.ntmps13
  go_wp2_with fail
  refine (hc1.out _ (below_al (Below.refl _ _) _)).mono ?_
  rintro e w1 ⟨v1, rfl, hown1, h1⟩
  dsimp only at hown1
  have x0 : w1.cell? ⟨w.heap.size, 0, none⟩ = some (.slice E.Am S.made.length E.cm) := (h1.cell (p := ⟨w.heap.size, 0, none⟩) (by simp)).trans (by simp)
  have x1 : w1.cell? ⟨w.heap.size, 1, none⟩ = some (.slice E.At S.tks.length E.ct) := (h1.cell (p := ⟨w.heap.size, 1, none⟩) (by simp)).trans (by simp)
  have b1 := below_from h1
  have s1 : w.heap.size < w1.heap.size := by have := h1.size; simp at this; omega
  obtain ⟨Av, cv, rfl, -, -, hi1⟩ := ownsRow_ints hown1
  replace b1 := Lib.hid b1
  replace hi1 := Lib.hid hi1
  clear h1 hown1 hc1
  cases ok with
  | false =>
    go_wp2_with fail
    go_ret
    exact ⟨rfl, b1.out⟩
  | true =>
    obtain ⟨hvl, hvr, -, -⟩ := hall vals rfl
    have hc4' := hc4.out vals (by omega) hvr
    replace hc4' := Lib.hid hc4'
    replace hvr := Lib.hid hvr
    replace hvl := Lib.hid hvl
    clear hall hc4
    have hcall := hc2.out w1 b1.out
    cases hko : keysOk S.made.length order with
    | false =>
      rw [hko] at hcall
      have hf := hfk.out vals hko
      replace hf := Lib.hid hf
      replace hcall := Lib.hid hcall
      replace hko := Lib.hid hko
      go_wp2_with fail
      refine hcall.out.mono ?_
      rintro e w2 ⟨rfl, h2⟩
      have b2 := below_up b1.out h2
      replace b2 := Lib.hid b2
      clear h2 hcall x0 x1
      go_wp2_with fail
      go_ret
      exact ⟨by rw [hf.out]; rfl, b2.out⟩
    | true =>
      rw [hko] at hcall
      have hrg := keysOk_iff.1 hko
      replace hcall := Lib.hid hcall
      replace hko := Lib.hid hko
      replace hrg := Lib.hid hrg
      go_wp2_with fail
      refine hcall.out.mono ?_
      rintro e w2 ⟨rfl, h2⟩
      have y0 := kept_cell h2 s1 x0
      have y1 := kept_cell h2 s1 x1
      have b2 := below_up b1.out h2
      have s2 : w.heap.size < w2.heap.size := by have := h2.size; omega
      have hi2 := hi1.out.up h2 h2.size
      replace b2 := Lib.hid b2
      replace hi2 := Lib.hid hi2
      replace y0 := Lib.hid y0
      replace y1 := Lib.hid y1
      clear h2 hcall x0 x1 b1 hi1 s1
      go_wp2_with fail
      go_loopw [9, 10, 11, 12, 13, 14] (fun i _ _ _ _ _ wr => ∃ (j : Nat), j ≤ order.length ∧ i = .int .i64 j ∧ Hid (Below w2.heap.size w2 wr) ∧ Hid (fitsP S vals order = fitsL S vals order j)) (fun i _ _ _ _ _ _ => order.length - (intOf i).toNat)
      case atStart => exact ⟨0, Nat.zero_le _, rfl, Lib.hid (Below.refl _ _), Lib.hid rfl⟩
      case round =>
        obtain ⟨j, hj, rfl, hw, he⟩ := hrel
        by_cases hlt : j < order.length
        · have he2 := he.out
          rw [fitsL_step hlt] at he2
          unfold fitAt at he2
          have hwr := b2.out.trans (hw.out.mono b2.out.size)
          obtain ⟨b, o, rfl, hbb, y⟩ := hx.out.at (below_up' hb.out hB hwr) (Nat.le_trans hB hwr.size) j hlt
          have hkr := hrg.out _ (List.getElem_mem hlt)
          have hc3' := hc3.out j hlt
          generalize order[j] = k at *
          obtain ⟨q, rfl⟩ := Int.eq_ofNat_of_zero_le hkr.1
          have hq : q < S.made.length := by omega
          have hqt : q < S.tks.length := by have := hlen.out; omega
          have hmkq : mkK S.made q = S.made[q] := by unfold mkK; rw [if_neg (by omega), Int.toNat_natCast, getD_at _ hq]
          obtain ⟨bm, om, em, hbm, cm⟩ := hE.out.sheet.made.at (below_up' hb.out hB hwr) (Nat.le_trans hB hwr.size) q hq
          obtain ⟨bt, ot, At', ct', et, hbt, ht0, ht1, ht2, htc, htm, htp⟩ := hE.out.sheet.tasks.at (below_up' hb.out hB hwr) q (by simpa using hqt)
          simp only [List.getElem_map] at ht0 ht1 ht2 htc htp
          have hbt3 : bt < wr.heap.size := Nat.lt_of_lt_of_le hbt (Nat.le_trans hB hwr.size)
          have z0 := (hw.out.cell (p := ⟨w.heap.size, 0, none⟩) s2).trans y0.out
          have z1 := (hw.out.cell (p := ⟨w.heap.size, 1, none⟩) s2).trans y1.out
          rw [em] at z0
          rw [et] at z1
          replace em := Lib.hid em
          replace et := Lib.hid et
          have hz : w.heap.size < wr.heap.size := by have := hw.out.size; omega
          have hjc : j ≤ ck := by omega
          have hmade := fun (r : Nat) (hr : r < S.made.length) (w9 : World) (h9 : Below w.heap.size w w9) => hE.out.sheet.made.at (below_up' hb.out hB h9) (Nat.le_trans hB h9.size) r hr
          have hrun := hc4'.out q hqt At' ct' htc htp Av cv wr hwr (hi2.out.up hw.out hw.out.size)
          have hfl := hfe.out vals q hqt
          have huk' := huk.out vals q hqt
          rw [tk_at hqt] at he2
          have hus : usesP S.tks[q] vals = usesL (fetchedP S.tks[q] vals).2 [] := rfl
          rw [hus] at he2 huk'
          have hul := usesL_length (fetchedP S.tks[q] vals).2 []
          simp only [List.length_nil, Nat.add_zero] at hul
          generalize fetchedP S.tks[q] vals = FP at *
          obtain ⟨⟨fv, fo⟩, l⟩ := FP
          dsimp only at he2 huk' hul hfl hrun
          rw [hmkq] at he2
          generalize S.made[q] = mq at *
          generalize hT : order.take j = T at *
          replace hc3' := Lib.hid hc3'
          replace hrun := Lib.hid hrun
          replace hwr := Lib.hid hwr
          replace hmade := Lib.hid hmade
          replace huk' := Lib.hid huk'
          replace hT := Lib.hid hT
          clear hkr hmkq hus htc htp htm he
          cases mq with
          | false =>
            simp only [Bool.false_and] at he2
            replace he2 := Lib.hid he2
            go_wp2_with fail
            go_ret
            exact ⟨by rw [he2.out]; rfl, hwr.out⟩
          | true =>
            simp only [Bool.true_and] at he2
            have hcont := hc3'.out q wr hwr.out
            cases hcn : T.contains (q : Int) with
            | true =>
              rw [hcn] at hcont he2
              simp only [Bool.not_true, Bool.false_and] at he2
              replace he2 := Lib.hid he2
              replace hcont := Lib.hid hcont
              replace hcn := Lib.hid hcn
              go_wp2_with fail
              refine hcont.out.mono ?_
              rintro e w6 ⟨rfl, rfl⟩
              go_wp2_with fail
              go_ret
              exact ⟨by rw [he2.out]; rfl, hwr.out⟩
            | false =>
              rw [hcn] at hcont he2
              simp only [Bool.not_false, Bool.true_and] at he2
              replace he2 := Lib.hid he2
              replace hcont := Lib.hid hcont
              replace hcn := Lib.hid hcn
              go_wp2_with fail
              refine hcont.out.mono ?_
              rintro e w6 ⟨rfl, rfl⟩
              clear hcont
              go_wp2_with fail
              refine hrun.out.mono ?_
              rintro e w7 ⟨v7, rfl, hown7, h7⟩
              have hw7 := below_up hw.out h7
              have hwr7 := below_up hwr.out h7
              obtain ⟨Af, cf, rfl, -, -, hf7⟩ := fets_own hown7
              have huc := l2Uses_calls Af cf l w7.heap.size w7 w7 (Below.refl _ _) (Nat.le_refl _) (by omega) hf7
              generalize usesL l [] = U at *
              replace hw7 := Lib.hid hw7
              replace hwr7 := Lib.hid hwr7
              replace huc := Lib.hid huc
              clear h7 hown7 hf7 z0 z1 cm hrun hwr hz ht0 ht1 ht2 hbt3 hw y hbm
              go_wp2_with fail
              refine huc.out.mono ?_
              rintro e w8 ⟨v8, rfl, hown8, h8⟩
              have hw8 := below_up hw7.out h8
              have hwr8 := below_up hwr7.out h8
              obtain ⟨Au, cu, rfl, hu1, hu2, hi8⟩ := ownsRow_ints hown8
              unfold maxLen at hu2
              replace hw8 := Lib.hid hw8
              replace hwr8 := Lib.hid hwr8
              replace hi8 := Lib.hid hi8
              clear h8 hown8 huc hw7 hwr7
              go_wp2_with fail
              go_loopw [14] (fun i wr => ∃ (a : Nat), a ≤ U.length ∧ i = .int .i64 a ∧ Hid (Below w8.heap.size w8 wr) ∧ Hid ((U.all fun x => !mkK S.made x || T.contains x) = (U.drop a).all fun x => !mkK S.made x || T.contains x)) (fun i _ => U.length - (intOf i).toNat)
              case atStart => exact ⟨0, Nat.zero_le _, rfl, Lib.hid (Below.refl _ _), Lib.hid rfl⟩
              case round =>
                obtain ⟨a, ha, rfl, hwi, hV⟩ := hrel
                have hwri := hwr8.out.trans (hwi.out.mono hwr8.out.size)
                have hwi2 := hw8.out.trans (hwi.out.mono hw8.out.size)
                by_cases hla : a < U.length
                · have hV2 := hV.out
                  rw [List.drop_eq_getElem_cons hla, List.all_cons] at hV2
                  obtain ⟨b2', o2, rfl, hb2', y2⟩ := hi8.out.at hwi.out hwi.out.size a hla
                  have hxr := huk'.out _ (List.getElem_mem hla)
                  have hcall := fun (w9 : World) (h9 : Below w.heap.size w w9) => hc3'.out U[a] w9 h9
                  generalize U[a] = x at *
                  obtain ⟨r, rfl⟩ := Int.eq_ofNat_of_zero_le hxr.1
                  have z0 := (hwi2.cell (p := ⟨w.heap.size, 0, none⟩) s2).trans y0.out
                  rw [em.out] at z0
                  have hz : w.heap.size < wr.heap.size := by have := hwi2.size; omega
                  by_cases hrn : r < S.made.length
                  · have hmkr : mkK S.made r = S.made[r] := by unfold mkK; rw [if_neg (by omega), Int.toNat_natCast, getD_at _ hrn]
                    obtain ⟨bm', om', em', hbm, cm⟩ := hmade.out r hrn wr hwri
                    rw [em.out] at em'
                    cases em'
                    rw [hmkr] at hV2
                    generalize S.made[r] = mr at *
                    have hd1 : decide ((r : Int) < (S.made.length : Int)) = true := by simp; omega
                    replace hwri := Lib.hid hwri
                    replace hwi2 := Lib.hid hwi2
                    cases mr with
                    | false =>
                      simp only [Bool.not_false, Bool.true_or, Bool.true_and] at hV2
                      replace hV2 := Lib.hid hV2
                      replace hcall := Lib.hid hcall
                      replace hmkr := Lib.hid hmkr
                      go_wp2_with fail
                      go_quiet (fail)
                      go_wp2_with fail
                      go_roundw
                      case rel => exact ⟨a + 1, by omega, by go_num, Lib.hid (below_drewN hwi.out _), hV2⟩
                      case measure => simp [intOf]; omega
                    | true =>
                      simp only [Bool.not_true, Bool.false_or] at hV2
                      cases hcx : T.contains (r : Int) with
                      | true =>
                        rw [hcx] at hcall hV2
                        simp only [Bool.true_and] at hV2
                        replace hV2 := Lib.hid hV2
                        replace hcall := Lib.hid hcall
                        replace hmkr := Lib.hid hmkr
                        replace hcx := Lib.hid hcx
                        go_wp2_with fail
                        go_quiet ((go_at_call 56; exact Calls.quiet_of_same ((hcall.out _ (below_drewN hwri.out _)).mono fun _ _ h => ⟨h.1, h.2.symm⟩)))
                        go_wp2_with fail
                        go_roundw
                        case rel => exact ⟨a + 1, by omega, by go_num, Lib.hid (below_drewN hwi.out _), hV2⟩
                        case measure => simp [intOf]; omega
                      | false =>
                        rw [hcx] at hcall hV2
                        simp only [Bool.false_and] at hV2
                        have he3 := he2.out
                        rw [hV2, Bool.false_and] at he3
                        replace he3 := Lib.hid he3
                        replace hV2 := Lib.hid hV2
                        replace hcall := Lib.hid hcall
                        replace hmkr := Lib.hid hmkr
                        replace hcx := Lib.hid hcx
                        go_wp2_with fail
                        go_quiet ((go_at_call 56; exact Calls.quiet_of_same ((hcall.out _ (below_drewN hwri.out _)).mono fun _ _ h => ⟨h.1, h.2.symm⟩)))
                        go_wp2_with fail
                        go_ret
                        exact ⟨by rw [he3.out]; rfl, below_drewN hwri.out _⟩
                  · have hmkr : mkK S.made r = false := by
                      cases h : mkK S.made r with
                      | false => rfl
                      | true => have := mkK_range (show mkK S.made r ≠ false by rw [h]; simp); omega
                    rw [hmkr] at hV2
                    simp only [Bool.not_false, Bool.true_or, Bool.true_and] at hV2
                    have hd1 : decide ((r : Int) < (S.made.length : Int)) = false := by simp; omega
                    replace hV2 := Lib.hid hV2
                    replace hcall := Lib.hid hcall
                    replace hmkr := Lib.hid hmkr
                    replace hwri := Lib.hid hwri
                    replace hwi2 := Lib.hid hwi2
                    go_wp2_with fail
                    go_quiet (fail)
                    go_wp2_with fail
                    go_roundw
                    case rel => exact ⟨a + 1, by omega, by go_num, Lib.hid (below_drewN hwi.out _), hV2⟩
                    case measure => simp [intOf]; omega
                · have hV2 := hV.out
                  rw [List.drop_eq_nil_of_le (by omega)] at hV2
                  have he3 := he2.out
                  rw [hV2] at he3
                  simp only [List.all_nil, Bool.true_and] at he3
                  replace he3 := Lib.hid he3
                  replace hV2 := Lib.hid hV2
                  replace hwi2 := Lib.hid hwi2
                  replace hwri := Lib.hid hwri
                  go_wp2_with fail
                  go_roundw
                  case rel => exact ⟨j + 1, by omega, by go_num, hwi2, he3⟩
                  case measure => simp [intOf]; omega
        · have he2 := he.out
          rw [fitsL_end hlt] at he2
          replace he2 := Lib.hid he2
          go_wp2_with fail
          go_ret
          exact ⟨by rw [he2.out]; rfl, b2.out.trans (hw.out.mono b2.out.size)⟩
end Go.Proofs.Ytpccgdkidnkppaa

set_option linter.unusedVariables false
set_option linter.unusedSimpArgs false
namespace Go.Proofs.Ytpccgdkidnkppaa
open Go Go.RowKit

set_option maxHeartbeats 1000000 in
theorem orderFits_bad (Am At Ai Ak : Option Addr) (cm ct ci ck : Nat) (made : List Bool) (tasks : List Task) (inputs order : List Int) (B : Nat) (w0 : World) (w : World) (hs : SheetAt B w0 Am cm At ct made tasks) (hi : IntsAt B w0 Ai inputs) (hli : inputs.length ≤ maxLen)
    (hb : Below B w0 w) (hB : B ≤ w.heap.size) (hbad : sheetOk made tasks = true → takesOk made.length inputs = false) :
    Calls Try.prog 16 #[.agg #[.slice Am made.length cm, .slice At tasks.length ct], .slice Ai inputs.length ci, .slice Ak order.length ck] w fun e w' => e = .returned (.bool false) ∧ Below w.heap.size w w' := by
  have hc1 := fun w1 (hw : Below w.heap.size w w1) => buildAll_bad Am At Ai cm ct ci made tasks inputs B w0 w1 hs hi hli (below_up' hb hB hw) (Nat.le_trans hB hw.size) hbad
  replace hc1 := Lib.hid hc1
  replace hbad := Lib.hid hbad
  clear hs hi hb
  go_enter Try.func16, Try.ntmps16
  go_wp2_with fail
  refine (hc1.out _ (below_al (Below.refl _ _) _)).mono ?_
  rintro e w1 ⟨rfl, h1⟩
  have b1 := below_from h1
  replace b1 := Lib.hid b1
  clear h1
  go_wp2_with fail
  go_ret
  exact ⟨rfl, b1.out⟩
set_option maxHeartbeats 1000000 in
theorem specOrderFits_bad (Am At Ai Ak : Option Addr) (cm ct ci ck : Nat) (made : List Bool) (tasks : List Task) (inputs order : List Int) (B : Nat) (w0 : World) (w : World) (hs : SheetAt B w0 Am cm At ct made tasks) (hi : IntsAt B w0 Ai inputs) (hli : inputs.length ≤ maxLen) (hnod : ∀ T ∈ tasks, nodes T ≤ 1000000000)
    (hb : Below B w0 w) (hB : B ≤ w.heap.size) (hbad : inputsOk made tasks inputs = false) :
    Calls Try.prog 13 #[.agg #[.slice Am made.length cm, .slice At tasks.length ct], .slice Ai inputs.length ci, .slice Ak order.length ck] w fun e w' => e = .returned (.bool false) ∧ Below w.heap.size w w' := by
  have hc1 := fun w1 (hw : Below w.heap.size w w1) => specBuildAll_bad Am At Ai cm ct ci made tasks inputs B w0 w1 hs hi hli hnod (below_up' hb hB hw) (Nat.le_trans hB hw.size) hbad
  replace hc1 := Lib.hid hc1
  replace hbad := Lib.hid hbad
  clear hs hi hb
  go_enter Try.func13, Try.ntmps13
  go_wp2_with fail
  refine (hc1.out _ (below_al (Below.refl _ _) _)).mono ?_
  rintro e w1 ⟨v1, rfl, -, h1⟩
  have b1 := below_from h1
  replace b1 := Lib.hid b1
  clear h1
  go_wp2_with fail
  go_ret
  exact ⟨rfl, b1.out⟩
theorem nodes_le4 {tasks : List Task} (h : nodesL tasks ≤ 1048576) : ∀ T ∈ tasks, nodes T ≤ 1000000000 := by
  intro T hT
  obtain ⟨i, hi, rfl⟩ := List.getElem_of_mem hT
  have := nodesL_at hi
  omega
theorem fits_both (made : List Bool) (tasks : List Task) (x1 x2 : List Int) : (made.length : Int) + nodesL tasks ≤ 1048576 → x1.length ≤ 1048576 → x2.length ≤ 1048576 → ∃ r, BothOrderFits made tasks x1 x2 r := by
  intro hsz _ _
  have hnn : 0 ≤ nodesL tasks := nodesL_pos tasks
  have hnod := nodes_le4 (tasks := tasks) (by omega)
  by_cases hgood : sheetOk made tasks = true ∧ takesOk made.length x1 = true
  · obtain ⟨h1, h2⟩ := hgood
    obtain ⟨tks, rfl, hS⟩ := ok_sh h1 h2
    refine ⟨orderFitsP ⟨made, tks, x1⟩ x2, fun w Am At cm ct A1 c1 A2 c2 hs hi hl hc hi2 hl2 hc2 => ?_, fun w Am At cm ct A1 c1 A2 c2 hs hi hl hc hi2 hl2 hc2 => ?_⟩
    · have := orderFits_good ⟨Am, cm, At, ct, A1, c1, w.heap.size, w⟩ ⟨made, tks, x1⟩ ⟨hs, hi, hl, hc, hS⟩ A2 c2 x2 w (Below.refl _ _) (Nat.le_refl _) hi2 hl2 hc2
      simp only [List.length_map]
      exact this
    · have := specOrderFits_good ⟨Am, cm, At, ct, A1, c1, w.heap.size, w⟩ ⟨made, tks, x1⟩ ⟨hs, hi, hl, hc, hS⟩ hnod A2 c2 x2 w (Below.refl _ _) (Nat.le_refl _) hi2 hl2 hc2
      simp only [List.length_map]
      exact this
  · have hbad : sheetOk made tasks = true → takesOk made.length x1 = false := fun a => by
      cases h : takesOk made.length x1 with
      | false => rfl
      | true => exact (hgood ⟨a, h⟩).elim
    refine ⟨false, fun w Am At cm ct A1 c1 A2 c2 hs hi hl hc hi2 hl2 hc2 => ?_, fun w Am At cm ct A1 c1 A2 c2 hs hi hl hc hi2 hl2 hc2 => ?_⟩
    · exact orderFits_bad Am At A1 A2 cm ct c1 c2 made tasks x1 x2 w.heap.size w w hs hi (Nat.le_trans hl hc) (Below.refl _ _) (Nat.le_refl _) hbad
    · refine specOrderFits_bad Am At A1 A2 cm ct c1 c2 made tasks x1 x2 w.heap.size w w hs hi (Nat.le_trans hl hc) hnod (Below.refl _ _) (Nat.le_refl _) ?_
      unfold inputsOk
      cases h : sheetOk made tasks with
      | false => rfl
      | true => rw [hbad h]; rfl
theorem fnExactOrderFits_row (Am At : Option Addr) (cm ct : Nat) (made : List Bool) (tasks : List Task) (A1 : Option Addr) (c1 : Nat) (x1 : List Int) (A2 : Option Addr) (c2 : Nat) (x2 : List Int) (w : World) (hs : SheetAt w.heap.size w Am cm At ct made tasks) (hi1 : IntsAt w.heap.size w A1 x1) (hl1 : x1.length ≤ c1) (hc1 : c1 ≤ maxLen) (hi2 : IntsAt w.heap.size w A2 x2) (hl2 : x2.length ≤ c2) (hc2 : c2 ≤ maxLen) :
    Calls Try.prog 3 #[.agg #[.slice Am made.length cm, .slice At tasks.length ct], .slice A1 x1.length c1, .slice A2 x2.length c2] w fun e w' => e = .returned (.bool true) ∧ Below w.heap.size w w' :=
  fnExactOrderFits_calls Am At cm ct made tasks A1 c1 x1 A2 c2 x2 w hs hi1 hl1 hc1 hi2 hl2 hc2 (fits_both made tasks x1 x2)
end Go.Proofs.Ytpccgdkidnkppaa
