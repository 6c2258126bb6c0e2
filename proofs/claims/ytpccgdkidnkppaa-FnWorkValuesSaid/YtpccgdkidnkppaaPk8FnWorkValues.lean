import Derived.Test.YtpccgdkidnkppaaPk3FnWorkValues
import Derived.Test.YtpccgdkidnkppaaPk6FnWorkValues
import Derived.Test.YtpccgdkidnkppaaPk7FnWorkValues
set_option linter.unusedVariables false
set_option linter.unusedSimpArgs false
namespace Go.Proofs.Ytpccgdkidnkppaa
open Go Go.RowKit

/-! l4Once in memory -/
abbrev onCs (E : MkEnv) (S : Sh) (vv vd vu : Value) : Array Value := #[.slice E.Am S.made.length E.cm, .slice E.At S.tks.length E.ct, vv, vd, vu]
abbrev onPs (E : MkEnv) (vv vd vu : Value) (st : OSt) : List Part := [rowP E.B 3 1 vv st.vals.length (ints st.vals), rowP E.B 3 1 vd st.done.length (ints st.done), rowP E.B 3 1 vu st.under.length (ints st.under)]
theorem ints_set (xs : List Int) (q : Nat) (x : Int) : (ints xs).set q (.int .i64 x) = ints (xs.set q x) := (List.map_set).symm
theorem onPs_under (E : MkEnv) (vv vd vu v : Value) (st : OSt) (k : Int) : (onPs E vv vd vu st).set 2 (rowP E.B 3 1 v (st.under.length + 1) (ints (st.under ++ [k]))) = onPs E vv vd v ⟨st.vals, st.done, st.under ++ [k]⟩ := by
  simp only [onPs, List.set, List.length_append, List.length_singleton]
theorem onPs_done (E : MkEnv) (vv vd vu v : Value) (st : OSt) (k : Int) : (onPs E vv vd vu st).set 1 (rowP E.B 3 1 v (st.done.length + 1) (ints (st.done ++ [k]))) = onPs E vv v vu ⟨st.vals, st.done ++ [k], st.under⟩ := by
  simp only [onPs, List.set, List.length_append, List.length_singleton]
theorem onPs_val (E : MkEnv) (vv vd vu : Value) (st : OSt) (q : Nat) (x : Int) : (onPs E vv vd vu st).set 0 (rowP E.B 3 1 vv st.vals.length ((ints st.vals).set q (.int .i64 x))) = onPs E vv vd vu ⟨st.vals.set q x, st.done, st.under⟩ := by
  simp only [onPs, List.set, List.length_set, ints_set]
abbrev OnAt (E : MkEnv) (S : Sh) (m : Nat) (vv vd vu : Value) (st : OSt) (w : World) : Prop := ObjAt E.B E.w0 m 104 (onCs E S vv vd vu) (onPs E vv vd vu st) w
def OnI (E : MkEnv) (S : Sh) (m : Nat) (st : OSt) (w : World) (F : Nat → Prop) : Prop := ∃ vv vd vu, OnAt E S m vv vd vu st w ∧ F = Foot m (onPs E vv vd vu st)
section
variable {E : MkEnv} {S : Sh} {m : Nat} {vv vd vu : Value} {st : OSt} {w w' : World}
theorem OnAt.cells (h : OnAt E S m vv vd vu st w) : w.cell? ⟨m, 0, none⟩ = some (.slice E.Am S.made.length E.cm) ∧ w.cell? ⟨m, 1, none⟩ = some (.slice E.At S.tks.length E.ct) ∧ w.cell? ⟨m, 2, none⟩ = some vv ∧
    w.cell? ⟨m, 3, none⟩ = some vd ∧ w.cell? ⟨m, 4, none⟩ = some vu ∧ w.frozen? ⟨m, 3, none⟩ = false ∧ w.frozen? ⟨m, 4, none⟩ = false ∧ m < w.heap.size :=
  ⟨h.cell 0, h.cell 1, h.cell 2, h.cell 3, h.cell 4, h.frozen 3, h.frozen 4, h.lt⟩
theorem OnAt.vals (h : OnAt E S m vv vd vu st w) : w.ownsRow E.B 3 1 vv st.vals.length (ints st.vals) := ObjAt.row h 0 rfl
theorem OnAt.done (h : OnAt E S m vv vd vu st w) : w.ownsRow E.B 3 1 vd st.done.length (ints st.done) := ObjAt.row h 1 rfl
theorem OnAt.und (h : OnAt E S m vv vd vu st w) : w.ownsRow E.B 3 1 vu st.under.length (ints st.under) := ObjAt.row h 2 rfl
theorem OnAt.val_at (h : OnAt E S m vv vd vu st w) {q : Nat} (hq : q < st.vals.length) : ∃ g c, vv = .slice (some ⟨g, 0, none⟩) st.vals.length c ∧ w.cell? ⟨g, q, none⟩ = some (.int .i64 st.vals[q]) ∧ w.frozen? ⟨g, q, none⟩ = false ∧ g < w.heap.size ∧ st.vals.length ≤ c ∧ c ≤ maxLen := by
  have ho := h.vals
  obtain ⟨A, c, rfl, h1, h2, h3⟩ := ownsRow_ints ho
  obtain ⟨b, o, e, hb, hc⟩ := h3 q hq
  subst e
  obtain ⟨g, co, e, hg, hgl⟩ := ho.form (by omega)
  cases e
  refine ⟨b, c, rfl, by simpa using hc, ?_, hgl, h1, h2⟩
  obtain ⟨_, ⟨h2, _⟩ | ⟨g', cap', cur, h2, h3, h4, _⟩⟩ := ho
  · cases h2
  · cases h2; exact frozenm h4 q
end

set_option maxHeartbeats 2000000 in
theorem okey_unmade (E : MkEnv) (S : Sh) (hE : E.Good S) (m n : Nat) (st : OSt) (k : Int) (w : World) (F : Nat → Prop) (hk0 : 0 ≤ k) (hk9 : k ≤ 9) (hi : OInv S n st) (h : OnI E S m st w F) (hmk : mkK S.made k = false) :
    Calls Try.prog 85 #[.pointer (some ⟨m, 0, none⟩), .int .i64 k] w (Gives (OnI E S m) F w (onceP S n st k)) := by
  rw [onceP_unmade hmk]
  obtain ⟨vv, vd, vu, hM, rfl⟩ := h
  obtain ⟨x0, x1, x2, x3, x4, f3, f4, hz⟩ := hM.cells
  obtain ⟨q, rfl⟩ := Int.eq_ofNat_of_zero_le hk0
  have hten := hE.ok.ten
  have hav := hi.at q
  by_cases hq : q < S.made.length
  · have hqv : q < st.vals.length := by have := hi.vlen; omega
    have hmq : S.made[q] = false := by
      unfold mkK at hmk
      rw [if_neg (by omega), Int.toNat_natCast, getD_at _ hq] at hmk
      exact hmk
    have hat : atK st.vals q = st.vals[q] := atK_in hqv
    obtain ⟨bm, om, em, hbm, cm⟩ := hE.sheet.made.at hM.below hM.size q hq
    obtain ⟨g, c, rfl, cv, -, hgl, hcl, hcm⟩ := hM.val_at hqv
    rw [em] at x0
    simp only [hmq] at cm
    rw [hat] at hav ⊢
    unfold maxLen at hcm
    replace hM := Lib.hid hM
    replace hE := Lib.hid hE
    replace hi := Lib.hid hi
    clear hat hmq hmk x3 x4 f3 f4
    go_enter Try.func85, Try.ntmps85
    go_wp2_with fail
    go_ret2
    exact ⟨rfl, hav.1, hav.2, _, ⟨_, vd, vu, hM.out, rfl⟩, Turn.refl _ _⟩
  · have hat : atK st.vals q = 0 := atK_out (by have := hi.vlen; omega)
    rw [hat]
    replace hM := Lib.hid hM
    clear hE hmk hat hav hi
    go_enter Try.func85, Try.ntmps85
    go_wp2_with fail
    go_ret2
    exact ⟨rfl, by simp, by simp, _, ⟨vv, vd, vu, hM.out, rfl⟩, Turn.refl _ _⟩

set_option maxHeartbeats 2000000 in
theorem okey_made (E : MkEnv) (S : Sh) (hE : E.Good S) (m n : Nat) (st : OSt) (k : Int) (w : World) (F : Nat → Prop) (hk0 : 0 ≤ k) (hk9 : k ≤ 9) (hi : OInv S n st) (h : OnI E S m st w F) (hmk : mkK S.made k = true) (hsome : st.done.contains k = true ∨ st.under.contains k = true) :
    Calls Try.prog 85 #[.pointer (some ⟨m, 0, none⟩), .int .i64 k] w (Gives (OnI E S m) F w (onceP S n st k)) := by
  obtain ⟨vv, vd, vu, hM, rfl⟩ := h
  obtain ⟨x0, x1, x2, x3, x4, f3, f4, hz⟩ := hM.cells
  obtain ⟨q, rfl⟩ := Int.eq_ofNat_of_zero_le hk0
  have hten := hE.ok.ten
  have hav := hi.at q
  obtain ⟨hq, hmq⟩ := made_at hmk
  have hqv : q < st.vals.length := by have := hi.vlen; omega
  have hat : atK st.vals q = st.vals[q] := atK_in hqv
  obtain ⟨bm, om, em, hbm, cm⟩ := hE.sheet.made.at hM.below hM.size q hq
  obtain ⟨g, c, rfl, cv, -, hgl, hcl, hcm⟩ := hM.val_at hqv
  obtain ⟨Ad, cd, rfl, hd1, hd2, hd3⟩ := ownsRow_ints hM.done
  obtain ⟨Au, cu, rfl, hu1, hu2, hu3⟩ := ownsRow_ints hM.und
  have hcd := l2Has_calls Ad cd st.done q w.heap.size w w (Below.refl _ _) (Nat.le_refl _) (Nat.le_trans hd1 hd2) hd3
  have hcu := l2Has_calls Au cu st.under q w.heap.size w w (Below.refl _ _) (Nat.le_refl _) (Nat.le_trans hu1 hu2) hu3
  rw [em] at x0
  simp only [hmq] at cm
  unfold maxLen at hcm
  cases hd : st.done.contains (q : Int) with
  | true =>
    rw [onceP_done hmk hd]
    rw [hd] at hcd
    rw [hat] at hav ⊢
    replace hM := Lib.hid hM
    replace hE := Lib.hid hE
    replace hi := Lib.hid hi
    replace hd := Lib.hid hd
    replace hcd := Lib.hid hcd
    clear hat hmq hmk f3 f4 hcu hsome hd3 hu3
    go_enter Try.func85, Try.ntmps85
    go_wp2_with fail
    refine hcd.out.mono ?_
    rintro e w1 ⟨rfl, rfl⟩
    go_wp2_with fail
    go_ret2
    exact ⟨rfl, hav.1, hav.2, _, ⟨_, _, _, hM.out, rfl⟩, Turn.refl _ _⟩
  | false =>
    have hu : st.under.contains (q : Int) = true := hsome.resolve_left (by rw [hd]; simp)
    rw [onceP_under hmk hd hu]
    rw [hd] at hcd
    rw [hu] at hcu
    replace hM := Lib.hid hM
    replace hE := Lib.hid hE
    replace hi := Lib.hid hi
    replace hd := Lib.hid hd
    replace hu := Lib.hid hu
    replace hcd := Lib.hid hcd
    replace hcu := Lib.hid hcu
    clear hat hmq hmk f3 f4 hsome hd3 hu3 hav
    go_enter Try.func85, Try.ntmps85
    go_wp2_with fail
    refine hcd.out.mono ?_
    rintro e w1 ⟨rfl, rfl⟩
    go_wp2_with fail
    refine hcu.out.mono ?_
    rintro e w1 ⟨rfl, rfl⟩
    go_wp2_with fail
    go_ret2
    exact ⟨rfl, by simp, by simp, _, ⟨_, _, _, hM.out, rfl⟩, Turn.refl _ _⟩

set_option maxRecDepth 5000 in
set_option maxHeartbeats 8000000 in
theorem okey_new (E : MkEnv) (S : Sh) (hE : E.Good S) (m n : Nat)
    (ih : ∀ (st : OSt) (k : Int) (w : World) (F : Nat → Prop), 0 ≤ k → k ≤ 9 → OInv S n st → OnI E S m st w F →
      Calls Try.prog 85 #[.pointer (some ⟨m, 0, none⟩), .int .i64 k] w (Gives (OnI E S m) F w (onceP S n st k)))
    (st : OSt) (k : Int) (w : World) (F : Nat → Prop) (hk0 : 0 ≤ k) (hk9 : k ≤ 9) (hi : OInv S (n + 1) st) (h : OnI E S m st w F) (hmk : mkK S.made k = true) (hd : st.done.contains k = false) (hu : st.under.contains k = false) :
    Calls Try.prog 85 #[.pointer (some ⟨m, 0, none⟩), .int .i64 k] w (Gives (OnI E S m) F w (onceP S (n + 1) st k)) := by
  have hinv1 := onceP_inv hE.ok (n + 1) st k hi
  have hP := onceP_new (n := n) hmk hd hu
  obtain ⟨vv, vd, vu, hM, rfl⟩ := h
  obtain ⟨x0, x1, x2, x3, x4, f3, f4, hz⟩ := hM.cells
  obtain ⟨q, rfl⟩ := Int.eq_ofNat_of_zero_le hk0
  have hten := hE.ok.ten
  obtain ⟨hq, hmq⟩ := made_at hmk
  have hku : (q : Int) ∉ st.under := by simpa using hu
  have hkd : (q : Int) ∉ st.done := by simpa using hd
  have hi1 : OInv S n ⟨st.vals, st.done, st.under ++ [(q : Int)]⟩ := ⟨hi.vlen, hi.vals, hi.done, hi.nodup, hi.range, hi.under.push hku (mkK_range (show mkK S.made q ≠ false by rw [hmk]; simp)), fun x hx => (List.mem_append.1 hx).elim (hi.apart x) (fun e => by rw [List.mem_singleton.1 e]; exact hkd)⟩
  have hql : q < S.tks.length := by have := hE.ok.len; omega
  have hul := hi.under.len
  rw [tk_at hql] at hP
  have hok := hE.ok.tks S.tks[q] (List.getElem_mem _)
  have hfs : S.tks[q].fets ≤ 100 := fets_small (hE.ok.okT hql)
  obtain ⟨Q, hQ⟩ : ∃ Q, S.tks[q].itr.run (onceP S n) ⟨st.vals, st.done, st.under ++ [(q : Int)]⟩ = Q := ⟨_, rfl⟩
  rw [hQ] at hP
  have hQi := Itr.run_keeps (f := onceP S n) (J := fun s => OInv S n s ∧ s.under = st.under ++ [(q : Int)]) (fun s j h _ _ => ⟨(onceP_inv hE.ok n s j h.1).1, ((onceP_inv hE.ok n s j h.1).2.1).trans h.2⟩) S.tks[q].itr _ (Tk.itr_ok _ hok) ⟨hi1, rfl⟩
  rw [hQ] at hQi
  have hstep := fun (s : OSt) (j : Int) (hs : OInv S n s ∧ s.under = st.under ++ [(q : Int)]) => (⟨(onceP_inv hE.ok n s j hs.1).1, ((onceP_inv hE.ok n s j hs.1).2.1).trans hs.2⟩ : OInv S n (onceP S n s j).2 ∧ (onceP S n s j).2.under = st.under ++ [(q : Int)])
  obtain ⟨bm, om, em, hbm, cm⟩ := hE.sheet.made.at hM.below hM.size q hq
  rw [em] at x0
  simp only [hmq] at cm
  obtain ⟨Ad, cd, evd, hd1, hd2, hd3⟩ := ownsRow_ints hM.done
  obtain ⟨Au, cu, evu, hu1, hu2, hu3⟩ := ownsRow_ints hM.und
  subst evd evu
  have hcd := l2Has_calls Ad cd st.done q w.heap.size w w (Below.refl _ _) (Nat.le_refl _) (Nat.le_trans hd1 hd2) hd3
  have hcu := l2Has_calls Au cu st.under q w.heap.size w w (Below.refl _ _) (Nat.le_refl _) (Nat.le_trans hu1 hu2) hu3
  rw [hd] at hcd
  rw [hu] at hcu
  unfold maxLen at hu2 hd2
  have hsz := hM.size
  have hdl := hi.done
  have hvl := hi.vlen
  replace hM := Lib.hid hM
  replace hE := Lib.hid hE
  replace ih := Lib.hid ih
  replace hi1 := Lib.hid hi1
  replace hi := Lib.hid hi
  replace hQ := Lib.hid hQ
  replace hQi := Lib.hid hQi
  replace hstep := Lib.hid hstep
  replace hP := Lib.hid hP
  replace hok := Lib.hid hok
  replace hcd := Lib.hid hcd
  replace hcu := Lib.hid hcu
  replace em := Lib.hid em
  replace hinv1 := Lib.hid hinv1
  replace hvl := Lib.hid hvl
  clear hmk hmq hd hu hku hkd hd3 hu3
  go_enter Try.func85, Try.ntmps85
  go_wp2_with fail
  refine hcd.out.mono ?_
  rintro e w1 ⟨rfl, rfl⟩
  go_wp2_with fail
  refine hcu.out.mono ?_
  rintro e w1 ⟨rfl, rfl⟩
  go_wp2_with (at_builtin; go_loud (with_reducible refine wpList_app1 (by rfl) (.tmp 54) (.tmp 56) 26 (by rfl) intTy E.B (.slice Au st.under.length cu) st.under.length (ints st.under) (by with_unfolding_all rfl) (hM.out.und.alloc _) w.heap.size 1 [.int .i64 q] (by with_unfolding_all rfl) (by with_unfolding_all rfl) ⟨_, _, heap_alloc_new w _, rfl⟩ (one_int _ _) ?_ ?_ ?_ ?_))
  · unfold maxLen; omega
  · omega
  · simp; omega
  intro g cap w2 hown hgrow hat
  have hMa := hM.out.alloc (.cells #[.int .i64 q] 3 (0, 0))
  have hblk2 := (hgrow.block m (block_lt hMa.blk) (fun e => hMa.far _ (List.mem_of_getElem? (i := 2) rfl) e.symm)).trans hMa.blk
  have z4 : w2.cell? ⟨m, 4, none⟩ = some (.slice Au st.under.length cu) := (cellm hblk2 4).trans rfl
  have fz4 : w2.frozen? ⟨m, 4, none⟩ = false := frozenm hblk2 4
  have hset := hMa.set_row 2 4 rfl (xs' := ints (st.under ++ [(q : Int)])) hgrow (by simpa [ints_append, ints] using hown) (fun i hi => by cases hi; exact hat.imp id (fun e => by simp at e ⊢; omega))
  have hM3 : OnAt E S m vv (.slice Ad st.done.length cd) (.slice (some ⟨g, 0, none⟩) (st.under.length + 1) cap) ⟨st.vals, st.done, st.under ++ [(q : Int)]⟩ (w2.setCell ⟨m, 4, none⟩ (.slice (some ⟨g, 0, none⟩) (st.under.length + 1) cap)) := by
    have := hset.1
    rw [onPs_under] at this
    exact this
  have t3 := (below_turn (F := Foot m (onPs E vv (.slice Ad st.done.length cd) (.slice Au st.under.length cu) st)) (below_al (Below.refl w.heap.size w) (.cells #[.int .i64 q] 3 (0, 0)))).trans hset.2
  rw [onPs_under] at t3
  have hzm2 := block_lt hblk2
  replace hM3 := Lib.hid hM3
  replace t3 := Lib.hid t3
  clear hown hgrow hat hMa hblk2 hset x0 x1 x2 x3 x4 f3 f4 cm hcd hcu
  obtain ⟨bt, ot, At', ct', et, hbt, ht0, ht1, ht2, htc, htm, htp⟩ := hE.out.sheet.tasks.at hM3.out.below q (by simpa using hql)
  simp only [List.getElem_map] at ht0 ht1 ht2 htc htp
  have hbt3 := Nat.lt_of_lt_of_le hbt hM3.out.size
  obtain ⟨y0, y1, y2, y3, y4, e3, e4, hzm⟩ := hM3.out.cells
  rw [et] at y1
  replace htp := Lib.hid htp
  generalize hw3 : w2.setCell ⟨m, 4, none⟩ (.slice (some ⟨g, 0, none⟩) (st.under.length + 1) cap) = w3 at *
  have hst0 := LpO.start hM3.out t3.out hsz
  have hnx := l2Next_calls S.tks[q] At' ct' [] (some ⟨w3.heap.size, 0, none⟩) 0 E.B E.w0 _ hst0.ob.below hst0.ob.size hok.out htc htp.out (RowAt.nil _ _ _ _) (fun x hx => (by cases hx)) (by simp)
  replace hnx := Lib.hid hnx
  replace hst0 := Lib.hid hst0
  go_wp2_with fail
  refine hnx.out.mono ?_
  rintro e w4 ⟨rfl, v0, v1, hb4⟩
  have hst4 := hst0.out.up hb4
  have hvv : 0 ≤ (nextP S.tks[q].itr []).1 ∧ (nextP S.tks[q].itr []).1 ≤ 96 := ⟨v0, v1⟩
  replace hst4 := Lib.hid hst4
  replace hvv := Lib.hid hvv
  clear hnx hst0 hb4 v0 v1 y0 y1 y2 y3 y4 e3 e4 hzm ht0 ht1 ht2 hbt3 hM3 t3 hw3 z4 fz4 hzm2
  go_wp2_with fail
  go_loopw [6, 7, 8, 9] (fun a v ky o ws => ∃ (got : List Int) (s1 : OSt) (vv1 vd1 vu1 : Value), got.length ≤ S.tks[q].fets ∧ v = .int .i64 (nextP S.tks[q].itr got).1 ∧ ky = .int .i64 (nextP S.tks[q].itr got).2.1 ∧ o = .bool (nextP S.tks[q].itr got).2.2 ∧
    Hid (LpO E.B E.w0 m 104 (onCs E S vv1 vd1 vu1) (onPs E vv1 vd1 vu1 s1) w (Foot m (onPs E vv (.slice Ad st.done.length cd) (.slice Au st.under.length cu) st)) got a ws) ∧ Hid (OInv S n s1 ∧ s1.under = st.under ++ [(q : Int)]) ∧
    Hid (Q = (S.tks[q].itr.walk got).run (onceP S n) s1) ∧ Hid (0 ≤ (nextP S.tks[q].itr got).1 ∧ (nextP S.tks[q].itr got).1 ≤ 96) ∧ lenOf a = got.length) (fun a _ _ _ _ => S.tks[q].fets - lenOf a)
  case atStart => exact ⟨[], _, _, _, _, Nat.zero_le _, rfl, rfl, rfl, hst4, Lib.hid ⟨hi1.out, rfl⟩, Lib.hid (by rw [← hQ.out, Itr.walk_nil]), hvv, rfl⟩
  case round =>
    obtain ⟨got, s1, vv1, vd1, vu1, hgl, rfl, rfl, rfl, hL, hI1, hEq, hvv, hla⟩ := hrel
    cases hw : S.tks[q].itr.walk got with
    | done x =>
      obtain ⟨n1, n2⟩ := nextP_done hw
      have he := hEq.out
      rw [hw] at he
      have he2 : Q = ((x, true), s1) := he
      have hx := hvv.out
      rw [n1] at hx
      rw [n1, n2]
      have hP2 := hP.out
      rw [he2] at hP2
      have hob := hL.out.ob
      have hun := hI1.out.2
      rw [he2] at hQi
      have hqi := hQi.out.1
      have hps : (onPs E vv1 vd1 vu1 s1)[2]? = some (rowP E.B 3 1 vu1 (st.under ++ [(q : Int)]).length (ints (st.under ++ [(q : Int)]))) := by rw [← hun]; rfl
      obtain ⟨gp, cp, evu, hcp, hcpm, hgp, hBp, hpop1, hpop2⟩ := hob.pop_row 2 4 hps
      subst evu
      obtain ⟨x0, x1, x2, x3, x4, f3, f4, hz⟩ := OnAt.cells hob
      unfold maxLen at hcpm
      have hqv : q < s1.vals.length := Nat.lt_of_lt_of_eq hq hqi.vlen.symm
      have hO1 : OnAt E S m vv1 vd1 (.slice (some ⟨gp, 0, none⟩) st.under.length cp) ⟨s1.vals, s1.done, st.under⟩ (wr.setCell ⟨m, 4, none⟩ (.slice (some ⟨gp, 0, none⟩) st.under.length cp)).drew := by
        have := hpop1.drew
        simpa [onPs] using this
      have t1 : Turn (Foot m (onPs E vv1 vd1 (.slice (some ⟨gp, 0, none⟩) (st.under.length + 1) cp) s1)) (Foot m (onPs E vv1 vd1 (.slice (some ⟨gp, 0, none⟩) st.under.length cp) ⟨s1.vals, s1.done, st.under⟩)) wr (wr.setCell ⟨m, 4, none⟩ (.slice (some ⟨gp, 0, none⟩) st.under.length cp)).drew := by
        have := hpop2.drew
        simpa [onPs] using this
      have t1' := hL.out.turn.trans t1
      have hxx := hx
      have hsd : s1.done.length ≤ 10 := Nat.le_trans hqi.done hten
      replace hx := Lib.hid hx
      replace hP2 := Lib.hid hP2
      replace hO1 := Lib.hid hO1
      replace t1' := Lib.hid t1'
      replace hvx := Lib.hid hxx
      clear hw n1 n2 he he2 hEq hvv hL hst4 htp hob hun hqi hps hpop1 hpop2 hI1 t1 hQi x0 x1 x2 x3 f3 hxx hQ
      go_wp2_with fail
      go_region
      generalize hW1 : (wr.setCell ⟨m, 4, none⟩ (.slice (some ⟨gp, 0, none⟩) st.under.length cp)).drew = W1 at *
      obtain ⟨x0, x1, x2, x3, x4', f3, f4', hz'⟩ := OnAt.cells hO1.out
      obtain ⟨gv, cv, ev, c1, f1, hgv, hcv, hcvm⟩ := OnAt.val_at hO1.out hqv
      subst ev
      unfold maxLen at hcvm
      obtain ⟨p1, p2⟩ := hO1.out.put_row 0 q rfl (.int .i64 x) hqv
      have hO2 : OnAt E S m (.slice (some ⟨gv, 0, none⟩) s1.vals.length cv) vd1 (.slice (some ⟨gp, 0, none⟩) st.under.length cp) ⟨s1.vals.set q x, s1.done, st.under⟩ (W1.setCell ⟨gv, q, none⟩ (.int .i64 x)) := by
        rw [onPs_val] at p1
        exact p1
      have t2 : Turn (Foot m (onPs E (.slice (some ⟨gv, 0, none⟩) s1.vals.length cv) vd1 (.slice (some ⟨gp, 0, none⟩) st.under.length cp) ⟨s1.vals, s1.done, st.under⟩)) (Foot m (onPs E (.slice (some ⟨gv, 0, none⟩) s1.vals.length cv) vd1 (.slice (some ⟨gp, 0, none⟩) st.under.length cp) ⟨s1.vals.set q x, s1.done, st.under⟩)) W1 (W1.setCell ⟨gv, q, none⟩ (.int .i64 x)) := by
        rw [onPs_val] at p2
        exact p2
      have t2' := t1'.out.trans t2
      obtain ⟨z0, z1, z2, z3, z4, g3, g4, hz2⟩ := OnAt.cells hO2
      obtain ⟨A1, cd1, ed1, k1, k2, -⟩ := ownsRow_ints hO2.done
      subst ed1
      have hszB := hO2.size
      replace hO2 := Lib.hid hO2
      replace t2' := Lib.hid t2'
      clear p1 p2 t2 t1' hO1 hW1 x4 f4 hz
      clear z0 z1 z2 z4 g4
      go_wp2_with (at_builtin; go_loud (with_reducible refine wpList_app1 (by rfl) (.tmp 130) (.tmp 132) 26 (by rfl) intTy E.B (.slice A1 s1.done.length cd1) s1.done.length (ints s1.done) (by with_unfolding_all rfl) ((OnAt.done hO2.out).alloc _) W1.heap.size 1 [.int .i64 q] (by with_unfolding_all rfl) (by with_unfolding_all rfl) ⟨_, _, heap_new (by rw [World.size_setCell]), rfl⟩ (one_int _ _) ?_ ?_ ?_ ?_))
      · unfold maxLen; omega
      · omega
      · first | omega | (simp; omega) | (simp at hszB ⊢; omega)
      intro g7 cap7 w7 hown7 hgrow7 hat7
      have hMb := hO2.out.alloc (.cells #[.int .i64 q] 3 (0, 0))
      have hblk7 := (hgrow7.block m (block_lt hMb.blk) (fun e => hMb.far _ (List.mem_of_getElem? (i := 1) rfl) e.symm)).trans hMb.blk
      have z5 : w7.cell? ⟨m, 3, none⟩ = some (.slice A1 s1.done.length cd1) := (cellm hblk7 3).trans rfl
      have fz5 : w7.frozen? ⟨m, 3, none⟩ = false := frozenm hblk7 3
      have hset7 := hMb.set_row 1 3 rfl (xs' := ints (s1.done ++ [(q : Int)])) hgrow7 (by simpa [ints_append, ints] using hown7) (fun i hi => by cases hi; exact hat7.imp id (fun e => by simp at e ⊢; omega))
      have hO3 : OnAt E S m (.slice (some ⟨gv, 0, none⟩) s1.vals.length cv) (.slice (some ⟨g7, 0, none⟩) (s1.done.length + 1) cap7) (.slice (some ⟨gp, 0, none⟩) st.under.length cp) ⟨s1.vals.set q x, s1.done ++ [(q : Int)], st.under⟩ (w7.setCell ⟨m, 3, none⟩ (.slice (some ⟨g7, 0, none⟩) (s1.done.length + 1) cap7)) := by
        have := hset7.1
        rw [onPs_done] at this
        exact this
      have t3 : Turn (Foot m (onPs E vv (.slice Ad st.done.length cd) (.slice Au st.under.length cu) st)) (Foot m (onPs E (.slice (some ⟨gv, 0, none⟩) s1.vals.length cv) (.slice (some ⟨g7, 0, none⟩) (s1.done.length + 1) cap7) (.slice (some ⟨gp, 0, none⟩) st.under.length cp) ⟨s1.vals.set q x, s1.done ++ [(q : Int)], st.under⟩)) w (w7.setCell ⟨m, 3, none⟩ (.slice (some ⟨g7, 0, none⟩) (s1.done.length + 1) cap7)) := by
        have := (t2'.out.alloc (.cells #[.int .i64 q] 3 (0, 0))).trans hset7.2
        rw [onPs_done] at this
        exact this
      replace hO3 := Lib.hid hO3
      replace t3 := Lib.hid t3
      clear hown7 hgrow7 hat7 hMb hblk7 hset7 hO2 t2'
      go_wp2_with fail
      go_ret2
      rw [hP2.out]
      dsimp only
      rw [if_pos trivial, Int.toNat_natCast]
      exact ⟨rfl, hvx.out.1, hvx.out.2, _, ⟨_, _, _, hO3.out, rfl⟩, t3.out⟩
    | ask ky ct =>
      have hnp := nextP_ask hw
      have hkr := Itr.walk_ok got _ (Tk.itr_ok _ hok.out)
      rw [hw] at hkr
      obtain ⟨hk0', hk9', -⟩ := hkr
      have hglt := Itr.walk_le got _ _ (Tk.itr_le S.tks[q]) ky ct hw
      rw [hnp]
      have hcall := ih.out s1 ky wr _ hk0' hk9' hI1.out.1 ⟨vv1, vd1, vu1, hL.out.ob, rfl⟩
      have he := hEq.out
      rw [hw] at he
      have hI2 := hstep.out s1 ky hI1.out
      obtain ⟨X, hX⟩ : ∃ X, onceP S n s1 ky = X := ⟨_, rfl⟩
      rw [hX] at hcall hI2
      replace hcall := Lib.hid hcall
      replace he := Lib.hid he
      replace hX := Lib.hid hX
      replace hnp := Lib.hid hnp
      replace hw := Lib.hid hw
      replace hI2 := Lib.hid hI2
      clear hEq hvv hst4
      go_wp2_with fail
      refine hcall.out.mono ?_
      rintro e w5 ⟨rfl, p0, p1, F5, ⟨vv5, vd5, vu5, hs5, rfl⟩, t5⟩
      have hL5 := hL.out.key hs5 t5
      replace hL5 := Lib.hid hL5
      clear hcall hs5 t5 hL
      cases hfin : X.1.2 with
      | false =>
        have he2 : Q = ((0, false), X.2) := by rw [he.out, Itr.run_no (by rw [hX.out, hfin]; simp), hX.out]
        have hP2 := hP.out
        rw [he2] at hP2
        have hob := hL5.out.ob
        have hps : (onPs E vv5 vd5 vu5 X.2)[2]? = some (rowP E.B 3 1 vu5 (st.under ++ [(q : Int)]).length (ints (st.under ++ [(q : Int)]))) := by rw [← hI2.out.2]; rfl
        obtain ⟨gp, cp, evu, hcp, hcpm, hgp, hBp, hpop1, hpop2⟩ := hob.pop_row 2 4 hps
        subst evu
        obtain ⟨x0, x1, x2, x3, x4, f3, f4, hz⟩ := OnAt.cells hob
        unfold maxLen at hcpm
        have hO1 : OnAt E S m vv5 vd5 (.slice (some ⟨gp, 0, none⟩) st.under.length cp) ⟨X.2.vals, X.2.done, st.under⟩ (w5.setCell ⟨m, 4, none⟩ (.slice (some ⟨gp, 0, none⟩) st.under.length cp)).drew := by
          have := hpop1.drew
          simpa [onPs] using this
        have t1 : Turn (Foot m (onPs E vv5 vd5 (.slice (some ⟨gp, 0, none⟩) (st.under.length + 1) cp) X.2)) (Foot m (onPs E vv5 vd5 (.slice (some ⟨gp, 0, none⟩) st.under.length cp) ⟨X.2.vals, X.2.done, st.under⟩)) w5 (w5.setCell ⟨m, 4, none⟩ (.slice (some ⟨gp, 0, none⟩) st.under.length cp)).drew := by
          have := hpop2.drew
          simpa [onPs] using this
        have t1' := hL5.out.turn.trans t1
        replace hP2 := Lib.hid hP2
        replace hO1 := Lib.hid hO1
        replace t1' := Lib.hid t1'
        clear he2 hL5 he hX htp hob hps hpop1 hpop2 t1 x0 x1 x2 x3 f3 hQi
        go_wp2_with fail
        go_region
        go_wp2_with fail
        go_ret2
        rw [hP2.out]
        exact ⟨rfl, by simp, by simp, _, ⟨_, _, _, hO1.out, rfl⟩, t1'.out⟩
      | true =>
        have he2 : Q = ((S.tks[q].itr.walk (got ++ [X.1.1])).run (onceP S n) X.2) := by
          rw [he.out, Itr.run_yes (by rw [hX.out, hfin]), hX.out, Itr.walk_append, hw.out, Itr.walk, Itr.walk_nil]
        obtain ⟨Ag, cg, evg, hlg, hmg, hig⟩ := ownsRow_ints hL5.out.own
        subst evg
        replace he2 := Lib.hid he2
        have hL5a := hL5.out.up (below_al (Below.refl _ _) (.cells #[.int .i64 X.1.1] 3 (0, 0)))
        have hsz5 := hL5a.turn.size
        replace hL5a := Lib.hid hL5a
        clear hig he hX
        go_wp2_with (at_builtin; go_loud (with_reducible refine wpList_app1 (by rfl) (.tmp 85) (.tmp 87) 26 (by rfl) intTy w.heap.size (.slice Ag got.length cg) got.length (ints got) (by with_unfolding_all rfl) hL5a.out.own w5.heap.size 1 [.int .i64 X.1.1] (by with_unfolding_all rfl) (by with_unfolding_all rfl) ⟨_, _, heap_alloc_new w5 _, rfl⟩ (one_int _ _) ?_ ?_ ?_ ?_))
        · unfold maxLen; omega
        · omega
        · exact hsz5
        intro g6 cap6 w6 hown6 hgrow6 hat6
        have hL6 := hL5.out.app (x := X.1.1) (v' := .slice (some ⟨g6, 0, none⟩) (got.length + 1) cap6) hgrow6 hown6 ⟨p0, p1⟩ (fun i hi => by cases hi; exact hat6.imp id (fun e => by simp at e ⊢; omega))
        obtain ⟨y0, y1, y2, y3, y4, e3, e4, hzm⟩ := OnAt.cells hL6.ob
        obtain ⟨bt, ot, At', ct', et2, hbt, ht0, ht1, ht2, htc, htm, htp⟩ := hE.out.sheet.tasks.at hL6.ob.below q (by simpa using hql)
        simp only [List.getElem_map] at ht0 ht1 ht2 htc htp
        have hbt3 := Nat.lt_of_lt_of_le hbt hL6.ob.size
        rw [et2] at y1
        obtain ⟨Ah, ch, eh, hlh, hmh, hih⟩ := ownsRow_ints hL6.own
        have hlen6 : (got ++ [X.1.1]).length = got.length + 1 := by simp
        have eh2 := eh
        rw [hlen6] at eh2
        simp only [Value.slice.injEq, true_and] at eh2
        obtain ⟨rfl, rfl⟩ := eh2
        have hnx := l2Next_calls S.tks[q] At' ct' (got ++ [X.1.1]) (some ⟨g6, 0, none⟩) cap6 E.B E.w0 w6 hL6.ob.below hL6.ob.size hok.out htc htp hih hL6.vals (by simp; omega)
        rw [hlen6] at hnx
        replace hnx := Lib.hid hnx
        replace hL6 := Lib.hid hL6
        replace hlen6 := Lib.hid hlen6
        replace htp := Lib.hid htp
        clear hown6 hgrow6 hat6 hL5 hL5a eh hih
        go_wp2_with fail
        refine hnx.out.mono ?_
        rintro e w7 ⟨rfl, v0, v1, hb7⟩
        have hL7 := hL6.out.up hb7
        replace hL7 := Lib.hid hL7
        clear hnx hL6 hb7 y0 y1 y2 y3 y4 e3 e4 hzm ht0 ht1 ht2
        go_wp2_with fail
        go_roundw
        case rel => exact ⟨got ++ [X.1.1], X.2, _, _, _, by rw [hlen6.out]; omega, rfl, rfl, rfl, hL7, hI2, he2, Lib.hid ⟨v0, v1⟩, by rw [hlen6.out]; rfl⟩
        case measure => simp only [lenOf]; omega
end Go.Proofs.Ytpccgdkidnkppaa

set_option linter.unusedVariables false
set_option linter.unusedSimpArgs false
namespace Go.Proofs.Ytpccgdkidnkppaa
open Go Go.RowKit

theorem okey_calls (E : MkEnv) (S : Sh) (hE : E.Good S) (m : Nat) : ∀ (n : Nat) (st : OSt) (k : Int) (w : World) (F : Nat → Prop), 0 ≤ k → k ≤ 9 → OInv S n st → OnI E S m st w F →
    Calls Try.prog 85 #[.pointer (some ⟨m, 0, none⟩), .int .i64 k] w (Gives (OnI E S m) F w (onceP S n st k)) := by
  intro n
  induction n with
  | zero =>
    intro st k w F hk0 hk9 hi h
    cases hmk : mkK S.made k with
    | false => exact okey_unmade E S hE m 0 st k w F hk0 hk9 hi h hmk
    | true =>
      cases hd : st.done.contains k with
      | true => exact okey_made E S hE m 0 st k w F hk0 hk9 hi h hmk (.inl hd)
      | false =>
        cases hu : st.under.contains k with
        | true => exact okey_made E S hE m 0 st k w F hk0 hk9 hi h hmk (.inr hu)
        | false =>
          exfalso
          have hkr := mkK_range (show mkK S.made k ≠ false by rw [hmk]; simp)
          have h1 : (k :: st.under).Nodup := List.nodup_cons.2 ⟨by simpa using hu, hi.under.nodup⟩
          have h2 := nodup_bound (n := S.made.length) h1 (fun x hx => by
            rcases List.mem_cons.1 hx with rfl | hx
            · exact hkr
            · exact hi.under.range x hx)
          have h3 := hi.under.fuel
          simp at h2
          omega
  | succ n ih =>
    intro st k w F hk0 hk9 hi h
    cases hmk : mkK S.made k with
    | false => exact okey_unmade E S hE m (n + 1) st k w F hk0 hk9 hi h hmk
    | true =>
      cases hd : st.done.contains k with
      | true => exact okey_made E S hE m (n + 1) st k w F hk0 hk9 hi h hmk (.inl hd)
      | false =>
        cases hu : st.under.contains k with
        | true => exact okey_made E S hE m (n + 1) st k w F hk0 hk9 hi h hmk (.inr hu)
        | false => exact okey_new E S hE m n ih st k w F hk0 hk9 hi h hmk hd hu

theorem keysOk_drop {n : Nat} {keys : List Int} {j : Nat} (h : j < keys.length) : keysOk n (keys.drop j) = (decide (0 ≤ keys[j] ∧ keys[j] < n) && keysOk n (keys.drop (j + 1))) := by
  unfold keysOk
  rw [List.drop_eq_getElem_cons h, List.all_cons]
set_option maxHeartbeats 1000000 in
theorem l4Keys_calls (Am At Ak : Option Addr) (cm ct ck : Nat) (made : List Bool) (tasks : List Task) (keys : List Int) (B : Nat) (w0 w : World) (hb : Below B w0 w) (hB : B ≤ w.heap.size) (hs : SheetAt B w0 Am cm At ct made tasks) (hnod : ∀ T ∈ tasks, nodes T ≤ 1000000000) (hml : (made.length : Int) ≤ 9223372036854775807) (hm : keys.length ≤ maxLen) (hx : IntsAt B w0 Ak keys) :
    Calls Try.prog 55 #[.agg #[.slice Am made.length cm, .slice At tasks.length ct], .slice Ak keys.length ck] w fun e w' => e = .returned (.bool (keysOk made.length keys && sheetOk made tasks)) ∧ Below w.heap.size w w' := by
  have hc1 := fun w1 (hw : Below w.heap.size w w1) => specSheetOk_calls Am At cm ct made tasks B w0 w1 (below_up' hb hB hw) (Nat.le_trans hB hw.size) hs hnod
  have hc2 := fun k w1 => l6In_calls k 0 ((made.length : Int) - 1) w1
  have hwr : IntKind.i64.wrap ((made.length : Int) - 1) = (made.length : Int) - 1 := by simp [IntKind.wrap, IntKind.bits, IntKind.signed]; omega
  generalize hsk : sheetOk made tasks = sk at *
  replace hc1 := Lib.hid hc1
  replace hc2 := Lib.hid hc2
  replace hx := Lib.hid hx
  replace hb := Lib.hid hb
  replace hsk := Lib.hid hsk
  unfold maxLen at hm
  clear hs hnod
  go_enter Try.func55, Try.ntmps55
  go_wp2_with fail
  go_loopw [5] (fun i wr => ∃ (j : Nat), j ≤ keys.length ∧ i = .int .i64 j ∧ Hid (Below w.heap.size w wr) ∧ w.heap.size < wr.heap.size ∧ wr.cell? ⟨w.heap.size, 0, none⟩ = some (.slice Am made.length cm) ∧ wr.cell? ⟨w.heap.size, 1, none⟩ = some (.slice At tasks.length ct) ∧
    Hid (keysOk made.length keys = keysOk made.length (keys.drop j))) (fun i _ => keys.length - (intOf i).toNat)
  case atStart => exact ⟨0, Nat.zero_le _, rfl, Lib.hid (below_al (Below.refl _ _) _), by simp, by simp, by simp, Lib.hid rfl⟩
  case round =>
    obtain ⟨j, hj, rfl, hw, hz, x0, x1, he⟩ := hrel
    by_cases hlt : j < keys.length
    · have he2 := he.out
      rw [keysOk_drop hlt] at he2
      obtain ⟨b, o, rfl, hbb, y⟩ := hx.out.at (below_up' hb.out hB hw.out) (Nat.le_trans hB hw.out.size) j hlt
      have hcall := hc2.out keys[j]
      generalize keys[j] = k at *
      have hdd : decide (0 ≤ k ∧ k ≤ (made.length : Int) - 1) = decide (0 ≤ k ∧ k < (made.length : Int)) := by
        by_cases h1 : 0 ≤ k ∧ k < (made.length : Int)
        · rw [decide_eq_true h1, decide_eq_true (by omega)]
        · rw [decide_eq_false h1, decide_eq_false (by omega)]
      rw [hdd] at hcall
      generalize decide (0 ≤ k ∧ k < (made.length : Int)) = d at *
      replace hcall := Lib.hid hcall
      replace hdd := Lib.hid hdd
      replace he2 := Lib.hid he2
      clear he
      go_wp2_with fail
      go_region_law (go_simp; go_at_call 108; refine (hcall.out _).mono ?_; rintro e w5 ⟨rfl, rfl⟩)
      all_goals
        cases d with
        | true =>
          have he3 := he2.out
          simp only [Bool.true_and] at he3
          replace he3 := Lib.hid he3
          go_wp2_with fail
          go_roundw
          case rel => exact ⟨j + 1, by omega, by go_num, Lib.hid hw.out.drew, hz, x0, x1, he3⟩
          case measure => simp [intOf]; omega
        | false =>
          have he3 := he2.out
          simp only [Bool.false_and] at he3
          replace he3 := Lib.hid he3
          go_wp2_with fail
          go_ret
          exact ⟨by rw [he3.out]; rfl, hw.out.drew⟩
    · have hd : keys.drop j = [] := List.drop_eq_nil_of_le (by omega)
      have he2 := he.out
      rw [hd] at he2
      replace he2 := Lib.hid he2
      replace hd := Lib.hid hd
      have hcall := hc1.out wr hw.out
      replace hcall := Lib.hid hcall
      clear he
      go_wp2_with fail
      refine hcall.out.mono ?_
      rintro e w5 ⟨rfl, h5⟩
      have hw5 := below_up hw.out h5
      replace hw5 := Lib.hid hw5
      clear h5 hcall
      go_wp2_with fail
      go_ret
      exact ⟨by rw [he2.out]; simp [keysOk], hw5.out⟩
end Go.Proofs.Ytpccgdkidnkppaa

set_option linter.unusedVariables false
set_option linter.unusedSimpArgs false
namespace Go.Proofs.Ytpccgdkidnkppaa
open Go Go.RowKit

/-! a row of numbers, nil or not, is appended to a row that the call owns -/
section
variable {P : Program} {w : World} {t e : TypeId} {z : Value} {bytes : Nat} {base n c B : Nat} {v : Value} {xs : List Value} {A : Option Addr} {ys : List Int} {w0 : World}
theorem run_appI (ty : TypeId) (hE : ElemTy P t e z 1 bytes) (hown : w.ownsRow base e 1 v n xs) (hy : IntsAt B w0 A ys) (hb : Below B w0 w) (hB : B ≤ w.heap.size)
    (h63 : n + ys.length ≤ maxLen) (hbytes : (n + ys.length) * bytes ≤ 140737488355328) (hbase : base ≤ w.heap.size) :
    ∃ v' w', (Builtin.append_ #[t, t] ty #[v, .slice A ys.length c]).run P w = .ok v' w' ∧ w'.ownsRow base e 1 v' (n + ys.length) (xs ++ ints ys) ∧ w.grownBy w' v.ownBlock ∧ (v'.ownBlock = v.ownBlock ∨ v'.ownBlock = some w.heap.size) := by
  obtain ⟨i, hi, hz0, hz1, hz2⟩ := info_parts hE.hi
  cases A with
  | none =>
    have h0 : ys = [] := by
      cases ys with
      | nil => rfl
      | cons y ys => obtain ⟨b, o, e, _⟩ := hy 0 (by simp); cases e
    subst h0
    refine ⟨v, w, ?_, by simpa [ints] using hown, World.grownBy.refl w _, .inl rfl⟩
    have ht := run_underlying (P := P) (w := w) hE.ht
    rcases hown.2 with ⟨rfl, rfl⟩ | ⟨g, cap, cur, rfl, _, _, hnc, _⟩
    · simp [Builtin.append_, ht, sizeOf, typeInfo, hi, Builtin.lenOf, Builtin.firstCells]
    · simp [Builtin.append_, ht, sizeOf, typeInfo, hi, Builtin.lenOf, Builtin.firstCells, hnc, storeCells]
  | some ad =>
    obtain ⟨v', w', hr, h2, h3, _, h5⟩ := run_append_own_at (P := P) w base t ty e i z 1 bytes hE.ht hi hz0 hz1 hz2 hE.hz hE.hs v n xs hown ad ys.length c (ints ys) (by simp [ints]) (fun j u hu => by
      have hj : j < ys.length := by have := (List.getElem?_eq_some_iff.1 hu).1; simpa [ints] using this
      obtain ⟨b, o, e, hlt, hc⟩ := hy.at hb hB j hj
      cases e
      rw [Addr.add_lit, hc]
      simpa [ints, hj] using hu) (fun u hu => by
      simp only [ints, List.mem_map] at hu
      obtain ⟨x, _, rfl⟩ := hu
      rfl) h63 hbytes hbase
    exact ⟨v', w', hr, h2, h3, h5⟩
variable {ops : Array Oper} {o : Oper} {a : Act} {K : Act → World → Prop} {Q : Exit → Act → World → Prop} {X : Prop}
theorem wp_appI (s x : Operand) (ho : o.op = .call { callee := .builtin .append, args := #[s, x], argTypes := #[t, t] }) (hE : ElemTy P t e z 1 bytes) (hs : a.eval s = v) (hown : w.ownsRow base e 1 v n xs) (hx : a.eval x = .slice A ys.length c) (hy : IntsAt B w0 A ys) (hb : Below B w0 w) (hB : B ≤ w.heap.size)
    (h63 : n + ys.length ≤ maxLen) (hbytes : (n + ys.length) * bytes ≤ 140737488355328) (hbase : base ≤ w.heap.size)
    (h : ∀ v' w', w'.ownsRow base e 1 v' (n + ys.length) (xs ++ ints ys) → w.grownBy w' v.ownBlock → (v'.ownBlock = v.ownBlock ∨ v'.ownBlock = some w.heap.size) → K (a.put o.dst v') w') : o.wp P a w K Q := by
  obtain ⟨v', w', hrun, h2, h3, h4⟩ := run_appI (c := c) o.type hE hown hy hb hB h63 hbytes hbase
  unfold Oper.wp execOp
  simp only [ho, resolve, invoke, builtin, Sem.run_bind, Sem.run_pure, Result.andThen_ok, List.map_toArray, List.map_cons, List.map_nil, hs, hx, hrun]
  exact h v' w' h2 h3 h4
theorem wpList_appI {rest : List Oper} (hgd : o.guard = none) (s x : Operand) (ho : o.op = .call { callee := .builtin .append, args := #[s, x], argTypes := #[t, t] }) (hE : ElemTy P t e z 1 bytes) (hs : a.eval s = v) (hown : w.ownsRow base e 1 v n xs) (hx : a.eval x = .slice A ys.length c) (hy : IntsAt B w0 A ys) (hb : Below B w0 w) (hB : B ≤ w.heap.size)
    (h63 : n + ys.length ≤ maxLen) (hbytes : (n + ys.length) * bytes ≤ 140737488355328) (hbase : base ≤ w.heap.size)
    (h : ∀ v' w', w'.ownsRow base e 1 v' (n + ys.length) (xs ++ ints ys) → w.grownBy w' v.ownBlock → (v'.ownBlock = v.ownBlock ∨ v'.ownBlock = some w.heap.size) → wpList P ops Q rest (a.put o.dst v') w') : wpList P ops Q (o :: rest) a w :=
  wpList_plain hgd fun _ hK => wp_appI s x ho hE hs hown hx hy hb hB h63 hbytes hbase fun v' w' h2 h3 h4 => hK _ _ (h v' w' h2 h3 h4)
theorem step_appI (hgd : o.guard = none) (s x : Operand) (ho : o.op = .call { callee := .builtin .append, args := #[s, x], argTypes := #[t, t] }) (hE : ElemTy P t e z 1 bytes) (hs : a.eval s = v) (hown : w.ownsRow base e 1 v n xs) (hx : a.eval x = .slice A ys.length c) (hy : IntsAt B w0 A ys) (hb : Below B w0 w) (hB : B ≤ w.heap.size)
    (h63 : n + ys.length ≤ maxLen) (hbytes : (n + ys.length) * bytes ≤ 140737488355328) (hbase : base ≤ w.heap.size)
    (h : ∀ v' w', w'.ownsRow base e 1 v' (n + ys.length) (xs ++ ints ys) → w.grownBy w' v.ownBlock → (v'.ownBlock = v.ownBlock ∨ v'.ownBlock = some w.heap.size) → K (a.put o.dst v') w') : if Region.wanted o (yielded ops a.tmps) = true then Oper.wp P o a w K Q else X := by
  rw [if_pos (by simp [Region.wanted, hgd])]
  exact wp_appI s x ho hE hs hown hx hy hb hB h63 hbytes hbase h
end
end Go.Proofs.Ytpccgdkidnkppaa

set_option linter.unusedVariables false
set_option linter.unusedSimpArgs false
namespace Go.Proofs.Ytpccgdkidnkppaa
open Go Go.RowKit

theorem once0 (E : MkEnv) (S : Sh) (v : Value) (w : World) (ho : w.ownsRow E.B 3 1 v S.inputs.length (ints S.inputs)) (hb : Below E.B E.w0 w) (hB : E.B ≤ w.heap.size) :
    OnAt E S w.heap.size v (.slice none 0 0) (.slice none 0 0) (ost0 S) (w.alloc (.cells (onCs E S v (.slice none 0 0) (.slice none 0 0)) 104 (0, 0))) := by
  have hnil : ∀ i, (rowP E.B 3 1 (.slice none 0 0) 0 (ints [])).F i → False := fun i hi => by cases hi
  have hv : ∀ i, v.ownBlock = some i → i < w.heap.size := fun i hi => (ho.lt i hi).2
  refine ⟨heap_new rfl, fun p hp => ?_, fun i j hi hj hij b h1 h2 => ?_, fun p hp hf => ?_, hB, below_al' hb _ hB, by simp; omega⟩
  · simp only [onPs, ost0, List.mem_cons, List.not_mem_nil, or_false] at hp
    rcases hp with rfl | rfl | rfl
    · exact rowP_ok (ho.alloc _)
    · exact rowP_ok (World.ownsRow_nil _ _ _ _)
    · exact rowP_ok (World.ownsRow_nil _ _ _ _)
  · match i, j, hi, hj with
    | 0, 0, _, _ => exact hij rfl
    | 0, 1, _, _ => exact hnil b h2
    | 0, 2, _, _ => exact hnil b h2
    | 1, _, _, _ => exact hnil b h1
    | 2, _, _, _ => exact hnil b h1
  · simp only [onPs, ost0, List.mem_cons, List.not_mem_nil, or_false] at hp
    rcases hp with rfl | rfl | rfl
    · exact Nat.lt_irrefl _ (hv _ hf)
    · exact hnil _ hf
    · exact hnil _ hf

theorem onceL_nil (S : Sh) (st : OSt) : onceL S [] st = (st.done, true) := rfl
theorem onceL_cons (S : Sh) (k : Int) (ks : List Int) (st : OSt) : onceL S (k :: ks) st = if (onceP S S.made.length st k).1.2 = true then onceL S ks (onceP S S.made.length st k).2 else ([], false) := rfl

set_option maxHeartbeats 4000000 in
theorem specOrderSuspend_good (E : MkEnv) (S : Sh) (hE : E.Good S) (hnod : ∀ T ∈ S.tks.map Tk.enc, nodes T ≤ 1000000000) (Ak : Option Addr) (ck : Nat) (keys : List Int) (w : World) (hb : Below E.B E.w0 w) (hB : E.B ≤ w.heap.size) (hk : keysOk S.made.length keys = true) (hx : IntsAt E.B E.w0 Ak keys) (hm : keys.length ≤ maxLen) :
    Calls Try.prog 26 #[.agg #[.slice E.Am S.made.length E.cm, .slice E.At S.tks.length E.ct], .slice E.Ai S.inputs.length E.ci, .slice Ak keys.length ck] w fun e w' =>
      GivesOwn w.heap.size (suspP S keys) e w w' := by
  have hok2 : takesOk S.made.length S.inputs = true := by simp [takesOk, hE.ok.ins, vals_iff.2 hE.ok.vals]
  have hin : inputsOk S.made (S.tks.map Tk.enc) S.inputs = true := by rw [inputsOk, hE.ok.sheet, hok2]; rfl
  have hten := hE.ok.ten
  have hil : S.inputs.length ≤ 10 := by rw [hE.ok.ins]; exact hten
  have hc1 := fun w1 (hw : Below w.heap.size w w1) => l3Inputs_calls E.Am E.At E.Ai E.cm E.ct E.ci S.made (S.tks.map Tk.enc) S.inputs E.B E.w0 w1 (below_up' hb hB hw) (Nat.le_trans hB hw.size) hE.sheet hnod (Nat.le_trans hE.li hE.mi) hE.ins
  rw [hin] at hc1
  simp only [List.length_map] at hc1
  have hc2 := fun w1 (hw : Below w.heap.size w w1) => l4Keys_calls E.Am E.At Ak E.cm E.ct ck S.made (S.tks.map Tk.enc) keys E.B E.w0 w1 (below_up' hb hB hw) (Nat.le_trans hB hw.size) hE.sheet hnod (by omega) hm hx
  rw [hk, hE.ok.sheet] at hc2
  simp only [List.length_map] at hc2
  have hc3 := okey_calls E S hE
  have hrg := keysOk_iff.1 hk
  have hin2 := hE.ins
  rw [susp_same hE.ok]
  obtain ⟨P, hP⟩ : ∃ P, onceL S keys (ost0 S) = P := ⟨_, rfl⟩
  have hi0 := oinv0 hE.ok
  have hinv := fun st k hi => (onceP_inv hE.ok S.made.length st k hi).1
  rw [hP]
  unfold maxLen at hm
  replace hc1 := Lib.hid hc1
  replace hc2 := Lib.hid hc2
  replace hc3 := Lib.hid hc3
  replace hP := Lib.hid hP
  replace hb := Lib.hid hb
  replace hE := Lib.hid hE
  replace hx := Lib.hid hx
  replace hrg := Lib.hid hrg
  replace hin2 := Lib.hid hin2
  replace hi0 := Lib.hid hi0
  replace hinv := Lib.hid hinv
  clear hin hok2 hk hnod
  go_enter Try.func26, Try.ntmps26
  go_wp2_with fail
  refine (hc1.out _ (below_al (Below.refl _ _) _)).mono ?_
  rintro e w1 ⟨rfl, h1⟩
  have x0 : w1.cell? ⟨w.heap.size, 0, none⟩ = some (.slice E.Am S.made.length E.cm) := (h1.cell (p := ⟨w.heap.size, 0, none⟩) (by simp)).trans (by simp)
  have x1 : w1.cell? ⟨w.heap.size, 1, none⟩ = some (.slice E.At S.tks.length E.ct) := (h1.cell (p := ⟨w.heap.size, 1, none⟩) (by simp)).trans (by simp)
  have b1 := below_from h1
  have s1 : w.heap.size < w1.heap.size := by have := h1.size; simp at this; omega
  replace b1 := Lib.hid b1
  clear h1
  go_wp2_with fail
  refine (hc2.out _ b1.out).mono ?_
  rintro e w2 ⟨rfl, h2⟩
  have y0 : w2.cell? ⟨w.heap.size, 0, none⟩ = some (.slice E.Am S.made.length E.cm) := kept_cell h2 s1 x0
  have y1 : w2.cell? ⟨w.heap.size, 1, none⟩ = some (.slice E.At S.tks.length E.ct) := kept_cell h2 s1 x1
  have b2 := below_up b1.out h2
  have s2 : w.heap.size < w2.heap.size := by have := h2.size; omega
  have hB2 : E.B ≤ w2.heap.size := by omega
  have hb2 : Hid (Below E.B E.w0 w2) := Lib.hid (below_up' hb.out hB b2)
  replace b2 := Lib.hid b2
  clear h2 x0 x1 s1 b1
  go_wp2_with fail
  go_region_law ((with_reducible refine step_appI (base := E.B) (v := .slice (some ⟨w2.heap.size, 0, none⟩) 0 0) (n := 0) (xs := []) (B := E.B) (w0 := E.w0) (by rfl) (.tmp 24) (.tmp 25) (by rfl) intTy (by with_unfolding_all rfl) ?_ (by with_unfolding_all rfl) hin2.out ?_ ?_ ?_ ?_ ?_ ?_); (exact (World.ownsRow_made (base := E.B) w2 #[] 0 hB2 (by simp [maxLen]) rfl).drew); (exact (below_al' hb2.out _ hB2).drew); (simp; omega); (simp [maxLen]; omega); (omega); (simp; omega); intro v3 w3 hown hgrow hat; have hlt3 := hgrow.size; simp at hlt3; have hown' : w3.ownsRow E.B 3 1 v3 S.inputs.length (ints S.inputs) := (by { have := hown; simpa using this }); have b3 : Below w.heap.size w w3 := (by exact ((below_al' b2.out _ (by omega)).drew.grown hgrow (by simp; omega) (fun k hk => by cases hk; exact Nat.le_of_lt s2))); have hne3 : some w.heap.size ≠ (Value.slice (some ⟨w2.heap.size, 0, none⟩) 0 0).ownBlock := (by { intro e; have := Option.some.inj (show some w.heap.size = some w2.heap.size from e); omega }); have z0 : w3.cell? ⟨w.heap.size, 0, none⟩ = some (.slice E.Am S.made.length E.cm) := (hgrow.cell_far ⟨w.heap.size, 0, none⟩ (by simp; omega) hne3).trans ((cell_al s2).trans y0); have z1 : w3.cell? ⟨w.heap.size, 1, none⟩ = some (.slice E.At S.tks.length E.ct) := (hgrow.cell_far ⟨w.heap.size, 1, none⟩ (by simp; omega) hne3).trans ((cell_al s2).trans y1); obtain ⟨A3, c3, rfl, -, -, -⟩ := ownsRow_ints hown'; have hO3 := once0 E S _ w3 hown' (below_up' hb.out hB b3) (Nat.le_trans hB b3.size); have hv3 : ∀ i, (Value.slice A3 S.inputs.length c3).ownBlock = some i → w.heap.size ≤ i := (by { intro i hi; rcases hat with h | h <;> rw [h] at hi <;> cases hi <;> (simp; omega) }); replace b3 := Lib.hid b3; replace hO3 := Lib.hid hO3; replace hv3 := Lib.hid hv3; clear hown hgrow hat hown' hne3)
  all_goals
    have hF3 : ∀ i, Foot w3.heap.size (onPs E (.slice A3 S.inputs.length c3) (.slice none 0 0) (.slice none 0 0) (ost0 S)) i → w.heap.size ≤ i := fun i hi => by
      rcases hi with rfl | ⟨p, hp, hf⟩
      · exact b3.out.size
      · simp only [onPs, List.mem_cons, List.not_mem_nil, or_false] at hp
        rcases hp with rfl | rfl | rfl
        · exact hv3.out i hf
        · cases hf
        · cases hf
    replace hF3 := Lib.hid hF3
    clear y0 y1 z0 z1 hv3
    generalize hm0 : w3.heap.size = m at *
    replace hm0 := Lib.hid hm0
    go_wp2_with fail
    go_loopw [9, 10, 11] (fun i _ _ wr => ∃ (j : Nat) (st : OSt) (F : Nat → Prop), j ≤ keys.length ∧ i = .int .i64 j ∧ Hid (OnI E S m st wr F) ∧ Hid (OInv S S.made.length st) ∧
      Hid (∀ i, F i → w.heap.size ≤ i) ∧ Hid (Below w.heap.size w wr) ∧ Hid (onceL S keys (ost0 S) = onceL S (keys.drop j) st)) (fun i _ _ _ => keys.length - (intOf i).toNat)
    case atStart => exact ⟨0, ost0 S, _, Nat.zero_le _, rfl, Lib.hid ⟨_, _, _, hO3.out, rfl⟩, hi0, hF3, Lib.hid (below_al' b3.out _ b3.out.size), Lib.hid rfl⟩
    case round =>
      obtain ⟨j, st, F, hj, rfl, hM, hIv, hF, hw, he⟩ := hrel
      by_cases hlt : j < keys.length
      · have he2 := he.out
        rw [List.drop_eq_getElem_cons hlt, onceL_cons] at he2
        have hkr := hrg.out _ (List.getElem_mem hlt)
        have hkey := hc3.out m S.made.length st keys[j] wr F hkr.1 (by omega) hIv.out hM.out
        have hIv2 := hinv.out st keys[j] hIv.out
        obtain ⟨b, o, rfl, hbb, y⟩ := hx.out.at (below_up' hb.out hB hw.out) (Nat.le_trans hB hw.out.size) j hlt
        generalize keys[j] = k at *
        obtain ⟨r, hr⟩ : ∃ r, onceP S S.made.length st k = r := ⟨_, rfl⟩
        rw [hr] at he2 hkey hIv2
        replace hkey := Lib.hid hkey
        replace hr := Lib.hid hr
        replace he2 := Lib.hid he2
        replace hkr := Lib.hid hkr
        replace hIv2 := Lib.hid hIv2
        clear he
        go_wp2_with fail
        refine hkey.out.mono ?_
        rintro e w5 ⟨rfl, v1, v2, F5, hM5, t5⟩
        have hF5 : ∀ i, F5 i → w.heap.size ≤ i := fun i hi => (t5.fresh i hi).elim (hF.out i) (fun hge => Nat.le_trans hw.out.size hge)
        have hw5 := hw.out.trans (t5.below (B := w.heap.size) hw.out.size (fun i hi => hF.out i hi))
        replace hM5 := Lib.hid hM5
        replace hF5 := Lib.hid hF5
        replace hw5 := Lib.hid hw5
        clear t5 y
        cases hok : r.1.2 with
        | false =>
          rw [hok] at he2
          go_wp2_with fail
          go_ret2
          have := he2.out
          simp at this
          rw [← hP.out, this]
          exact ⟨_, rfl, by simpa [ints] using World.ownsRow_made (base := w.heap.size) w5 #[] 0 hw5.out.size (by simp [maxLen]) rfl, below_al' hw5.out _ hw5.out.size⟩
        | true =>
          rw [hok] at he2
          simp only [if_true] at he2
          go_wp2_with fail
          go_roundw
          case rel => exact ⟨j + 1, r.2, F5, by omega, by go_num, hM5, hIv2, hF5, hw5, he2⟩
          case measure => simp [intOf]; omega
      · have hd : keys.drop j = [] := List.drop_eq_nil_of_le (by omega)
        have he2 := he.out
        rw [hd, onceL_nil] at he2
        obtain ⟨vv, vd, vu, hA, -⟩ := hM.out
        have hod := hA.done
        obtain ⟨z0, z1, z2, z3, -⟩ := hA.cells
        obtain ⟨Ad, cd, rfl, hd1, hd2, hd3⟩ := ownsRow_ints hod
        have hdl : st.done.length ≤ 10 := Nat.le_trans hIv.out.done hten
        have hwz : w.heap.size ≤ wr.heap.size := hw.out.size
        have hzm : m < wr.heap.size := hA.lt
        replace he2 := Lib.hid he2
        replace hod := Lib.hid hod
        replace hd := Lib.hid hd
        replace hd3 := Lib.hid hd3
        clear he hA z0 z1 z2 hd1 hd2
        go_wp2_with (at_builtin; go_loud (with_reducible refine wpList_appI (base := w.heap.size) (v := .slice (some ⟨wr.heap.size, 0, none⟩) 0 0) (n := 0) (xs := []) (B := wr.heap.size) (w0 := wr) (by rfl) (.tmp 47) (.tmp 51) (by rfl) intTy (by with_unfolding_all rfl) ?_ (by with_unfolding_all rfl) hd3.out ?_ ?_ ?_ ?_ ?_ ?_))
        · exact World.ownsRow_made (base := w.heap.size) wr #[] 0 hwz (by simp [maxLen]) rfl
        · exact below_al (Below.refl _ _) _
        · simp
        · simp [maxLen]; omega
        · omega
        · simp; omega
        intro v9 w9 hown9 hgrow9 hat9
        have hw9 : Below w.heap.size w w9 := (below_al' hw.out _ hwz).grown hgrow9 (by simp; omega) (fun k hk => by cases hk; exact hwz)
        have hown9' : w9.ownsRow w.heap.size 3 1 v9 st.done.length (ints st.done) := by simpa using hown9
        replace hw9 := Lib.hid hw9
        replace hown9' := Lib.hid hown9'
        clear hown9 hgrow9 hat9
        go_wp2_with fail
        go_ret2
        rw [← hP.out, he2.out]
        exact ⟨_, rfl, hown9'.out, hw9.out⟩

set_option maxHeartbeats 1000000 in
theorem specOrderSuspend_bad (Am At Ai Ak : Option Addr) (cm ct ci ck : Nat) (made : List Bool) (tasks : List Task) (inputs keys : List Int) (B : Nat) (w0 : World) (w : World) (hs : SheetAt B w0 Am cm At ct made tasks) (hnod : ∀ T ∈ tasks, nodes T ≤ 1000000000) (hml : (made.length : Int) ≤ 9223372036854775807) (hi : IntsAt B w0 Ai inputs) (hli : inputs.length ≤ maxLen) (hx : IntsAt B w0 Ak keys) (hm : keys.length ≤ maxLen)
    (hb : Below B w0 w) (hB : B ≤ w.heap.size) (hbad : inputsOk made tasks inputs = true → keysOk made.length keys = false) :
    Calls Try.prog 26 #[.agg #[.slice Am made.length cm, .slice At tasks.length ct], .slice Ai inputs.length ci, .slice Ak keys.length ck] w fun e w' =>
      GivesOwn w.heap.size ([], false) e w w' := by
  have hc1 := fun w1 (hw : Below w.heap.size w w1) => l3Inputs_calls Am At Ai cm ct ci made tasks inputs B w0 w1 (below_up' hb hB hw) (Nat.le_trans hB hw.size) hs hnod hli hi
  have hc2 := fun w1 (hw : Below w.heap.size w w1) => l4Keys_calls Am At Ak cm ct ck made tasks keys B w0 w1 (below_up' hb hB hw) (Nat.le_trans hB hw.size) hs hnod hml hm hx
  generalize inputsOk made tasks inputs = d1 at *
  generalize sheetOk made tasks = d2 at *
  generalize keysOk made.length keys = d3 at *
  replace hb := Lib.hid hb
  replace hs := Lib.hid hs
  replace hi := Lib.hid hi
  replace hx := Lib.hid hx
  cases d1 with
  | false =>
    replace hc1 := Lib.hid hc1
    clear hc2 hbad
    go_enter Try.func26, Try.ntmps26
    go_wp2_with fail
    refine (hc1.out _ (below_al (Below.refl _ _) _)).mono ?_
    rintro e w1 ⟨rfl, h1⟩
    have b1 := below_from h1
    replace b1 := Lib.hid b1
    clear h1
    go_wp2_with fail
    go_ret2
    exact ⟨_, rfl, by simpa [ints] using World.ownsRow_made (base := w.heap.size) w1 #[] 0 b1.out.size (by simp [maxLen]) rfl, below_al' b1.out _ b1.out.size⟩
  | true =>
    have h3 := hbad rfl
    subst h3
    simp only [Bool.false_and] at hc2
    replace hc1 := Lib.hid hc1
    replace hc2 := Lib.hid hc2
    clear hbad
    go_enter Try.func26, Try.ntmps26
    go_wp2_with fail
    refine (hc1.out _ (below_al (Below.refl _ _) _)).mono ?_
    rintro e w1 ⟨rfl, h1⟩
    have x0 : w1.cell? ⟨w.heap.size, 0, none⟩ = some (.slice Am made.length cm) := (h1.cell (p := ⟨w.heap.size, 0, none⟩) (by simp)).trans (by simp)
    have x1 : w1.cell? ⟨w.heap.size, 1, none⟩ = some (.slice At tasks.length ct) := (h1.cell (p := ⟨w.heap.size, 1, none⟩) (by simp)).trans (by simp)
    have b1 := below_from h1
    replace b1 := Lib.hid b1
    clear h1
    go_wp2_with fail
    refine (hc2.out _ b1.out).mono ?_
    rintro e w2 ⟨rfl, h2⟩
    have b2 := below_up b1.out h2
    replace b2 := Lib.hid b2
    clear h2 x0 x1
    go_wp2_with fail
    go_ret2
    exact ⟨_, rfl, by simpa [ints] using World.ownsRow_made (base := w.heap.size) w2 #[] 0 b2.out.size (by simp [maxLen]) rfl, below_al' b2.out _ b2.out.size⟩
end Go.Proofs.Ytpccgdkidnkppaa
