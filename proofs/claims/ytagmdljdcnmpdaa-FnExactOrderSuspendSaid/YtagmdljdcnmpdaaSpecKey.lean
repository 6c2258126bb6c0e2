import Derived.Test.YtagmdljdcnmpdaaDo
import Derived.Test.YtagmdljdcnmpdaaMaker
import Derived.Test.YtagmdljdcnmpdaaSpecSheet
set_option linter.unusedVariables false
set_option linter.unusedSimpArgs false
namespace Go.Proofs.Ytagmdljdcnmpdaa
open Go Go.RowKit

theorem tapeF_zero (got : List Int) (s : Nat × Int) (k : Int) : (tapeF got s k).1.2 = false → (tapeF got s k).1.1 = 0 := by
  unfold tapeF
  split
  · intro _; rfl
  · intro h; cases h

set_option maxHeartbeats 1000000 in
theorem l2Next_calls (t : Tk) (A : Option Addr) (c : Nat) (got : List Int) (Ag : Option Addr) (cg B : Nat) (w0 w : World) (hb : Below B w0 w) (hB : B ≤ w.heap.size) (hok : t.ok) (hc : t.enc.parts.length ≤ c) (hp : PartsIs B w0 A 0 t.enc.parts)
    (hg : IntsAt w.heap.size w Ag got) (hv : ∀ x ∈ got, 0 ≤ x ∧ x ≤ 96) (hl : got.length ≤ 1000000) :
    Calls Try.prog 79 #[.agg #[.int .i64 t.enc.kind, .int .i64 t.enc.n, .slice A t.enc.parts.length c], .slice Ag got.length cg] w fun e w' =>
      e = .returned (.tuple #[.int .i64 (nextP t.itr got).1, .int .i64 (nextP t.itr got).2.1, .bool (nextP t.itr got).2.2]) ∧ 0 ≤ (nextP t.itr got).1 ∧ (nextP t.itr got).1 ≤ 96 ∧ Below w.heap.size w w' := by
  have hp' : PartsIs w.heap.size w A 0 t.enc.parts := PartsIs.up hb hB _ _ _ hp
  have hdo := fun (s : Nat × Int) (w1 : World) (hs : TapeAt w.heap.size w (w.heap.size + 1) got Ag cg s w1) => do_calls got (w.heap.size + 1) Ag cg w.heap.size w t A c s w1 hok hs hc hp'
  have hn : nextP t.itr got = ((t.run (tapeF got) (0, 0)).1.1, (t.run (tapeF got) (0, 0)).2.2, (t.run (tapeF got) (0, 0)).1.2) := by
    rw [Tk.run_itr (tapeF got) (tapeF_zero got)]; rfl
  rw [hn]
  clear hn
  have h0 : TapeAt w.heap.size w (w.heap.size + 1) got Ag cg (0, 0) ((w.alloc (.cells #[.int .i64 t.enc.kind, .int .i64 t.enc.n, .slice A t.enc.parts.length c] 36 (0, 0))).alloc (.cells #[.slice Ag got.length cg, .int .i64 0, .int .i64 0] 121 (0, 0))) :=
    ⟨heap_new (by simp), hg, hv, Nat.zero_le _, hl, by omega, below_al (below_al (Below.refl _ _) _) _, by simp; omega⟩
  have hd := hdo _ _ h0
  generalize t.run (tapeF got) (0, 0) = r at *
  replace hd := Lib.hid hd
  clear hdo h0 hp hp' hb hg hv
  go_enter Try.func79, Try.ntmps79
  go_wp2_with fail
  refine hd.out.mono ?_
  rintro e w1 ⟨rfl, h1, h2, F', ⟨h3, rfl⟩, h4⟩
  have x2 : w1.cell? ⟨w.heap.size + 1, 2, none⟩ = some (.int .i64 r.2.2) := cellm h3.blk 2
  have hz := block_lt h3.blk
  have hbw := h3.below
  replace hbw := Lib.hid hbw
  clear h3 h4 hd
  go_wp2_with fail
  go_region
  go_wp2_with fail
  go_ret3
  exact ⟨rfl, h1, h2, hbw.out.drew⟩

/-- the reference's builder: its keys under way, its circle -/
structure SbAt (E : MkEnv) (S : Sh) (m : Nat) (vu vc : Value) (u c : List Int) (w : World) : Prop where
  blk : w.heap[m]? = some (.cells #[.slice E.Am S.made.length E.cm, .slice E.At S.tks.length E.ct, .slice E.Ai S.inputs.length E.ci, vu, vc] 73 (0, 0))
  ou : w.ownsRow E.B 3 1 vu u.length (ints u)
  oc : w.ownsRow E.B 3 1 vc c.length (ints c)
  hm : E.B ≤ m
  nuc : ∀ i, vu.ownBlock = some i → vc.ownBlock ≠ some i
  below : Below E.B E.w0 w
  size : E.B ≤ w.heap.size
def SFoot (m : Nat) (vu vc : Value) (i : Nat) : Prop := i = m ∨ vu.ownBlock = some i ∨ vc.ownBlock = some i
def SbI (E : MkEnv) (S : Sh) (m : Nat) (u c : List Int) (w : World) (F : Nat → Prop) : Prop := ∃ vu vc, SbAt E S m vu vc u c w ∧ F = SFoot m vu vc
section
variable {E : MkEnv} {S : Sh} {m : Nat} {vu vc : Value} {u c : List Int} {w w' : World}
theorem SbAt.nm (h : SbAt E S m vu vc u c w) : vu.ownBlock ≠ some m ∧ vc.ownBlock ≠ some m :=
  ⟨ownsRow_ne h.ou h.blk (fun c e => by cases e), ownsRow_ne h.oc h.blk (fun c e => by cases e)⟩
theorem SbAt.bounds (h : SbAt E S m vu vc u c w) : ∀ i, SFoot m vu vc i → E.B ≤ i ∧ i < w.heap.size := by
  intro i hi
  rcases hi with rfl | hi | hi
  · exact ⟨h.hm, block_lt h.blk⟩
  · exact h.ou.lt i hi
  · exact h.oc.lt i hi
theorem SbAt.kept (h : SbAt E S m vu vc u c w) (hk : ∀ i, SFoot m vu vc i → w'.heap[i]? = w.heap[i]?) (hb : Below E.B E.w0 w') (hs : E.B ≤ w'.heap.size) : SbAt E S m vu vc u c w' :=
  ⟨(hk m (.inl rfl)).trans h.blk, ownsRow_block h.ou (fun i hi => hk i (.inr (.inl hi))), ownsRow_block h.oc (fun i hi => hk i (.inr (.inr hi))), h.hm, h.nuc, hb, hs⟩
theorem SbAt.up (h : SbAt E S m vu vc u c w) (hw : Below w.heap.size w w') : SbAt E S m vu vc u c w' :=
  h.kept (fun i hi => hw.block i (h.bounds i hi).2) (below_up' h.below h.size hw) (Nat.le_trans h.size hw.size)
theorem SbAt.alloc (h : SbAt E S m vu vc u c w) (o : Obj) : SbAt E S m vu vc u c (w.alloc o) := h.up (below_al (Below.refl _ _) o)
theorem SbAt.drew (h : SbAt E S m vu vc u c w) : SbAt E S m vu vc u c w.drew := ⟨h.blk, h.ou, h.oc, h.hm, h.nuc, h.below.drew, h.size⟩
/-- a row that is not the builder's grew -/
theorem SbAt.far (h : SbAt E S m vu vc u c w) {row : Option Nat} (hg : w.grownBy w' row) (hr : ∀ i, row = some i → ¬ SFoot m vu vc i ∧ E.B ≤ i) : SbAt E S m vu vc u c w' :=
  h.kept (fun i hi => hg.block i (h.bounds i hi).2 (fun e => (hr i e.symm).1 hi)) (h.below.grown hg h.size (fun k hk => (hr k hk).2)) (Nat.le_trans h.size hg.size)
/-- another row of keys under way is stored -/
theorem SbAt.set_under (h : SbAt E S m vu vc u c w) {v : Value} {l : List Int} (hg : w.grownBy w' vu.ownBlock) (ho : w'.ownsRow E.B 3 1 v l.length (ints l)) (hv : ∀ i, v.ownBlock = some i → vu.ownBlock = some i ∨ w.heap.size ≤ i) :
    SbAt E S m v vc l c (w'.setCell ⟨m, 3, none⟩ v) ∧ Turn (SFoot m vu vc) (SFoot m v vc) w (w'.setCell ⟨m, 3, none⟩ v) := by
  have hlt := h.bounds
  have hb' : ∀ i, SFoot m vu vc i → vu.ownBlock ≠ some i → w'.heap[i]? = w.heap[i]? := fun i hi hne => hg.block i (hlt i hi).2 (fun e => hne e.symm)
  have hblk : w'.heap[m]? = _ := (hb' m (.inl rfl) h.nm.1).trans h.blk
  have hvm : v.ownBlock ≠ some m := ownsRow_ne ho hblk (fun c e => by cases e)
  have hc : ∀ i, vc.ownBlock = some i → (w'.setCell ⟨m, 3, none⟩ v).heap[i]? = w.heap[i]? := fun i hi =>
    (setCell_far (own_far hi h.nm.2)).trans (hb' i (.inr (.inr hi)) (fun e => h.nuc i e hi))
  have t1 : Turn (SFoot m vu vc) (SFoot m v vc) w w' := grown_turn hg (fun k hk => .inr (.inl hk)) (fun i hi => by
    rcases hi with hi | hi | hi
    · exact .inl (.inl hi)
    · exact (hv i hi).imp (fun e => .inr (.inl e)) id
    · exact .inl (.inr (.inr hi)))
  have t2 := t1.trans (setCell_turn (F := SFoot m v vc) (a := ⟨m, 3, none⟩) (.inl rfl) v)
  refine ⟨⟨?_, ?_, ?_, h.hm, ?_, ?_, ?_⟩, t2⟩
  · exact (setCell_block hblk 3 v).trans rfl
  · exact ownsRow_block ho (fun i hi => setCell_far (own_far hi hvm))
  · exact ownsRow_block h.oc hc
  · intro i hi hi2
    rcases hv i hi with e | e
    · exact h.nuc i e hi2
    · have := (h.oc.lt i hi2).2; omega
  · exact h.below.trans (t2.below h.size (fun i hi => (hlt i hi).1))
  · exact Nat.le_trans h.size t2.size
/-- a circle is stored, in new memory -/
theorem SbAt.set_circle (h : SbAt E S m vu vc u c w) {v : Value} {l : List Int} (hw : Below w.heap.size w w') (ho : w'.ownsRow w.heap.size 3 1 v l.length (ints l)) :
    SbAt E S m vu v u l (w'.setCell ⟨m, 4, none⟩ v) ∧ Turn (SFoot m vu vc) (SFoot m vu v) w (w'.setCell ⟨m, 4, none⟩ v) := by
  have hlt := h.bounds
  have hv : ∀ i, v.ownBlock = some i → w.heap.size ≤ i := fun i hi => (ho.lt i hi).1
  have hb' : ∀ i, SFoot m vu vc i → w'.heap[i]? = w.heap[i]? := fun i hi => hw.block i (hlt i hi).2
  have hblk : w'.heap[m]? = _ := (hb' m (.inl rfl)).trans h.blk
  have hvm : v.ownBlock ≠ some m := ownsRow_ne ho hblk (fun c e => by cases e)
  have hc : ∀ i, vu.ownBlock = some i → (w'.setCell ⟨m, 4, none⟩ v).heap[i]? = w.heap[i]? := fun i hi =>
    (setCell_far (own_far hi h.nm.1)).trans (hb' i (.inr (.inl hi)))
  have t1 : Turn (SFoot m vu vc) (SFoot m vu v) w w' := ⟨hw.os, hw.tape, hw.output, hw.size, fun i hi _ => hw.block i hi, fun i hi => by
    rcases hi with hi | hi | hi
    · exact .inl (.inl hi)
    · exact .inl (.inr (.inl hi))
    · exact .inr (hv i hi)⟩
  have t2 := t1.trans (setCell_turn (F := SFoot m vu v) (a := ⟨m, 4, none⟩) (.inl rfl) v)
  refine ⟨⟨?_, ?_, ?_, h.hm, ?_, ?_, ?_⟩, t2⟩
  · exact (setCell_block hblk 4 v).trans rfl
  · exact ownsRow_block h.ou hc
  · exact ⟨ho.1, (ownsRow_block ho (fun i hi => setCell_far (own_far hi hvm))).2.imp id (fun ⟨g, cap, cur, e, hg, r⟩ => ⟨g, cap, cur, e, Nat.le_trans h.size hg, r⟩)⟩
  · intro i hi hi2
    have := (h.ou.lt i hi).2; have := hv i hi2; omega
  · exact h.below.trans (t2.below h.size (fun i hi => (hlt i hi).1))
  · exact Nat.le_trans h.size t2.size
theorem SbAt.cells (h : SbAt E S m vu vc u c w) : w.cell? ⟨m, 0, none⟩ = some (.slice E.Am S.made.length E.cm) ∧ w.cell? ⟨m, 1, none⟩ = some (.slice E.At S.tks.length E.ct) ∧ w.cell? ⟨m, 2, none⟩ = some (.slice E.Ai S.inputs.length E.ci) ∧
    w.cell? ⟨m, 3, none⟩ = some vu ∧ w.cell? ⟨m, 4, none⟩ = some vc ∧ w.frozen? ⟨m, 3, none⟩ = false ∧ w.frozen? ⟨m, 4, none⟩ = false ∧ m < w.heap.size :=
  ⟨cellm h.blk 0, cellm h.blk 1, cellm h.blk 2, cellm h.blk 3, cellm h.blk 4, frozenm h.blk 3, frozenm h.blk 4, block_lt h.blk⟩
end

set_option maxHeartbeats 1000000 in
theorem skey_unmade (E : MkEnv) (S : Sh) (hE : E.Good S) (m n : Nat) (u c : List Int) (k : Int) (w : World) (F : Nat → Prop) (hk0 : 0 ≤ k) (hk9 : k ≤ 9) (h : SbI E S m u c w F) (hmk : mkK S.made k = false) :
    Calls Try.prog 47 #[.pointer (some ⟨m, 0, none⟩), .int .i64 k] w (Gives (SbI E S m u) F w (specP S n u c k)) := by
  rw [specP_unmade hmk]
  obtain ⟨vu, vc, hM, rfl⟩ := h
  obtain ⟨x0, x1, x2, x3, x4, f3, f4, hz⟩ := hM.cells
  obtain ⟨q, rfl⟩ := Int.eq_ofNat_of_zero_le hk0
  have hten := hE.ok.ten
  have hav := atK_value hE.ok q
  by_cases hq : q < S.made.length
  · have hqi : q < S.inputs.length := by have := hE.ok.ins; omega
    have hmq : S.made[q] = false := by
      unfold mkK at hmk
      rw [if_neg (by omega), Int.toNat_natCast, getD_at _ hq] at hmk
      exact hmk
    have hat : atK S.inputs q = S.inputs[q] := by
      unfold atK
      rw [if_neg (by omega), Int.toNat_natCast, getD_at _ hqi]
    obtain ⟨bm, om, em, hbm, cm⟩ := hE.sheet.made.at hM.below hM.size q hq
    obtain ⟨bi, oi, ei, hbi, ci⟩ := hE.ins.at hM.below hM.size q hqi
    rw [em] at x0
    rw [ei] at x2
    simp only [hmq] at cm
    rw [hat] at hav ⊢
    replace hM := Lib.hid hM
    replace hE := Lib.hid hE
    clear hat hmq hmk x3 x4 f3 f4
    go_enter Try.func47, Try.ntmps47
    go_wp2_with fail
    go_ret2
    exact ⟨rfl, hav.1, hav.2, _, ⟨vu, vc, hM.out, rfl⟩, Turn.refl _ _⟩
  · have hat : atK S.inputs q = 0 := by
      unfold atK
      rw [if_neg (by omega), Int.toNat_natCast, getD_out _ (by have := hE.ok.ins; omega)]
    rw [hat]
    replace hM := Lib.hid hM
    clear hE hmk hat hav
    go_enter Try.func47, Try.ntmps47
    go_wp2_with fail
    go_ret2
    exact ⟨rfl, by simp, by simp, _, ⟨vu, vc, hM.out, rfl⟩, Turn.refl _ _⟩

theorem made_at {S : Sh} {q : Nat} (h : mkK S.made q = true) : ∃ hq : q < S.made.length, S.made[q] = true := by
  have hr := mkK_range (show mkK S.made q ≠ false by rw [h]; simp)
  have hq : q < S.made.length := by omega
  refine ⟨hq, ?_⟩
  unfold mkK at h
  rw [if_neg (by omega), Int.toNat_natCast, getD_at _ hq] at h
  exact h

set_option maxHeartbeats 2000000 in
theorem skey_under (E : MkEnv) (S : Sh) (hE : E.Good S) (m n : Nat) (u c : List Int) (k : Int) (w : World) (F : Nat → Prop) (hk0 : 0 ≤ k) (hk9 : k ≤ 9) (h : SbI E S m u c w F) (hmk : mkK S.made k = true) (hul : u.length ≤ 10)
    (ho : 0 ≤ idx (fun x => k == x) u) :
    Calls Try.prog 47 #[.pointer (some ⟨m, 0, none⟩), .int .i64 k] w (Gives (SbI E S m u) F w (specP S n u c k)) := by
  rw [specP_under hmk ho]
  obtain ⟨vu, vc, hM, rfl⟩ := h
  obtain ⟨J, hJ, hJl⟩ := idx_lt ho
  have hfind : (∀ i (hi : i < J), (k == u[i]'(by omega)) = false) ∧ (k == u[J]) = true := by
    unfold idx at hJ
    cases e : u.findIdx? (fun x => k == x) with
    | none => rw [e] at hJ; simp at hJ
    | some i =>
      rw [e] at hJ
      simp only at hJ
      have hi : i = J := by omega
      subst hi
      rw [List.findIdx?_eq_some_iff_getElem] at e
      obtain ⟨h1, h2, h3⟩ := e
      exact ⟨fun i hi => by simpa using h3 i hi, h2⟩
  rw [hJ, Int.toNat_natCast]
  obtain ⟨q, rfl⟩ := Int.eq_ofNat_of_zero_le hk0
  obtain ⟨x0, x1, x2, x3, x4, f3, f4, hz⟩ := hM.cells
  have hten := hE.ok.ten
  obtain ⟨hq, hmq⟩ := made_at hmk
  obtain ⟨bm, om, em, hbm, cm⟩ := hE.sheet.made.at hM.below hM.size q hq
  rw [em] at x0
  simp only [hmq] at cm
  obtain ⟨g, co, hvo, hBg, hgl⟩ := hM.ou.form (by omega)
  subst hvo
  obtain ⟨A', c', e', hlo, hmo, hio⟩ := ownsRow_ints hM.ou
  simp only [Value.slice.injEq, true_and] at e'
  obtain ⟨rfl, rfl⟩ := e'
  unfold maxLen at hmo
  have hue : ∀ i (hi : i < u.length), w.cell? ⟨g, i, none⟩ = some (.int .i64 u[i]) := fun i hi => by
    obtain ⟨b, o, e1, _, e2⟩ := hio i hi
    cases e1; simpa using e2
  have hne : co ≠ J := by omega
  obtain ⟨Av, cv, evc, -⟩ := ownsRow_ints hM.oc
  subst evc
  replace hM := Lib.hid hM
  replace hfind := Lib.hid hfind
  replace hue := Lib.hid hue
  replace hJ := Lib.hid hJ
  clear hE hmk hmq hio ho
  go_enter Try.func47, Try.ntmps47
  go_wp2_with fail
  go_loopw [6] (fun i wr => ∃ (j : Nat), j ≤ J ∧ i = .int .i64 j ∧ wr = w) (fun i _ => u.length - (intOf i).toNat)
  case atStart => exact ⟨0, Nat.zero_le _, rfl, rfl⟩
  case round =>
    obtain ⟨j, hj, rfl, rfl⟩ := hrel
    have hju : j < u.length := by omega
    have y := hue.out j hju
    by_cases hjJ : j < J
    · have hd := hfind.out.1 j hjJ
      have hd' : (u[j] == (q : Int)) = false := by simp only [beq_eq_false_iff_ne] at hd ⊢; exact fun e => hd e.symm
      replace hd := Lib.hid hd
      go_wp2_with fail
      go_roundw
      case rel => exact ⟨j + 1, by omega, by go_num, by first | rfl | trivial⟩
      case measure => simp [intOf]; omega
    · have hjJ' : j = J := by omega
      subst hjJ'
      have hd := hfind.out.2
      have hd' : (u[j] == (q : Int)) = true := by simp only [beq_iff_eq] at hd ⊢; exact hd.symm
      replace hd := Lib.hid hd
      go_wp2_with (at_builtin; go_loud (with_reducible refine wpList_appN (by rfl) (.tmp 56) (.tmp 62) 27 (by rfl) intTy wr.heap.size (.slice (some ⟨wr.heap.size, 0, none⟩) 0 0) 0 [] (by with_unfolding_all rfl) ?_ ⟨g, j, none⟩ (u.length - j) (co - j) (ints (u.drop j)) (by with_unfolding_all rfl) (by simp [ints]) ?_ (one_ints _) ?_ ?_ ?_ ?_))
      · exact World.ownsRow_made wr #[] 0 (Nat.le_refl _) (by simp [maxLen]) rfl
      · intro i v hv
        have hi : i < (u.drop j).length := by
          have := (List.getElem?_eq_some_iff.1 hv).1
          simpa [ints] using this
        have hi2 : j + i < u.length := by simp at hi; omega
        rw [Addr.add_lit, cell_al hgl, hue.out (j + i) hi2]
        simp only [ints, List.getElem?_map, List.getElem?_drop, Option.map_eq_some_iff] at hv
        obtain ⟨x, hx, rfl⟩ := hv
        rw [List.getElem?_eq_getElem hi2] at hx
        cases hx; rfl
      · simp [maxLen]; omega
      · omega
      · simp
      intro v' w2 hown hgrow hat
      have hown' : w2.ownsRow wr.heap.size 3 1 v' (u.drop j).length (ints (u.drop j)) := by simpa using hown
      have hbw : Below wr.heap.size wr w2 := (below_al (Below.refl _ _) _).grown hgrow (by simp) (fun k hk => by cases hk; simp)
      obtain ⟨Av', cv', ev, -⟩ := ownsRow_ints hown'
      subst ev
      have hM2 := hM.out.up hbw
      obtain ⟨z0, z1, z2, z3, z4, e3, e4, hzm⟩ := hM2.cells
      have hset := hM.out.set_circle hbw hown'
      have hl3 : (u.drop j).length = u.length - j := by simp
      rw [hl3] at hset
      replace hl3 := Lib.hid hl3
      replace hset := Lib.hid hset
      clear hown hown' hgrow hat hbw hM2
      go_wp2_with fail
      go_ret2
      exact ⟨rfl, by simp, by simp, _, ⟨_, _, hset.out.1, rfl⟩, hset.out.2⟩
end Go.Proofs.Ytagmdljdcnmpdaa
