import Derived.Test.YtkbblekengdhaaaProg
import Derived.Test.YtkbblekengdhaaaPk1Told
import Derived.Test.YtkbblekengdhaaaPk2Told
import Derived.Test.YtkbblekengdhaaaPk3Told
set_option linter.unusedVariables false
set_option linter.unusedSimpArgs false
namespace Go.Proofs.Ytkbblekengdhaaa
open Go Go.RowKit

/-- where a maker's sheet and inputs lie -/
structure MkEnv where
  Am : Option Addr
  cm : Nat
  At : Option Addr
  ct : Nat
  Ai : Option Addr
  ci : Nat
  B : Nat
  w0 : World
structure MkEnv.Good (E : MkEnv) (S : Sh) : Prop where
  sheet : SheetAt E.B E.w0 E.Am E.cm E.At E.ct S.made (S.tks.map Tk.enc)
  ins : IntsAt E.B E.w0 E.Ai S.inputs
  li : S.inputs.length ≤ E.ci
  mi : E.ci ≤ maxLen
  ok : S.Ok

structure MakerAt (E : MkEnv) (S : Sh) (m b : Nat) (vo vc vr : Value) (st : MkSt) (c : Nat) (w : World) : Prop where
  blk : w.heap[m]? = some (.cells #[.slice E.Am S.made.length E.cm, .slice E.At S.tks.length E.ct, .slice E.Ai S.inputs.length E.ci, .map (some b), vo, vc, vr] 137 (0, 0))
  map : MapIs Try.prog 3 3 w b c st.known
  oo : w.ownsRow E.B 3 1 vo st.open_.length (ints st.open_)
  oc : w.ownsRow E.B 3 1 vc st.circle.length (ints st.circle)
  or : w.ownsRow E.B 3 1 vr st.order.length (ints st.order)
  hm : E.B ≤ m
  hb : E.B ≤ b
  noc : ∀ i, vo.ownBlock = some i → vc.ownBlock ≠ some i
  nor : ∀ i, vo.ownBlock = some i → vr.ownBlock ≠ some i
  ncr : ∀ i, vc.ownBlock = some i → vr.ownBlock ≠ some i
  below : Below E.B E.w0 w
  size : E.B ≤ w.heap.size
def MFoot (m b : Nat) (vo vc vr : Value) (i : Nat) : Prop := i = m ∨ i = b ∨ vo.ownBlock = some i ∨ vc.ownBlock = some i ∨ vr.ownBlock = some i
def MakerIs (E : MkEnv) (S : Sh) (m : Nat) (st : MkSt) (w : World) (F : Nat → Prop) : Prop := ∃ b vo vc vr, MakerAt E S m b vo vc vr st st.order.length w ∧ F = MFoot m b vo vc vr

section
variable {E : MkEnv} {S : Sh} {m b : Nat} {vo vc vr : Value} {st : MkSt} {c : Nat} {w w' : World}
theorem MakerAt.mb (h : MakerAt E S m b vo vc vr st c w) : m ≠ b := by
  obtain ⟨es, c, hm⟩ := h.map.isMap
  intro e; subst e
  have := h.blk; rw [hm] at this; cases this
theorem MakerAt.nm (h : MakerAt E S m b vo vc vr st c w) : vo.ownBlock ≠ some m ∧ vc.ownBlock ≠ some m ∧ vr.ownBlock ≠ some m :=
  ⟨ownsRow_ne h.oo h.blk (fun c e => by cases e), ownsRow_ne h.oc h.blk (fun c e => by cases e), ownsRow_ne h.or h.blk (fun c e => by cases e)⟩
theorem MakerAt.nb (h : MakerAt E S m b vo vc vr st c w) : vo.ownBlock ≠ some b ∧ vc.ownBlock ≠ some b ∧ vr.ownBlock ≠ some b := by
  obtain ⟨es, c, hm⟩ := h.map.isMap
  exact ⟨ownsRow_ne h.oo hm (fun c e => by cases e), ownsRow_ne h.oc hm (fun c e => by cases e), ownsRow_ne h.or hm (fun c e => by cases e)⟩
theorem MakerAt.bounds (h : MakerAt E S m b vo vc vr st c w) : ∀ i, MFoot m b vo vc vr i → E.B ≤ i ∧ i < w.heap.size := by
  intro i hi
  obtain ⟨es, c, hmm⟩ := h.map.isMap
  rcases hi with rfl | rfl | hi | hi | hi
  · exact ⟨h.hm, block_lt h.blk⟩
  · exact ⟨h.hb, block_lt hmm⟩
  · exact h.oo.lt i hi
  · exact h.oc.lt i hi
  · exact h.or.lt i hi
/-- while its blocks stand, so does it -/
theorem MakerAt.kept (h : MakerAt E S m b vo vc vr st c w) (hk : ∀ i, MFoot m b vo vc vr i → w'.heap[i]? = w.heap[i]?) (hb : Below E.B E.w0 w') (hs : E.B ≤ w'.heap.size) : MakerAt E S m b vo vc vr st c w' :=
  ⟨(hk m (.inl rfl)).trans h.blk, h.map.block (hk b (.inr (.inl rfl))), ownsRow_block h.oo (fun i hi => hk i (.inr (.inr (.inl hi)))), ownsRow_block h.oc (fun i hi => hk i (.inr (.inr (.inr (.inl hi))))),
    ownsRow_block h.or (fun i hi => hk i (.inr (.inr (.inr (.inr hi))))), h.hm, h.hb, h.noc, h.nor, h.ncr, hb, hs⟩
theorem MakerAt.up (h : MakerAt E S m b vo vc vr st c w) (hw : Below w.heap.size w w') : MakerAt E S m b vo vc vr st c w' :=
  h.kept (fun i hi => hw.block i (h.bounds i hi).2) (below_up' h.below h.size hw) (Nat.le_trans h.size hw.size)
theorem MakerAt.alloc (h : MakerAt E S m b vo vc vr st c w) (o : Obj) : MakerAt E S m b vo vc vr st c (w.alloc o) := h.up (below_al (Below.refl _ _) o)
theorem MakerAt.drewN (h : MakerAt E S m b vo vc vr st c w) (n : Nat) : MakerAt E S m b vo vc vr st c (w.drewN n) := ⟨h.blk, h.map, h.oo, h.oc, h.or, h.hm, h.hb, h.noc, h.nor, h.ncr, ⟨h.below.os, h.below.tape, h.below.output, h.below.size, h.below.block⟩, h.size⟩

theorem MakerAt.drew (h : MakerAt E S m b vo vc vr st c w) : MakerAt E S m b vo vc vr st c w.drew := ⟨h.blk, h.map, h.oo, h.oc, h.or, h.hm, h.hb, h.noc, h.nor, h.ncr, ⟨h.below.os, h.below.tape, h.below.output, h.below.size, h.below.block⟩, h.size⟩

/-- another row of open keys is stored -/
theorem MakerAt.set_open (h : MakerAt E S m b vo vc vr st c w) {v : Value} {l : List Int} (hg : w.grownBy w' vo.ownBlock) (ho : w'.ownsRow E.B 3 1 v l.length (ints l)) (hv : ∀ i, v.ownBlock = some i → vo.ownBlock = some i ∨ w.heap.size ≤ i) :
    MakerAt E S m b v vc vr { st with open_ := l } c (w'.setCell ⟨m, 4, none⟩ v) ∧ Turn (MFoot m b vo vc vr) (MFoot m b v vc vr) w (w'.setCell ⟨m, 4, none⟩ v) := by
  have hlt := h.bounds
  have hb' : ∀ i, MFoot m b vo vc vr i → vo.ownBlock ≠ some i → w'.heap[i]? = w.heap[i]? := fun i hi hne => hg.block i (hlt i hi).2 (fun e => hne e.symm)
  have hblk : w'.heap[m]? = _ := (hb' m (.inl rfl) h.nm.1).trans h.blk
  have hvm : v.ownBlock ≠ some m := ownsRow_ne ho hblk (fun c e => by cases e)
  have hmb := h.mb
  have hc : ∀ i, vc.ownBlock = some i → (w'.setCell ⟨m, 4, none⟩ v).heap[i]? = w.heap[i]? := fun i hi =>
    (setCell_far (own_far hi h.nm.2.1)).trans (hb' i (.inr (.inr (.inr (.inl hi)))) (fun e => h.noc i e hi))
  have hr : ∀ i, vr.ownBlock = some i → (w'.setCell ⟨m, 4, none⟩ v).heap[i]? = w.heap[i]? := fun i hi =>
    (setCell_far (own_far hi h.nm.2.2)).trans (hb' i (.inr (.inr (.inr (.inr hi)))) (fun e => h.nor i e hi))
  have t1 : Turn (MFoot m b vo vc vr) (MFoot m b v vc vr) w w' := grown_turn hg (fun k hk => .inr (.inr (.inl hk))) (fun i hi => by
    rcases hi with hi | hi | hi | hi | hi
    · exact .inl (.inl hi)
    · exact .inl (.inr (.inl hi))
    · exact (hv i hi).imp (fun e => .inr (.inr (.inl e))) id
    · exact .inl (.inr (.inr (.inr (.inl hi))))
    · exact .inl (.inr (.inr (.inr (.inr hi)))))
  have t2 := t1.trans (setCell_turn (F := MFoot m b v vc vr) (a := ⟨m, 4, none⟩) (.inl rfl) v)
  refine ⟨⟨?_, ?_, ?_, ?_, ?_, h.hm, h.hb, ?_, ?_, h.ncr, ?_, ?_⟩, t2⟩
  · exact (setCell_block hblk 4 v).trans rfl
  · exact h.map.block ((setCell_far (fun e => hmb e.symm)).trans (hb' b (.inr (.inl rfl)) h.nb.1))
  · exact ownsRow_block ho (fun i hi => setCell_far (own_far hi hvm))
  · exact ownsRow_block h.oc hc
  · exact ownsRow_block h.or hr
  · intro i hi hi2
    rcases hv i hi with e | e
    · exact h.noc i e hi2
    · have := (h.oc.lt i hi2).2; omega
  · intro i hi hi2
    rcases hv i hi with e | e
    · exact h.nor i e hi2
    · have := (h.or.lt i hi2).2; omega
  · exact h.below.trans (t2.below h.size (fun i hi => (hlt i hi).1))
  · exact Nat.le_trans h.size t2.size
/-- another row of the order is stored -/
theorem MakerAt.set_order (h : MakerAt E S m b vo vc vr st c w) {v : Value} {l : List Int} (hg : w.grownBy w' vr.ownBlock) (ho : w'.ownsRow E.B 3 1 v l.length (ints l)) (hv : ∀ i, v.ownBlock = some i → vr.ownBlock = some i ∨ w.heap.size ≤ i) :
    MakerAt E S m b vo vc v { st with order := l } c (w'.setCell ⟨m, 6, none⟩ v) ∧ Turn (MFoot m b vo vc vr) (MFoot m b vo vc v) w (w'.setCell ⟨m, 6, none⟩ v) := by
  have hlt := h.bounds
  have hb' : ∀ i, MFoot m b vo vc vr i → vr.ownBlock ≠ some i → w'.heap[i]? = w.heap[i]? := fun i hi hne => hg.block i (hlt i hi).2 (fun e => hne e.symm)
  have hblk : w'.heap[m]? = _ := (hb' m (.inl rfl) h.nm.2.2).trans h.blk
  have hvm : v.ownBlock ≠ some m := ownsRow_ne ho hblk (fun c e => by cases e)
  have hmb := h.mb
  have hc : ∀ i, vc.ownBlock = some i → (w'.setCell ⟨m, 6, none⟩ v).heap[i]? = w.heap[i]? := fun i hi =>
    (setCell_far (own_far hi h.nm.2.1)).trans (hb' i (.inr (.inr (.inr (.inl hi)))) (fun e => h.ncr i hi e))
  have hr : ∀ i, vo.ownBlock = some i → (w'.setCell ⟨m, 6, none⟩ v).heap[i]? = w.heap[i]? := fun i hi =>
    (setCell_far (own_far hi h.nm.1)).trans (hb' i (.inr (.inr (.inl hi))) (fun e => h.nor i hi e))
  have t1 : Turn (MFoot m b vo vc vr) (MFoot m b vo vc v) w w' := grown_turn hg (fun k hk => .inr (.inr (.inr (.inr hk)))) (fun i hi => by
    rcases hi with hi | hi | hi | hi | hi
    · exact .inl (.inl hi)
    · exact .inl (.inr (.inl hi))
    · exact .inl (.inr (.inr (.inl hi)))
    · exact .inl (.inr (.inr (.inr (.inl hi))))
    · exact (hv i hi).imp (fun e => .inr (.inr (.inr (.inr e)))) id)
  have t2 := t1.trans (setCell_turn (F := MFoot m b vo vc v) (a := ⟨m, 6, none⟩) (.inl rfl) v)
  refine ⟨⟨?_, ?_, ?_, ?_, ?_, h.hm, h.hb, h.noc, ?_, ?_, ?_, ?_⟩, t2⟩
  · exact (setCell_block hblk 6 v).trans rfl
  · exact h.map.block ((setCell_far (fun e => hmb e.symm)).trans (hb' b (.inr (.inl rfl)) h.nb.2.2))
  · exact ownsRow_block h.oo hr
  · exact ownsRow_block h.oc hc
  · exact ownsRow_block ho (fun i hi => setCell_far (own_far hi hvm))
  · intro i hi hi2
    rcases hv i hi2 with e | e
    · exact h.nor i hi e
    · have := (h.oo.lt i hi).2; omega
  · intro i hi hi2
    rcases hv i hi2 with e | e
    · exact h.ncr i hi e
    · have := (h.oc.lt i hi).2; omega
  · exact h.below.trans (t2.below h.size (fun i hi => (hlt i hi).1))
  · exact Nat.le_trans h.size t2.size
/-- a circle is stored, in new memory -/
theorem MakerAt.set_circle (h : MakerAt E S m b vo vc vr st c w) {v : Value} {l : List Int} (hw : Below w.heap.size w w') (ho : w'.ownsRow w.heap.size 3 1 v l.length (ints l)) :
    MakerAt E S m b vo v vr { st with circle := l } c (w'.setCell ⟨m, 5, none⟩ v) ∧ Turn (MFoot m b vo vc vr) (MFoot m b vo v vr) w (w'.setCell ⟨m, 5, none⟩ v) := by
  have hlt := h.bounds
  have hv : ∀ i, v.ownBlock = some i → w.heap.size ≤ i := fun i hi => (ho.lt i hi).1
  have hb' : ∀ i, MFoot m b vo vc vr i → w'.heap[i]? = w.heap[i]? := fun i hi => hw.block i (hlt i hi).2
  have hblk : w'.heap[m]? = _ := (hb' m (.inl rfl)).trans h.blk
  have hvm : v.ownBlock ≠ some m := ownsRow_ne ho hblk (fun c e => by cases e)
  have hmb := h.mb
  have hc : ∀ i, vo.ownBlock = some i → (w'.setCell ⟨m, 5, none⟩ v).heap[i]? = w.heap[i]? := fun i hi =>
    (setCell_far (own_far hi h.nm.1)).trans (hb' i (.inr (.inr (.inl hi))))
  have hr : ∀ i, vr.ownBlock = some i → (w'.setCell ⟨m, 5, none⟩ v).heap[i]? = w.heap[i]? := fun i hi =>
    (setCell_far (own_far hi h.nm.2.2)).trans (hb' i (.inr (.inr (.inr (.inr hi)))))
  have t1 : Turn (MFoot m b vo vc vr) (MFoot m b vo v vr) w w' := ⟨hw.os, hw.tape, hw.output, hw.size, fun i hi _ => hw.block i hi, fun i hi => by
    rcases hi with hi | hi | hi | hi | hi
    · exact .inl (.inl hi)
    · exact .inl (.inr (.inl hi))
    · exact .inl (.inr (.inr (.inl hi)))
    · exact .inr (hv i hi)
    · exact .inl (.inr (.inr (.inr (.inr hi))))⟩
  have t2 := t1.trans (setCell_turn (F := MFoot m b vo v vr) (a := ⟨m, 5, none⟩) (.inl rfl) v)
  refine ⟨⟨?_, ?_, ?_, ?_, ?_, h.hm, h.hb, ?_, h.nor, ?_, ?_, ?_⟩, t2⟩
  · exact (setCell_block hblk 5 v).trans rfl
  · exact h.map.block ((setCell_far (fun e => hmb e.symm)).trans (hb' b (.inr (.inl rfl))))
  · exact ownsRow_block h.oo hc
  · exact ⟨ho.1, (ownsRow_block ho (fun i hi => setCell_far (own_far hi hvm))).2.imp id (fun ⟨g, cap, cur, e, hg, r⟩ => ⟨g, cap, cur, e, Nat.le_trans h.size hg, r⟩)⟩
  · exact ownsRow_block h.or hr
  · intro i hi hi2
    have := (h.oo.lt i hi).2; have := hv i hi2; omega
  · intro i hi hi2
    have := (h.or.lt i hi2).2; have := hv i hi; omega
  · exact h.below.trans (t2.below h.size (fun i hi => (hlt i hi).1))
  · exact Nat.le_trans h.size t2.size
/-- a value is put into the map -/
theorem MakerAt.set_map (h : MakerAt E S m b vo vc vr st c w) {f : Int → Option Int} (hmap : MapIs Try.prog 3 3 w' b (c + 1) f) (hg : w.grownBy w' (some b)) :
    MakerAt E S m b vo vc vr { st with known := f } (c + 1) w' ∧ Turn (MFoot m b vo vc vr) (MFoot m b vo vc vr) w w' := by
  have hb' : ∀ i, MFoot m b vo vc vr i → i ≠ b → w'.heap[i]? = w.heap[i]? := fun i hi hne => hg.block i (h.bounds i hi).2 (fun e => hne (Option.some.inj e))
  have t : Turn (MFoot m b vo vc vr) (MFoot m b vo vc vr) w w' := grown_turn hg (fun k hk => .inr (.inl (Option.some.inj hk).symm)) (fun i hi => .inl hi)
  exact ⟨⟨(hb' m (.inl rfl) h.mb).trans h.blk, hmap, ownsRow_block h.oo (fun i hi => hb' i (.inr (.inr (.inl hi))) (own_far hi h.nb.1)), ownsRow_block h.oc (fun i hi => hb' i (.inr (.inr (.inr (.inl hi)))) (own_far hi h.nb.2.1)),
    ownsRow_block h.or (fun i hi => hb' i (.inr (.inr (.inr (.inr hi)))) (own_far hi h.nb.2.2)), h.hm, h.hb, h.noc, h.nor, h.ncr, h.below.trans (t.below h.size (fun i hi => (h.bounds i hi).1)), Nat.le_trans h.size t.size⟩, t⟩
end
/-- a maker that is between two of its keys -/
def MkI (E : MkEnv) (S : Sh) (m n : Nat) (s : MkSt) (w : World) (F : Nat → Prop) : Prop := MakerIs E S m s w F ∧ Inv S n s
theorem MakerIs.holds (E : MkEnv) (S : Sh) (m n : Nat) : Holds (MkI E S m n) E.B E.w0 where
  old := by
    rintro s w F ⟨⟨b, vo, vc, vr, h, rfl⟩, _⟩
    exact ⟨h.below, h.size⟩
  own := by
    rintro s w F ⟨⟨b, vo, vc, vr, h, rfl⟩, _⟩
    exact h.bounds
  alloc := by
    rintro s w F o ⟨⟨b, vo, vc, vr, h, rfl⟩, hi⟩
    exact ⟨⟨b, vo, vc, vr, h.alloc o, rfl⟩, hi⟩
/-- block m behind an append to another row -/
theorem MakerAt.blk_grown {E : MkEnv} {S : Sh} {m b : Nat} {vo vc vr : Value} {st : MkSt} {c : Nat} {w w' : World} {o : Obj} (h : MakerAt E S m b vo vc vr st c w) {v : Value} (hv : v.ownBlock ≠ some m) (hg : (w.alloc o).grownBy w' v.ownBlock) :
    w'.heap[m]? = w.heap[m]? :=
  (hg.block m (by have := block_lt h.blk; simp; omega) (fun e => hv e.symm)).trans (Below.heap_alloc w o m (block_lt h.blk))
theorem MkI.kept {E : MkEnv} {S : Sh} {m n : Nat} {s : MkSt} {w w' : World} {F : Nat → Prop} (h : MkI E S m n s w F) (hk : ∀ i, F i → w'.heap[i]? = w.heap[i]?) (hb : Below E.B E.w0 w') (hs : E.B ≤ w'.heap.size) : MkI E S m n s w' F := by
  obtain ⟨⟨b, vo, vc, vr, h, rfl⟩, hi⟩ := h
  exact ⟨⟨b, vo, vc, vr, h.kept hk hb hs, rfl⟩, hi⟩
theorem MkI.grown {E : MkEnv} {S : Sh} {m n : Nat} {s : MkSt} {w w' : World} {F : Nat → Prop} {o : Obj} {row : Option Nat} (h : MkI E S m n s w F) (hg : (w.alloc o).grownBy w' row) (hr : ∀ i, F i → row ≠ some i) (hB : ∀ i, row = some i → E.B ≤ i) : MkI E S m n s w' F := by
  have ho := (MakerIs.holds E S m n).old _ _ _ h
  refine h.kept (fun i hi => (hg.block i (by have := ((MakerIs.holds E S m n).own _ _ _ h i hi).2; simp; omega) (fun e => hr i hi e.symm)).trans (heap_old ((MakerIs.holds E S m n).own _ _ _ h i hi).2)) ?_ (by have := hg.size; simp at this; omega)
  exact (below_al' ho.1 o ho.2).grown hg (by have := ho.2; simp; omega) hB
end Go.Proofs.Ytkbblekengdhaaa

set_option linter.unusedVariables false
set_option linter.unusedSimpArgs false
namespace Go.Proofs.Ytkbblekengdhaaa
open Go Go.RowKit

theorem l6In_calls (n lo hi : Int) (w : World) : Calls Try.prog 87 #[.int .i64 n, .int .i64 lo, .int .i64 hi] w fun e w' => e = .returned (.bool (decide (lo ≤ n ∧ n ≤ hi))) ∧ w = w' := by
  by_cases h : lo ≤ n <;>
  · go_enter Try.func87, Try.ntmps87
    go_wp2
    go_ret
    refine ⟨?_, rfl⟩
    by_cases h2 : n ≤ hi <;> simp [h, h2] <;> omega

def shape (k : Int) : Int × Int × Bool :=
  if k = 0 then (0, 96, true) else if k = 1 then (0, 9, true) else if k = 2 ∨ k = 3 then (2, 0, true) else if k = 4 then (3, 0, true) else if k = 5 then (1, 9, true) else (0, 0, false)
theorem shape_fits (k n : Int) (len : Nat) : fitsN k n len = ((shape k).2.2 && decide ((len : Int) = (shape k).1) && decide (0 ≤ n ∧ n ≤ (shape k).2.1)) := by
  rw [Bool.eq_iff_iff]
  unfold fitsN shape
  split
  · simp; omega
  split
  · simp; omega
  split
  · simp; omega
  split
  · simp; omega
  split
  · simp; omega
  · simp

set_option maxHeartbeats 1000000 in
theorem l1Shape_calls (k : Int) (w : World) : Calls Try.prog 148 #[.int .i64 k] w fun e w' => e = .returned (.tuple #[.int .i64 (shape k).1, .int .i64 (shape k).2.1, .bool (shape k).2.2]) ∧ w = w' := by
  by_cases k0 : k = 0
  · subst k0
    go_enter Try.func148, Try.ntmps148
    go_wp2
    go_ret3
    exact ⟨rfl, rfl⟩
  by_cases k1 : k = 1
  · subst k1
    go_enter Try.func148, Try.ntmps148
    go_wp2
    go_ret3
    exact ⟨rfl, rfl⟩
  by_cases k2 : k = 2
  · subst k2
    go_enter Try.func148, Try.ntmps148
    go_wp2
    go_ret3
    exact ⟨rfl, rfl⟩
  by_cases k3 : k = 3
  · subst k3
    go_enter Try.func148, Try.ntmps148
    go_wp2
    go_ret3
    exact ⟨rfl, rfl⟩
  by_cases k4 : k = 4
  · subst k4
    go_enter Try.func148, Try.ntmps148
    go_wp2
    go_ret3
    exact ⟨rfl, rfl⟩
  by_cases k5 : k = 5
  · subst k5
    go_enter Try.func148, Try.ntmps148
    go_wp2
    go_ret3
    exact ⟨rfl, rfl⟩
  have hr : shape k = (0, 0, false) := by simp [shape, *]
  have e0 : (k == 0) = false := by simp [k0]
  have e1 : (k == 1) = false := by simp [k1]
  have e2 : (k == 2) = false := by simp [k2]
  have e3 : (k == 3) = false := by simp [k3]
  have e4 : (k == 4) = false := by simp [k4]
  have e5 : (k == 5) = false := by simp [k5]
  replace hr := Lib.hid hr
  clear k0 k1 k2 k3 k4 k5
  go_enter Try.func148, Try.ntmps148
  go_wp2
  go_ret3
  exact ⟨by rw [hr.out]; rfl, rfl⟩

set_option maxHeartbeats 1000000 in
theorem l1Fit_calls : ∀ (t : Task) (A : Option Addr) (c B : Nat) (w0 w : World), Below B w0 w → B ≤ w.heap.size → t.parts.length ≤ c → c ≤ maxLen → PartsIs B w0 A 0 t.parts →
    Calls Try.prog 129 #[.agg #[.int .i64 t.kind, .int .i64 t.n, .slice A t.parts.length c]] w fun e w' => e = .returned (.bool (fitAll t)) ∧ Below w.heap.size w w' := by
  refine Task.ind ?_
  intro k n ps ih A c B w0 w hb hB hc hm hp
  simp only [Task.kind, Task.n, Task.parts] at hc hp ⊢
  unfold maxLen at hm
  have hsh := l1Shape_calls k
  have hfit := shape_fits k n ps.length
  have hall : fitAll (.mk k n ps) = (fitsN k n ps.length && fitAllL ps) := by rw [fitAll]
  rw [hfit] at hall
  generalize shape k = sh at *
  obtain ⟨q, top, ok⟩ := sh
  simp only at hsh hall
  replace hsh := Lib.hid hsh
  replace ih := Lib.hid ih
  replace hb := Lib.hid hb
  replace hp := Lib.hid hp
  clear hfit
  cases ok with
  | false =>
    replace hall := Lib.hid hall
    go_enter Try.func129, Try.ntmps129
    go_wp2_with fail
    refine (hsh.out _).mono ?_
    rintro e w1 ⟨rfl, rfl⟩
    go_wp2_with fail
    go_ret
    exact ⟨by rw [hall.out]; rfl, below_al (Below.refl _ _) _⟩
  | true =>
    by_cases hq : (ps.length : Int) = q
    case neg =>
      have hq' : ((ps.length : Int) != q) = true := by simp [hq]
      have hall2 : fitAll (.mk k n ps) = false := by rw [hall]; simp [hq]
      replace hall2 := Lib.hid hall2
      clear hall
      replace hq := Lib.hid hq
      go_enter Try.func129, Try.ntmps129
      go_wp2_with fail
      refine (hsh.out _).mono ?_
      rintro e w1 ⟨rfl, rfl⟩
      go_wp2_with fail
      go_ret
      exact ⟨by rw [hall2.out]; rfl, below_al (Below.refl _ _) _⟩
    have hq' : ((ps.length : Int) != q) = false := by simp [hq]
    have hin := l6In_calls n 0 top
    by_cases hn : 0 ≤ n ∧ n ≤ top
    case neg =>
      have hall2 : fitAll (.mk k n ps) = false := by rw [hall]; simp [hn]
      have hd : decide (0 ≤ n ∧ n ≤ top) = false := by simp [hn]
      rw [hd] at hin
      replace hin := Lib.hid hin
      replace hall2 := Lib.hid hall2
      clear hall hd hn
      replace hq := Lib.hid hq
      go_enter Try.func129, Try.ntmps129
      go_wp2_with fail
      refine (hsh.out _).mono ?_
      rintro e w1 ⟨rfl, rfl⟩
      go_wp2_with fail
      refine (hin.out _).mono ?_
      rintro e w1 ⟨rfl, rfl⟩
      go_wp2_with fail
      go_ret
      exact ⟨by rw [hall2.out]; rfl, below_al (Below.refl _ _) _⟩
    have hd : decide (0 ≤ n ∧ n ≤ top) = true := by simp [hn]
    rw [hd] at hin
    have hall2 : fitAll (.mk k n ps) = fitAllL ps := by rw [hall]; simp [hn, hq]
    replace hin := Lib.hid hin
    replace hall2 := Lib.hid hall2
    clear hall hd hn
    replace hq := Lib.hid hq
    go_enter Try.func129, Try.ntmps129
    go_wp2_with fail
    refine (hsh.out _).mono ?_
    rintro e w1 ⟨rfl, rfl⟩
    go_wp2_with fail
    refine (hin.out _).mono ?_
    rintro e w1 ⟨rfl, rfl⟩
    go_wp2_with fail
    go_loopw [6] (fun i wr => ∃ (j : Nat), j ≤ ps.length ∧ i = .int .i64 j ∧ w.heap.size < wr.heap.size ∧ wr.cell? ⟨w.heap.size, 2, none⟩ = some (.slice A ps.length c) ∧ Hid (Below w.heap.size w wr) ∧ Hid (fitAllL ps = fitAllL (ps.drop j))) (fun i _ => ps.length - (intOf i).toNat)
    case atStart => exact ⟨0, Nat.zero_le _, rfl, by simp, by simp, Lib.hid (below_al (Below.refl _ _) _), Lib.hid rfl⟩
    case round =>
      obtain ⟨j, hj, rfl, hz, hbox, hw, he⟩ := hrel
      by_cases hlt : j < ps.length
      · obtain ⟨b, o, A', c', rfl, hbl, y0, y1, y2, hc', hm', hp'⟩ := hp.out.at (below_up' hb.out hB hw.out) j hlt
        have hbl' : b < wr.heap.size := by have := hw.out.size; omega
        have he2 := he.out
        rw [List.drop_eq_getElem_cons hlt, fitAllL] at he2
        have hcall := ih.out ps[j] (List.getElem_mem _) A' c' B w0 wr (below_up' hb.out hB hw.out) (by have := hw.out.size; omega) hc' hm' hp'
        replace hcall := Lib.hid hcall
        clear he
        cases hv : fitAll ps[j] with
        | false =>
          rw [hv] at he2 hcall
          replace he2 := Lib.hid he2
          clear hv
          go_wp2_with fail
          refine hcall.out.mono ?_
          rintro e w2 ⟨rfl, h5⟩
          replace h5 := Lib.hid h5
          go_wp2_with fail
          go_ret
          exact ⟨by rw [hall2.out, he2.out]; rfl, below_up hw.out h5.out⟩
        | true =>
          rw [hv, Bool.true_and] at he2
          rw [hv] at hcall
          replace he2 := Lib.hid he2
          clear hv
          go_wp2_with fail
          refine hcall.out.mono ?_
          rintro e w2 ⟨rfl, h5⟩
          have z0 := kept_cell h5 hz hbox
          have hz2 : w.heap.size < w2.heap.size := by have := h5.size; omega
          replace h5 := Lib.hid h5
          clear hbox y0 y1 y2
          go_wp2_with fail
          go_roundw
          case rel => exact ⟨j + 1, by omega, by go_num, hz2, z0, Lib.hid (below_up hw.out h5.out), he2⟩
          case measure => simp [intOf]; omega
      · have he2 := he.out
        rw [List.drop_eq_nil_of_le (by omega), fitAllL] at he2
        replace he2 := Lib.hid he2
        clear he
        go_wp2_with fail
        go_ret
        exact ⟨by rw [hall2.out, he2.out]; rfl, hw.out⟩

theorem nodesL_get : ∀ {ps : List Task} {i : Nat} (h : i < ps.length), nodesL (ps.drop i) = nodes ps[i] + nodesL (ps.drop (i + 1)) := by
  intro ps i h
  rw [List.drop_eq_getElem_cons h, nodesL]

set_option maxHeartbeats 1000000 in
theorem l1Nodes_calls : ∀ (t : Task) (A : Option Addr) (c B : Nat) (w0 w : World), nodes t ≤ 1000000000 → Below B w0 w → B ≤ w.heap.size → t.parts.length ≤ c → c ≤ maxLen → PartsIs B w0 A 0 t.parts →
    Calls Try.prog 130 #[.agg #[.int .i64 t.kind, .int .i64 t.n, .slice A t.parts.length c]] w fun e w' => e = .returned (.int .i64 (nodes t)) ∧ Below w.heap.size w w' := by
  refine Task.ind ?_
  intro k n ps ih A c B w0 w hnb hb hB hc hm hp
  simp only [Task.kind, Task.n, Task.parts] at hc hp ⊢
  unfold maxLen at hm
  have hall : nodes (.mk k n ps) = 1 + nodesL ps := by rw [nodes]
  rw [hall] at hnb
  replace ih := Lib.hid ih
  replace hb := Lib.hid hb
  replace hp := Lib.hid hp
  replace hall := Lib.hid hall
  replace hnb := Lib.hid hnb
  go_enter Try.func130, Try.ntmps130
  go_wp2_with fail
  go_loopw [3, 4] (fun m i wr => ∃ (j : Nat) (x : Int), j ≤ ps.length ∧ i = .int .i64 j ∧ m = .int .i64 x ∧ 1 ≤ x ∧ x ≤ 1000000000 ∧ w.heap.size < wr.heap.size ∧ wr.cell? ⟨w.heap.size, 2, none⟩ = some (.slice A ps.length c) ∧ Hid (Below w.heap.size w wr) ∧ Hid (1 + nodesL ps = x + nodesL (ps.drop j))) (fun _ i _ => ps.length - (intOf i).toNat)
  case atStart => exact ⟨0, 1, Nat.zero_le _, rfl, rfl, by omega, by omega, by simp, by simp, Lib.hid (below_al (Below.refl _ _) _), Lib.hid rfl⟩
  case round =>
    obtain ⟨j, x, hj, rfl, rfl, hx1, hx2, hz, hbox, hw, he⟩ := hrel
    by_cases hlt : j < ps.length
    · obtain ⟨b, o, A', c', rfl, hbl, y0, y1, y2, hc', hm', hp'⟩ := hp.out.at (below_up' hb.out hB hw.out) j hlt
      have hbl' : b < wr.heap.size := by have := hw.out.size; omega
      have he2 := he.out
      rw [nodesL_get hlt] at he2
      have hn1 := nodes_pos ps[j]
      have hn2 := nodesL_pos (ps.drop (j + 1))
      have hnb2 := hnb.out
      have hcall := ih.out ps[j] (List.getElem_mem _) A' c' B w0 wr (by omega) (below_up' hb.out hB hw.out) (by have := hw.out.size; omega) hc' hm' hp'
      have hsum : x + nodes ps[j] ≤ 1000000000 := by omega
      generalize nodes ps[j] = y at *
      replace hcall := Lib.hid hcall
      replace he2 := Lib.hid he2
      clear he hn2 hnb2
      go_wp2_with fail
      refine hcall.out.mono ?_
      rintro e w2 ⟨rfl, h5⟩
      have z0 := kept_cell h5 hz hbox
      have hz2 : w.heap.size < w2.heap.size := by have := h5.size; omega
      replace h5 := Lib.hid h5
      clear hbox y0 y1 y2
      go_wp2_with fail
      go_roundw
      case rel => exact ⟨j + 1, x + y, by omega, by go_num, rfl, by omega, by omega, hz2, z0, Lib.hid (below_up hw.out h5.out), Lib.hid (by have := he2.out; omega)⟩
      case measure => simp [intOf]; omega
    · have he2 := he.out
      rw [List.drop_eq_nil_of_le (by omega), nodesL] at he2
      replace he2 := Lib.hid he2
      clear he
      go_wp2_with fail
      go_ret
      exact ⟨by rw [hall.out, he2.out]; simp, hw.out⟩

set_option maxHeartbeats 1000000 in
theorem specTaskOk_calls (t : Task) (A : Option Addr) (c B : Nat) (w0 w : World) (hn : nodes t ≤ 1000000000) (hb : Below B w0 w) (hB : B ≤ w.heap.size) (hc : t.parts.length ≤ c) (hm : c ≤ maxLen) (hp : PartsIs B w0 A 0 t.parts) :
    Calls Try.prog 96 #[.agg #[.int .i64 t.kind, .int .i64 t.n, .slice A t.parts.length c]] w fun e w' => e = .returned (.bool (okT t)) ∧ Below w.heap.size w w' := by
  have h1 := fun w1 (hw : Below w.heap.size w w1) => l1Fit_calls t A c B w0 w1 (below_up' hb hB hw) (Nat.le_trans hB hw.size) hc hm hp
  have h2 := fun w1 (hw : Below w.heap.size w w1) => l1Nodes_calls t A c B w0 w1 hn (below_up' hb hB hw) (Nat.le_trans hB hw.size) hc hm hp
  have hr : okT t = (fitAll t && decide (nodes t ≤ 15)) := rfl
  generalize nodes t = m at *
  cases hf : fitAll t with
  | false =>
    rw [hf] at h1 hr
    replace h1 := Lib.hid h1
    replace hr := Lib.hid hr
    clear hb hp h2 hf hn
    go_enter Try.func96, Try.ntmps96
    go_wp2_with fail
    refine (h1.out _ (below_al (Below.refl _ _) _)).mono ?_
    rintro e w1 ⟨rfl, h3⟩
    replace h3 := Lib.hid h3
    go_wp2_with fail
    go_ret
    exact ⟨by rw [hr.out]; rfl, below_from h3.out⟩
  | true =>
    rw [hf, Bool.true_and] at hr
    rw [hf] at h1
    replace h1 := Lib.hid h1
    replace h2 := Lib.hid h2
    replace hr := Lib.hid hr
    clear hb hp hf hn
    go_enter Try.func96, Try.ntmps96
    go_wp2_with fail
    refine (h1.out _ (below_al (Below.refl _ _) _)).mono ?_
    rintro e w1 ⟨rfl, h3⟩
    have x0 : w1.cell? ⟨w.heap.size, 0, none⟩ = some (.int .i64 t.kind) := (h3.cell (p := ⟨w.heap.size, 0, none⟩) (by simp)).trans (by simp)
    have x1 : w1.cell? ⟨w.heap.size, 1, none⟩ = some (.int .i64 t.n) := (h3.cell (p := ⟨w.heap.size, 1, none⟩) (by simp)).trans (by simp)
    have x2 : w1.cell? ⟨w.heap.size, 2, none⟩ = some (.slice A t.parts.length c) := (h3.cell (p := ⟨w.heap.size, 2, none⟩) (by simp)).trans (by simp)
    have b1 := below_from h3
    replace b1 := Lib.hid b1
    clear h3
    go_wp2_with fail
    refine (h2.out _ b1.out).mono ?_
    rintro e w2 ⟨rfl, h3⟩
    replace h3 := Lib.hid h3
    go_wp2_with fail
    go_ret
    exact ⟨by rw [hr.out]; rfl, below_up b1.out h3.out⟩
end Go.Proofs.Ytkbblekengdhaaa

set_option linter.unusedVariables false
set_option linter.unusedSimpArgs false
namespace Go.Proofs.Ytkbblekengdhaaa
open Go Go.RowKit

theorem vals_cons (x : Int) (xs : List Int) : vals (x :: xs) = (decide (0 ≤ x ∧ x ≤ 96) && vals xs) := by simp [vals]

set_option maxHeartbeats 1000000 in
theorem l2Values_calls (A : Option Addr) (c : Nat) (xs : List Int) (B : Nat) (w0 w : World) (hb : Below B w0 w) (hB : B ≤ w.heap.size) (hm : xs.length ≤ maxLen) (hx : IntsAt B w0 A xs) :
    Calls Try.prog 119 #[.slice A xs.length c] w fun e w' => e = .returned (.bool (valsOk xs)) ∧ Below w.heap.size w w' := by
  unfold maxLen at hm
  by_cases hl : xs.length ≤ 10
  case neg =>
    have hr : valsOk xs = false := by simp [valsOk, hl]
    replace hr := Lib.hid hr
    clear hb hx
    go_enter Try.func119, Try.ntmps119
    go_wp2_with fail
    go_ret
    exact ⟨by rw [hr.out]; rfl, Below.refl _ _⟩
  have hr : valsOk xs = vals xs := by simp [valsOk, hl]
  have hx' := fun j (hj : j < xs.length) => hx.at hb hB j hj
  have hin := fun n => l6In_calls n 0 96
  replace hx' := Lib.hid hx'
  replace hin := Lib.hid hin
  replace hr := Lib.hid hr
  clear hb hx
  go_enter Try.func119, Try.ntmps119
  go_wp2_with fail
  go_loopw [3] (fun i wr => ∃ (j : Nat), j ≤ xs.length ∧ i = .int .i64 j ∧ wr = w ∧ Hid (vals xs = vals (xs.drop j))) (fun i _ => xs.length - (intOf i).toNat)
  case atStart => exact ⟨0, Nat.zero_le _, rfl, rfl, Lib.hid rfl⟩
  case round =>
    obtain ⟨j, hj, rfl, rfl, he⟩ := hrel
    by_cases hlt : j < xs.length
    · obtain ⟨b, o, rfl, hbl, hc⟩ := hx'.out j hlt
      have he2 := he.out
      rw [List.drop_eq_getElem_cons hlt, vals_cons] at he2
      have hcall := hin.out xs[j] wr
      cases hd : decide (0 ≤ xs[j] ∧ xs[j] ≤ 96) with
      | false =>
        rw [hd] at he2 hcall
        replace he2 := Lib.hid he2
        replace hcall := Lib.hid hcall
        clear hd he
        go_wp2_with fail
        refine hcall.out.mono ?_
        rintro e w1 ⟨rfl, rfl⟩
        go_wp2_with fail
        go_ret
        exact ⟨by rw [hr.out, he2.out]; rfl, Below.refl _ _⟩
      | true =>
        rw [hd, Bool.true_and] at he2
        rw [hd] at hcall
        replace he2 := Lib.hid he2
        replace hcall := Lib.hid hcall
        clear hd he
        go_wp2_with fail
        refine hcall.out.mono ?_
        rintro e w1 ⟨rfl, rfl⟩
        go_wp2_with fail
        go_roundw
        case rel => exact ⟨j + 1, by omega, by go_num, by first | rfl | trivial, he2⟩
        case measure => simp [intOf]; omega
    · have he2 := he.out
      rw [List.drop_eq_nil_of_le (by omega)] at he2
      replace he2 := Lib.hid he2
      clear he
      go_wp2_with fail
      go_ret
      exact ⟨by rw [hr.out, he2.out]; rfl, Below.refl _ _⟩

set_option maxHeartbeats 2000000 in
theorem specSheetOk_calls (Am At : Option Addr) (cm ct : Nat) (made : List Bool) (tasks : List Task) (B : Nat) (w0 w : World) (hb : Below B w0 w) (hB : B ≤ w.heap.size) (hs : SheetAt B w0 Am cm At ct made tasks) (hnod : ∀ T ∈ tasks, nodes T ≤ 1000000000) :
    Calls Try.prog 62 #[.agg #[.slice Am made.length cm, .slice At tasks.length ct]] w fun e w' => e = .returned (.bool (sheetOk made tasks)) ∧ Below w.heap.size w w' := by
  obtain ⟨lm, mm, lt, mt, hm, ht⟩ := hs
  unfold maxLen at mm mt
  replace hb := Lib.hid hb
  replace hm := Lib.hid hm
  replace ht := Lib.hid ht
  replace hnod := Lib.hid hnod
  by_cases h1 : made.length = tasks.length
  case neg =>
    have hr : sheetOk made tasks = false := by simp [sheetOk, h1]
    replace hr := Lib.hid hr
    have h1' : ((made.length : Int) != (tasks.length : Int)) = true := by simp; omega
    replace h1 := Lib.hid h1
    go_enter Try.func62, Try.ntmps62
    go_wp2_with fail
    go_ret
    exact ⟨by rw [hr.out]; rfl, below_al (Below.refl _ _) _⟩
  have h1' : ((made.length : Int) != (tasks.length : Int)) = false := by simp; omega
  replace h1 := Lib.hid h1
  by_cases h2 : made.length ≤ 10
  case neg =>
    have hr : sheetOk made tasks = false := by simp [sheetOk, h2]
    replace hr := Lib.hid hr
    go_enter Try.func62, Try.ntmps62
    go_wp2_with fail
    go_ret
    exact ⟨by rw [hr.out]; rfl, below_al (Below.refl _ _) _⟩
  have hr : sheetOk made tasks = sheetOkL made tasks := by simp [sheetOk, h1.out, h1.out ▸ h2]
  replace hr := Lib.hid hr
  go_enter Try.func62, Try.ntmps62
  go_wp2_with fail
  go_loopw [3] (fun i wr => ∃ (j : Nat), j ≤ made.length ∧ i = .int .i64 j ∧ w.heap.size < wr.heap.size ∧ wr.cell? ⟨w.heap.size, 0, none⟩ = some (.slice Am made.length cm) ∧ wr.cell? ⟨w.heap.size, 1, none⟩ = some (.slice At tasks.length ct) ∧ Hid (Below w.heap.size w wr) ∧ Hid (sheetOkL made tasks = sheetOkL (made.drop j) (tasks.drop j))) (fun i _ => made.length - (intOf i).toNat)
  case atStart => exact ⟨0, Nat.zero_le _, rfl, by simp, by simp, by simp, Lib.hid (below_al (Below.refl _ _) _), Lib.hid rfl⟩
  case round =>
    obtain ⟨j, hj, rfl, hz, hbox, hbox1, hw, he⟩ := hrel
    by_cases hltm : j < made.length
    · have hlt : j < tasks.length := by have := h1.out; omega
      obtain ⟨b, o, A', c', rfl, hbl, y0, y1, y2, hc', hm', hp'⟩ := ht.out.at (below_up' hb.out hB hw.out) j hlt
      have hbl' : b < wr.heap.size := by have := hw.out.size; omega
      have hd : tasks.drop j = tasks[j] :: tasks.drop (j + 1) := List.drop_eq_getElem_cons hlt
      have hdm : made.drop j = made[j] :: made.drop (j + 1) := List.drop_eq_getElem_cons hltm
      rw [hd, hdm] at he
      have he2 := he.out
      rw [sheetOkL_cons] at he2
      replace hd := Lib.hid hd
      replace hdm := Lib.hid hdm
      clear he
      have hcall := specTaskOk_calls tasks[j] A' c' B w0 wr (hnod.out _ (List.getElem_mem _)) (below_up' hb.out hB hw.out) (by have := hw.out.size; omega) hc' hm' hp'
      replace hcall := Lib.hid hcall
      cases hok : okT tasks[j] with
      | false =>
        rw [hok] at he2 hcall
        replace he2 := Lib.hid he2
        replace hok := Lib.hid hok
        go_wp2_with fail
        refine hcall.out.mono ?_
        rintro e w2 ⟨rfl, h5⟩
        replace h5 := Lib.hid h5
        go_wp2_with fail
        go_ret
        exact ⟨by rw [hr.out, he2.out]; rfl, below_up hw.out h5.out⟩
      | true =>
        rw [hok, Bool.true_and] at he2
        rw [hok] at hcall
        obtain ⟨bm, om, eqm, hbm, cmj⟩ := hm.out.at (below_up' hb.out hB hw.out) (by have := hw.out.size; omega) j hltm
        replace hok := Lib.hid hok
        subst eqm
        cases hmj : made[j] with
        | true =>
          rw [hmj, Bool.true_or, Bool.true_and] at he2
          rw [hmj] at cmj
          replace he2 := Lib.hid he2
          replace hmj := Lib.hid hmj
          go_wp2_with fail
          refine hcall.out.mono ?_
          rintro e w2 ⟨rfl, h5⟩
          have z0 := kept_cell h5 hz hbox
          have z1 := kept_cell h5 hz hbox1
          have z2 := kept_cell h5 hbm cmj
          have z3 := kept_cell h5 hbl' y0
          have z4 := kept_cell h5 hbl' y1
          have hz2 : w.heap.size < w2.heap.size := by have := h5.size; omega
          replace h5 := Lib.hid h5
          clear y0 y1 y2 hbox hbox1 cmj
          go_wp2_with fail
          go_roundw
          case rel => exact ⟨j + 1, by omega, by go_num, hz2, z0, z1, Lib.hid (below_up hw.out h5.out), he2⟩
          case measure => simp [intOf]; omega
        | false =>
          rw [hmj, Bool.false_or] at he2
          rw [hmj] at cmj
          replace hmj := Lib.hid hmj
          by_cases hk : tasks[j].kind = 0
          · have hk' : (tasks[j].kind != 0) = false := by simp [hk]
            have hk2 : (tasks[j].kind == 0) = true := by simp [hk]
            rw [hk2, Bool.true_and] at he2
            replace hk := Lib.hid hk
            replace hk2 := Lib.hid hk2
            by_cases hn : tasks[j].n = 0
            · have hn' : (tasks[j].n != 0) = false := by simp [hn]
              have hn2 : (tasks[j].n == 0) = true := by simp [hn]
              rw [hn2, Bool.true_and] at he2
              replace he2 := Lib.hid he2
              replace hn := Lib.hid hn
              replace hn2 := Lib.hid hn2
              go_wp2_with fail
              refine hcall.out.mono ?_
              rintro e w2 ⟨rfl, h5⟩
              have z0 := kept_cell h5 hz hbox
              have z1 := kept_cell h5 hz hbox1
              have z2 := kept_cell h5 hbm cmj
              have z3 := kept_cell h5 hbl' y0
              have z4 := kept_cell h5 hbl' y1
              have hz2 : w.heap.size < w2.heap.size := by have := h5.size; omega
              replace h5 := Lib.hid h5
              clear y0 y1 y2 hbox hbox1 cmj
              go_wp2_with fail
              go_roundw
              case rel => exact ⟨j + 1, by omega, by go_num, hz2, z0, z1, Lib.hid (below_up hw.out h5.out), he2⟩
              case measure => simp [intOf]; omega
            · have hn' : (tasks[j].n != 0) = true := by simp [hn]
              have hn2 : (tasks[j].n == 0) = false := by simp [hn]
              rw [hn2, Bool.false_and] at he2
              replace he2 := Lib.hid he2
              replace hn := Lib.hid hn
              replace hn2 := Lib.hid hn2
              go_wp2_with fail
              refine hcall.out.mono ?_
              rintro e w2 ⟨rfl, h5⟩
              have z0 := kept_cell h5 hz hbox
              have z1 := kept_cell h5 hz hbox1
              have z2 := kept_cell h5 hbm cmj
              have z3 := kept_cell h5 hbl' y0
              have z4 := kept_cell h5 hbl' y1
              have hz2 : w.heap.size < w2.heap.size := by have := h5.size; omega
              replace h5 := Lib.hid h5
              clear y0 y1 y2 hbox hbox1 cmj
              go_wp2_with fail
              go_ret
              exact ⟨by rw [hr.out, he2.out]; rfl, below_up hw.out h5.out⟩
          · have hk' : (tasks[j].kind != 0) = true := by simp [hk]
            have hk2 : (tasks[j].kind == 0) = false := by simp [hk]
            rw [hk2, Bool.false_and, Bool.false_and] at he2
            replace he2 := Lib.hid he2
            replace hk := Lib.hid hk
            replace hk2 := Lib.hid hk2
            go_wp2_with fail
            refine hcall.out.mono ?_
            rintro e w2 ⟨rfl, h5⟩
            have z0 := kept_cell h5 hz hbox
            have z1 := kept_cell h5 hz hbox1
            have z2 := kept_cell h5 hbm cmj
            have z3 := kept_cell h5 hbl' y0
            have z4 := kept_cell h5 hbl' y1
            have hz2 : w.heap.size < w2.heap.size := by have := h5.size; omega
            replace h5 := Lib.hid h5
            clear y0 y1 y2 hbox hbox1 cmj
            go_wp2_with fail
            go_ret
            exact ⟨by rw [hr.out, he2.out]; rfl, below_up hw.out h5.out⟩
    · have hd : tasks.drop j = [] := List.drop_eq_nil_of_le (by have := h1.out; omega)
      have hdm : made.drop j = [] := List.drop_eq_nil_of_le (by omega)
      rw [hd, hdm, sheetOkL_nil] at he
      replace hd := Lib.hid hd
      replace hdm := Lib.hid hdm
      go_wp2_with fail
      go_ret
      exact ⟨by rw [hr.out, he.out]; rfl, hw.out⟩

def inputsOk (made : List Bool) (tasks : List Task) (xs : List Int) : Bool := sheetOk made tasks && takesOk made.length xs
set_option maxHeartbeats 1000000 in
theorem l3Inputs_calls (Am At Ai : Option Addr) (cm ct ci : Nat) (made : List Bool) (tasks : List Task) (xs : List Int) (B : Nat) (w0 w : World) (hb : Below B w0 w) (hB : B ≤ w.heap.size) (hs : SheetAt B w0 Am cm At ct made tasks) (hnod : ∀ T ∈ tasks, nodes T ≤ 1000000000) (hm : xs.length ≤ maxLen) (hx : IntsAt B w0 Ai xs) :
    Calls Try.prog 85 #[.agg #[.slice Am made.length cm, .slice At tasks.length ct], .slice Ai xs.length ci] w fun e w' => e = .returned (.bool (inputsOk made tasks xs)) ∧ Below w.heap.size w w' := by
  have hc1 := fun w1 (hw : Below w.heap.size w w1) => specSheetOk_calls Am At cm ct made tasks B w0 w1 (below_up' hb hB hw) (Nat.le_trans hB hw.size) hs hnod
  have hc2 := fun w1 (hw : Below w.heap.size w w1) => l2Values_calls Ai ci xs B w0 w1 (below_up' hb hB hw) (Nat.le_trans hB hw.size) hm hx
  have hr : inputsOk made tasks xs = (sheetOk made tasks && takesOk made.length xs) := rfl
  have hten : sheetOk made tasks = true → made.length ≤ 10 := fun h => by simp [sheetOk] at h; exact h.1.2
  have hv : xs.length ≤ 10 → valsOk xs = vals xs := fun h => by simp [valsOk, h]
  replace hc2 := Lib.hid hc2
  replace hv := Lib.hid hv
  clear hb hs hnod hx
  cases h1 : sheetOk made tasks with
  | false =>
    rw [h1] at hc1 hr
    replace hc1 := Lib.hid hc1
    replace hr := Lib.hid hr
    clear h1 hten
    go_enter Try.func85, Try.ntmps85
    go_wp2_with fail
    refine (hc1.out _ (below_al (Below.refl _ _) _)).mono ?_
    rintro e w1 ⟨rfl, h3⟩
    go_wp2_with fail
    go_ret
    exact ⟨by rw [hr.out]; rfl, below_from h3⟩
  | true =>
    have hten := hten h1
    rw [h1] at hc1 hr
    replace hc1 := Lib.hid hc1
    clear h1
    by_cases hl : xs.length = made.length
    · have hr2 : inputsOk made tasks xs = valsOk xs := by rw [hr, hv.out (by omega)]; simp [takesOk, hl]
      have hl' : ((xs.length : Int) == (made.length : Int)) = true := by simp; omega
      replace hl := Lib.hid hl
      generalize valsOk xs = b at *
      replace hr2 := Lib.hid hr2
      clear hr
      go_enter Try.func85, Try.ntmps85
      go_wp2_with fail
      refine (hc1.out _ (below_al (Below.refl _ _) _)).mono ?_
      rintro e w1 ⟨rfl, h3⟩
      have x0 : w1.cell? ⟨w.heap.size, 0, none⟩ = some (.slice Am made.length cm) := (h3.cell (p := ⟨w.heap.size, 0, none⟩) (by simp)).trans (by simp)
      have b1 := below_from h3
      replace b1 := Lib.hid b1
      clear h3
      go_wp2_with fail
      refine (hc2.out _ b1.out).mono ?_
      rintro e w2 ⟨rfl, h3⟩
      have b2 := below_up b1.out h3
      replace b2 := Lib.hid b2
      clear h3
      go_wp2_with fail
      go_ret
      exact ⟨by rw [hr2.out]; simp, b2.out⟩
    · have hr2 : inputsOk made tasks xs = false := by rw [hr]; simp [takesOk, hl]
      have hl' : ((xs.length : Int) == (made.length : Int)) = false := by simp; omega
      replace hl := Lib.hid hl
      replace hr2 := Lib.hid hr2
      clear hr
      go_enter Try.func85, Try.ntmps85
      go_wp2_with fail
      refine (hc1.out _ (below_al (Below.refl _ _) _)).mono ?_
      rintro e w1 ⟨rfl, h3⟩
      have x0 : w1.cell? ⟨w.heap.size, 0, none⟩ = some (.slice Am made.length cm) := (h3.cell (p := ⟨w.heap.size, 0, none⟩) (by simp)).trans (by simp)
      have b1 := below_from h3
      replace b1 := Lib.hid b1
      clear h3
      go_wp2_with fail
      go_ret
      exact ⟨by rw [hr2.out]; rfl, b1.out⟩
end Go.Proofs.Ytkbblekengdhaaa

set_option linter.unusedVariables false
set_option linter.unusedSimpArgs false
namespace Go.Proofs.Ytkbblekengdhaaa
open Go Go.RowKit

theorem tapeF_zero (got : List Int) (s : Nat × Int) (k : Int) : (tapeF got s k).1.2 = false → (tapeF got s k).1.1 = 0 := by
  unfold tapeF
  split
  · intro _; rfl
  · intro h; cases h

set_option maxHeartbeats 1000000 in
theorem l2Next_calls (t : Tk) (A : Option Addr) (c : Nat) (got : List Int) (Ag : Option Addr) (cg B : Nat) (w0 w : World) (hb : Below B w0 w) (hB : B ≤ w.heap.size) (hok : t.ok) (hc : t.enc.parts.length ≤ c) (hp : PartsIs B w0 A 0 t.enc.parts)
    (hg : IntsAt w.heap.size w Ag got) (hv : ∀ x ∈ got, 0 ≤ x ∧ x ≤ 96) (hl : got.length ≤ 1000000) :
    Calls Try.prog 124 #[.agg #[.int .i64 t.enc.kind, .int .i64 t.enc.n, .slice A t.enc.parts.length c], .slice Ag got.length cg] w fun e w' =>
      e = .returned (.tuple #[.int .i64 (nextP t.itr got).1, .int .i64 (nextP t.itr got).2.1, .bool (nextP t.itr got).2.2]) ∧ 0 ≤ (nextP t.itr got).1 ∧ (nextP t.itr got).1 ≤ 96 ∧ Below w.heap.size w w' := by
  have hp' : PartsIs w.heap.size w A 0 t.enc.parts := PartsIs.up hb hB _ _ _ hp
  have hdo := fun (s : Nat × Int) (w1 : World) (hs : TapeAt w.heap.size w (w.heap.size + 1) got Ag cg s w1) => do_calls got (w.heap.size + 1) Ag cg w.heap.size w t A c s w1 hok hs hc hp'
  have hn : nextP t.itr got = ((t.run (tapeF got) (0, 0)).1.1, (t.run (tapeF got) (0, 0)).2.2, (t.run (tapeF got) (0, 0)).1.2) := by
    rw [Tk.run_itr (tapeF got) (tapeF_zero got)]; rfl
  rw [hn]
  clear hn
  have h0 : TapeAt w.heap.size w (w.heap.size + 1) got Ag cg (0, 0) ((w.alloc (.cells #[.int .i64 t.enc.kind, .int .i64 t.enc.n, .slice A t.enc.parts.length c] 39 (0, 0))).alloc (.cells #[.slice Ag got.length cg, .int .i64 0, .int .i64 0] 151 (0, 0))) :=
    ⟨heap_new (by simp), hg, hv, Nat.zero_le _, hl, by omega, below_al (below_al (Below.refl _ _) _) _, by simp; omega⟩
  have hd := hdo _ _ h0
  generalize t.run (tapeF got) (0, 0) = r at *
  replace hd := Lib.hid hd
  clear hdo h0 hp hp' hb hg hv
  go_enter Try.func124, Try.ntmps124
  go_wp2_with fail
  refine hd.out.mono ?_
  rintro e w1 ⟨rfl, h1, h2, F', ⟨h3, rfl⟩, h4⟩
  have x2 : w1.cell? ⟨w.heap.size + 1, 2, none⟩ = some (.int .i64 r.2.2) := cellm h3.blk 2
  have hz := block_lt h3.blk
  have hbw := h3.below
  replace hbw := Lib.hid hbw
  clear h3 h4 hd
  go_wp2_with fail
  go_region
  go_wp2_with fail
  go_ret3
  exact ⟨rfl, h1, h2, hbw.out.drew⟩

/-- the reference's builder: its keys under way, its circle -/
structure SbAt (E : MkEnv) (S : Sh) (m : Nat) (vu vc : Value) (u c : List Int) (w : World) : Prop where
  blk : w.heap[m]? = some (.cells #[.slice E.Am S.made.length E.cm, .slice E.At S.tks.length E.ct, .slice E.Ai S.inputs.length E.ci, vu, vc] 140 (0, 0))
  ou : w.ownsRow E.B 3 1 vu u.length (ints u)
  oc : w.ownsRow E.B 3 1 vc c.length (ints c)
  hm : E.B ≤ m
  nuc : ∀ i, vu.ownBlock = some i → vc.ownBlock ≠ some i
  below : Below E.B E.w0 w
  size : E.B ≤ w.heap.size
def SFoot (m : Nat) (vu vc : Value) (i : Nat) : Prop := i = m ∨ vu.ownBlock = some i ∨ vc.ownBlock = some i
def SbI (E : MkEnv) (S : Sh) (m : Nat) (u c : List Int) (w : World) (F : Nat → Prop) : Prop := ∃ vu vc, SbAt E S m vu vc u c w ∧ F = SFoot m vu vc
section
variable {E : MkEnv} {S : Sh} {m : Nat} {vu vc : Value} {u c : List Int} {w w' : World}
theorem SbAt.nm (h : SbAt E S m vu vc u c w) : vu.ownBlock ≠ some m ∧ vc.ownBlock ≠ some m :=
  ⟨ownsRow_ne h.ou h.blk (fun c e => by cases e), ownsRow_ne h.oc h.blk (fun c e => by cases e)⟩
theorem SbAt.bounds (h : SbAt E S m vu vc u c w) : ∀ i, SFoot m vu vc i → E.B ≤ i ∧ i < w.heap.size := by
  intro i hi
  rcases hi with rfl | hi | hi
  · exact ⟨h.hm, block_lt h.blk⟩
  · exact h.ou.lt i hi
  · exact h.oc.lt i hi
theorem SbAt.kept (h : SbAt E S m vu vc u c w) (hk : ∀ i, SFoot m vu vc i → w'.heap[i]? = w.heap[i]?) (hb : Below E.B E.w0 w') (hs : E.B ≤ w'.heap.size) : SbAt E S m vu vc u c w' :=
  ⟨(hk m (.inl rfl)).trans h.blk, ownsRow_block h.ou (fun i hi => hk i (.inr (.inl hi))), ownsRow_block h.oc (fun i hi => hk i (.inr (.inr hi))), h.hm, h.nuc, hb, hs⟩
theorem SbAt.up (h : SbAt E S m vu vc u c w) (hw : Below w.heap.size w w') : SbAt E S m vu vc u c w' :=
  h.kept (fun i hi => hw.block i (h.bounds i hi).2) (below_up' h.below h.size hw) (Nat.le_trans h.size hw.size)
theorem SbAt.alloc (h : SbAt E S m vu vc u c w) (o : Obj) : SbAt E S m vu vc u c (w.alloc o) := h.up (below_al (Below.refl _ _) o)
theorem SbAt.drew (h : SbAt E S m vu vc u c w) : SbAt E S m vu vc u c w.drew := ⟨h.blk, h.ou, h.oc, h.hm, h.nuc, h.below.drew, h.size⟩
/-- a row that is not the builder's grew -/
theorem SbAt.far (h : SbAt E S m vu vc u c w) {row : Option Nat} (hg : w.grownBy w' row) (hr : ∀ i, row = some i → ¬ SFoot m vu vc i ∧ E.B ≤ i) : SbAt E S m vu vc u c w' :=
  h.kept (fun i hi => hg.block i (h.bounds i hi).2 (fun e => (hr i e.symm).1 hi)) (h.below.grown hg h.size (fun k hk => (hr k hk).2)) (Nat.le_trans h.size hg.size)
/-- another row of keys under way is stored -/
theorem SbAt.set_under (h : SbAt E S m vu vc u c w) {v : Value} {l : List Int} (hg : w.grownBy w' vu.ownBlock) (ho : w'.ownsRow E.B 3 1 v l.length (ints l)) (hv : ∀ i, v.ownBlock = some i → vu.ownBlock = some i ∨ w.heap.size ≤ i) :
    SbAt E S m v vc l c (w'.setCell ⟨m, 3, none⟩ v) ∧ Turn (SFoot m vu vc) (SFoot m v vc) w (w'.setCell ⟨m, 3, none⟩ v) := by
  have hlt := h.bounds
  have hb' : ∀ i, SFoot m vu vc i → vu.ownBlock ≠ some i → w'.heap[i]? = w.heap[i]? := fun i hi hne => hg.block i (hlt i hi).2 (fun e => hne e.symm)
  have hblk : w'.heap[m]? = _ := (hb' m (.inl rfl) h.nm.1).trans h.blk
  have hvm : v.ownBlock ≠ some m := ownsRow_ne ho hblk (fun c e => by cases e)
  have hc : ∀ i, vc.ownBlock = some i → (w'.setCell ⟨m, 3, none⟩ v).heap[i]? = w.heap[i]? := fun i hi =>
    (setCell_far (own_far hi h.nm.2)).trans (hb' i (.inr (.inr hi)) (fun e => h.nuc i e hi))
  have t1 : Turn (SFoot m vu vc) (SFoot m v vc) w w' := grown_turn hg (fun k hk => .inr (.inl hk)) (fun i hi => by
    rcases hi with hi | hi | hi
    · exact .inl (.inl hi)
    · exact (hv i hi).imp (fun e => .inr (.inl e)) id
    · exact .inl (.inr (.inr hi)))
  have t2 := t1.trans (setCell_turn (F := SFoot m v vc) (a := ⟨m, 3, none⟩) (.inl rfl) v)
  refine ⟨⟨?_, ?_, ?_, h.hm, ?_, ?_, ?_⟩, t2⟩
  · exact (setCell_block hblk 3 v).trans rfl
  · exact ownsRow_block ho (fun i hi => setCell_far (own_far hi hvm))
  · exact ownsRow_block h.oc hc
  · intro i hi hi2
    rcases hv i hi with e | e
    · exact h.nuc i e hi2
    · have := (h.oc.lt i hi2).2; omega
  · exact h.below.trans (t2.below h.size (fun i hi => (hlt i hi).1))
  · exact Nat.le_trans h.size t2.size
/-- a circle is stored, in new memory -/
theorem SbAt.set_circle (h : SbAt E S m vu vc u c w) {v : Value} {l : List Int} (hw : Below w.heap.size w w') (ho : w'.ownsRow w.heap.size 3 1 v l.length (ints l)) :
    SbAt E S m vu v u l (w'.setCell ⟨m, 4, none⟩ v) ∧ Turn (SFoot m vu vc) (SFoot m vu v) w (w'.setCell ⟨m, 4, none⟩ v) := by
  have hlt := h.bounds
  have hv : ∀ i, v.ownBlock = some i → w.heap.size ≤ i := fun i hi => (ho.lt i hi).1
  have hb' : ∀ i, SFoot m vu vc i → w'.heap[i]? = w.heap[i]? := fun i hi => hw.block i (hlt i hi).2
  have hblk : w'.heap[m]? = _ := (hb' m (.inl rfl)).trans h.blk
  have hvm : v.ownBlock ≠ some m := ownsRow_ne ho hblk (fun c e => by cases e)
  have hc : ∀ i, vu.ownBlock = some i → (w'.setCell ⟨m, 4, none⟩ v).heap[i]? = w.heap[i]? := fun i hi =>
    (setCell_far (own_far hi h.nm.1)).trans (hb' i (.inr (.inl hi)))
  have t1 : Turn (SFoot m vu vc) (SFoot m vu v) w w' := ⟨hw.os, hw.tape, hw.output, hw.size, fun i hi _ => hw.block i hi, fun i hi => by
    rcases hi with hi | hi | hi
    · exact .inl (.inl hi)
    · exact .inl (.inr (.inl hi))
    · exact .inr (hv i hi)⟩
  have t2 := t1.trans (setCell_turn (F := SFoot m vu v) (a := ⟨m, 4, none⟩) (.inl rfl) v)
  refine ⟨⟨?_, ?_, ?_, h.hm, ?_, ?_, ?_⟩, t2⟩
  · exact (setCell_block hblk 4 v).trans rfl
  · exact ownsRow_block h.ou hc
  · exact ⟨ho.1, (ownsRow_block ho (fun i hi => setCell_far (own_far hi hvm))).2.imp id (fun ⟨g, cap, cur, e, hg, r⟩ => ⟨g, cap, cur, e, Nat.le_trans h.size hg, r⟩)⟩
  · intro i hi hi2
    have := (h.ou.lt i hi).2; have := hv i hi2; omega
  · exact h.below.trans (t2.below h.size (fun i hi => (hlt i hi).1))
  · exact Nat.le_trans h.size t2.size
theorem SbAt.cells (h : SbAt E S m vu vc u c w) : w.cell? ⟨m, 0, none⟩ = some (.slice E.Am S.made.length E.cm) ∧ w.cell? ⟨m, 1, none⟩ = some (.slice E.At S.tks.length E.ct) ∧ w.cell? ⟨m, 2, none⟩ = some (.slice E.Ai S.inputs.length E.ci) ∧
    w.cell? ⟨m, 3, none⟩ = some vu ∧ w.cell? ⟨m, 4, none⟩ = some vc ∧ w.frozen? ⟨m, 3, none⟩ = false ∧ w.frozen? ⟨m, 4, none⟩ = false ∧ m < w.heap.size :=
  ⟨cellm h.blk 0, cellm h.blk 1, cellm h.blk 2, cellm h.blk 3, cellm h.blk 4, frozenm h.blk 3, frozenm h.blk 4, block_lt h.blk⟩
end

set_option maxHeartbeats 1000000 in
theorem skey_unmade (E : MkEnv) (S : Sh) (hE : E.Good S) (m n : Nat) (u c : List Int) (k : Int) (w : World) (F : Nat → Prop) (hk0 : 0 ≤ k) (hk9 : k ≤ 9) (h : SbI E S m u c w F) (hmk : mkK S.made k = false) :
    Calls Try.prog 126 #[.pointer (some ⟨m, 0, none⟩), .int .i64 k] w (Gives (SbI E S m u) F w (specP S n u c k)) := by
  rw [specP_unmade hmk]
  obtain ⟨vu, vc, hM, rfl⟩ := h
  obtain ⟨x0, x1, x2, x3, x4, f3, f4, hz⟩ := hM.cells
  obtain ⟨q, rfl⟩ := Int.eq_ofNat_of_zero_le hk0
  have hten := hE.ok.ten
  have hav := atK_value hE.ok q
  by_cases hq : q < S.made.length
  · have hqi : q < S.inputs.length := by have := hE.ok.ins; omega
    have hmq : S.made[q] = false := by
      unfold mkK at hmk
      rw [if_neg (by omega), Int.toNat_natCast, getD_at _ hq] at hmk
      exact hmk
    have hat : atK S.inputs q = S.inputs[q] := by
      unfold atK
      rw [if_neg (by omega), Int.toNat_natCast, getD_at _ hqi]
    obtain ⟨bm, om, em, hbm, cm⟩ := hE.sheet.made.at hM.below hM.size q hq
    obtain ⟨bi, oi, ei, hbi, ci⟩ := hE.ins.at hM.below hM.size q hqi
    rw [em] at x0
    rw [ei] at x2
    simp only [hmq] at cm
    rw [hat] at hav ⊢
    replace hM := Lib.hid hM
    replace hE := Lib.hid hE
    clear hat hmq hmk x3 x4 f3 f4
    go_enter Try.func126, Try.ntmps126
    go_wp2_with fail
    go_ret2
    exact ⟨rfl, hav.1, hav.2, _, ⟨vu, vc, hM.out, rfl⟩, Turn.refl _ _⟩
  · have hat : atK S.inputs q = 0 := by
      unfold atK
      rw [if_neg (by omega), Int.toNat_natCast, getD_out _ (by have := hE.ok.ins; omega)]
    rw [hat]
    replace hM := Lib.hid hM
    clear hE hmk hat hav
    go_enter Try.func126, Try.ntmps126
    go_wp2_with fail
    go_ret2
    exact ⟨rfl, by simp, by simp, _, ⟨vu, vc, hM.out, rfl⟩, Turn.refl _ _⟩

theorem made_at {S : Sh} {q : Nat} (h : mkK S.made q = true) : ∃ hq : q < S.made.length, S.made[q] = true := by
  have hr := mkK_range (show mkK S.made q ≠ false by rw [h]; simp)
  have hq : q < S.made.length := by omega
  refine ⟨hq, ?_⟩
  unfold mkK at h
  rw [if_neg (by omega), Int.toNat_natCast, getD_at _ hq] at h
  exact h

set_option maxHeartbeats 2000000 in
theorem skey_under (E : MkEnv) (S : Sh) (hE : E.Good S) (m n : Nat) (u c : List Int) (k : Int) (w : World) (F : Nat → Prop) (hk0 : 0 ≤ k) (hk9 : k ≤ 9) (h : SbI E S m u c w F) (hmk : mkK S.made k = true) (hul : u.length ≤ 10)
    (ho : 0 ≤ idx (fun x => k == x) u) :
    Calls Try.prog 126 #[.pointer (some ⟨m, 0, none⟩), .int .i64 k] w (Gives (SbI E S m u) F w (specP S n u c k)) := by
  rw [specP_under hmk ho]
  obtain ⟨vu, vc, hM, rfl⟩ := h
  obtain ⟨J, hJ, hJl⟩ := idx_lt ho
  have hfind : (∀ i (hi : i < J), (k == u[i]'(by omega)) = false) ∧ (k == u[J]) = true := by
    unfold idx at hJ
    cases e : u.findIdx? (fun x => k == x) with
    | none => rw [e] at hJ; simp at hJ
    | some i =>
      rw [e] at hJ
      simp only at hJ
      have hi : i = J := by omega
      subst hi
      rw [List.findIdx?_eq_some_iff_getElem] at e
      obtain ⟨h1, h2, h3⟩ := e
      exact ⟨fun i hi => by simpa using h3 i hi, h2⟩
  rw [hJ, Int.toNat_natCast]
  obtain ⟨q, rfl⟩ := Int.eq_ofNat_of_zero_le hk0
  obtain ⟨x0, x1, x2, x3, x4, f3, f4, hz⟩ := hM.cells
  have hten := hE.ok.ten
  obtain ⟨hq, hmq⟩ := made_at hmk
  obtain ⟨bm, om, em, hbm, cm⟩ := hE.sheet.made.at hM.below hM.size q hq
  rw [em] at x0
  simp only [hmq] at cm
  obtain ⟨g, co, hvo, hBg, hgl⟩ := hM.ou.form (by omega)
  subst hvo
  obtain ⟨A', c', e', hlo, hmo, hio⟩ := ownsRow_ints hM.ou
  simp only [Value.slice.injEq, true_and] at e'
  obtain ⟨rfl, rfl⟩ := e'
  unfold maxLen at hmo
  have hue : ∀ i (hi : i < u.length), w.cell? ⟨g, i, none⟩ = some (.int .i64 u[i]) := fun i hi => by
    obtain ⟨b, o, e1, _, e2⟩ := hio i hi
    cases e1; simpa using e2
  have hne : co ≠ J := by omega
  obtain ⟨Av, cv, evc, -⟩ := ownsRow_ints hM.oc
  subst evc
  replace hM := Lib.hid hM
  replace hfind := Lib.hid hfind
  replace hue := Lib.hid hue
  replace hJ := Lib.hid hJ
  clear hE hmk hmq hio ho
  go_enter Try.func126, Try.ntmps126
  go_wp2_with fail
  go_loopw [6] (fun i wr => ∃ (j : Nat), j ≤ J ∧ i = .int .i64 j ∧ wr = w) (fun i _ => u.length - (intOf i).toNat)
  case atStart => exact ⟨0, Nat.zero_le _, rfl, rfl⟩
  case round =>
    obtain ⟨j, hj, rfl, rfl⟩ := hrel
    have hju : j < u.length := by omega
    have y := hue.out j hju
    by_cases hjJ : j < J
    · have hd := hfind.out.1 j hjJ
      have hd' : (u[j] == (q : Int)) = false := by simp only [beq_eq_false_iff_ne] at hd ⊢; exact fun e => hd e.symm
      replace hd := Lib.hid hd
      go_wp2_with fail
      go_roundw
      case rel => exact ⟨j + 1, by omega, by go_num, by first | rfl | trivial⟩
      case measure => simp [intOf]; omega
    · have hjJ' : j = J := by omega
      subst hjJ'
      have hd := hfind.out.2
      have hd' : (u[j] == (q : Int)) = true := by simp only [beq_iff_eq] at hd ⊢; exact hd.symm
      replace hd := Lib.hid hd
      go_wp2_with (at_builtin; go_loud (with_reducible refine wpList_appN (by rfl) (.tmp 56) (.tmp 62) 28 (by rfl) intTy wr.heap.size (.slice (some ⟨wr.heap.size, 0, none⟩) 0 0) 0 [] (by with_unfolding_all rfl) ?_ ⟨g, j, none⟩ (u.length - j) (co - j) (ints (u.drop j)) (by with_unfolding_all rfl) (by simp [ints]) ?_ (one_ints _) ?_ ?_ ?_ ?_))
      · exact World.ownsRow_made wr #[] 0 (Nat.le_refl _) (by simp [maxLen]) rfl
      · intro i v hv
        have hi : i < (u.drop j).length := by
          have := (List.getElem?_eq_some_iff.1 hv).1
          simpa [ints] using this
        have hi2 : j + i < u.length := by simp at hi; omega
        rw [Addr.add_lit, cell_al hgl, hue.out (j + i) hi2]
        simp only [ints, List.getElem?_map, List.getElem?_drop, Option.map_eq_some_iff] at hv
        obtain ⟨x, hx, rfl⟩ := hv
        rw [List.getElem?_eq_getElem hi2] at hx
        cases hx; rfl
      · simp [maxLen]; omega
      · omega
      · simp
      intro v' w2 hown hgrow hat
      have hown' : w2.ownsRow wr.heap.size 3 1 v' (u.drop j).length (ints (u.drop j)) := by simpa using hown
      have hbw : Below wr.heap.size wr w2 := (below_al (Below.refl _ _) _).grown hgrow (by simp) (fun k hk => by cases hk; simp)
      obtain ⟨Av', cv', ev, -⟩ := ownsRow_ints hown'
      subst ev
      have hM2 := hM.out.up hbw
      obtain ⟨z0, z1, z2, z3, z4, e3, e4, hzm⟩ := hM2.cells
      have hset := hM.out.set_circle hbw hown'
      have hl3 : (u.drop j).length = u.length - j := by simp
      rw [hl3] at hset
      replace hl3 := Lib.hid hl3
      replace hset := Lib.hid hset
      clear hown hown' hgrow hat hbw hM2
      go_wp2_with fail
      go_ret2
      exact ⟨rfl, by simp, by simp, _, ⟨_, _, hset.out.1, rfl⟩, hset.out.2⟩
end Go.Proofs.Ytkbblekengdhaaa
