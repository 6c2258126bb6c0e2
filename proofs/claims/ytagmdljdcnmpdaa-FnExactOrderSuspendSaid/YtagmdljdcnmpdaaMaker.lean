import Derived.Test.YtagmdljdcnmpdaaSheet
import Derived.Test.YtagmdljdcnmpdaaClone
import Derived.Test.YtagmdljdcnmpdaaMakerP
set_option linter.unusedVariables false
set_option linter.unusedSimpArgs false
namespace Go.Proofs.Ytagmdljdcnmpdaa
open Go Go.RowKit

/-- where a maker's sheet and inputs lie -/
structure MkEnv where
  Am : Option Addr
  cm : Nat
  At : Option Addr
  ct : Nat
  Ai : Option Addr
  ci : Nat
  B : Nat
  w0 : World
structure MkEnv.Good (E : MkEnv) (S : Sh) : Prop where
  sheet : SheetAt E.B E.w0 E.Am E.cm E.At E.ct S.made (S.tks.map Tk.enc)
  ins : IntsAt E.B E.w0 E.Ai S.inputs
  li : S.inputs.length ≤ E.ci
  mi : E.ci ≤ maxLen
  ok : S.Ok

structure MakerAt (E : MkEnv) (S : Sh) (m b : Nat) (vo vc vr : Value) (st : MkSt) (c : Nat) (w : World) : Prop where
  blk : w.heap[m]? = some (.cells #[.slice E.Am S.made.length E.cm, .slice E.At S.tks.length E.ct, .slice E.Ai S.inputs.length E.ci, .map (some b), vo, vc, vr] 86 (0, 0))
  map : MapIs Try.prog 3 3 w b c st.known
  oo : w.ownsRow E.B 3 1 vo st.open_.length (ints st.open_)
  oc : w.ownsRow E.B 3 1 vc st.circle.length (ints st.circle)
  or : w.ownsRow E.B 3 1 vr st.order.length (ints st.order)
  hm : E.B ≤ m
  hb : E.B ≤ b
  noc : ∀ i, vo.ownBlock = some i → vc.ownBlock ≠ some i
  nor : ∀ i, vo.ownBlock = some i → vr.ownBlock ≠ some i
  ncr : ∀ i, vc.ownBlock = some i → vr.ownBlock ≠ some i
  below : Below E.B E.w0 w
  size : E.B ≤ w.heap.size
def MFoot (m b : Nat) (vo vc vr : Value) (i : Nat) : Prop := i = m ∨ i = b ∨ vo.ownBlock = some i ∨ vc.ownBlock = some i ∨ vr.ownBlock = some i
def MakerIs (E : MkEnv) (S : Sh) (m : Nat) (st : MkSt) (w : World) (F : Nat → Prop) : Prop := ∃ b vo vc vr, MakerAt E S m b vo vc vr st st.order.length w ∧ F = MFoot m b vo vc vr

section
variable {E : MkEnv} {S : Sh} {m b : Nat} {vo vc vr : Value} {st : MkSt} {c : Nat} {w w' : World}
theorem MakerAt.mb (h : MakerAt E S m b vo vc vr st c w) : m ≠ b := by
  obtain ⟨es, c, hm⟩ := h.map.isMap
  intro e; subst e
  have := h.blk; rw [hm] at this; cases this
theorem MakerAt.nm (h : MakerAt E S m b vo vc vr st c w) : vo.ownBlock ≠ some m ∧ vc.ownBlock ≠ some m ∧ vr.ownBlock ≠ some m :=
  ⟨ownsRow_ne h.oo h.blk (fun c e => by cases e), ownsRow_ne h.oc h.blk (fun c e => by cases e), ownsRow_ne h.or h.blk (fun c e => by cases e)⟩
theorem MakerAt.nb (h : MakerAt E S m b vo vc vr st c w) : vo.ownBlock ≠ some b ∧ vc.ownBlock ≠ some b ∧ vr.ownBlock ≠ some b := by
  obtain ⟨es, c, hm⟩ := h.map.isMap
  exact ⟨ownsRow_ne h.oo hm (fun c e => by cases e), ownsRow_ne h.oc hm (fun c e => by cases e), ownsRow_ne h.or hm (fun c e => by cases e)⟩
theorem MakerAt.bounds (h : MakerAt E S m b vo vc vr st c w) : ∀ i, MFoot m b vo vc vr i → E.B ≤ i ∧ i < w.heap.size := by
  intro i hi
  obtain ⟨es, c, hmm⟩ := h.map.isMap
  rcases hi with rfl | rfl | hi | hi | hi
  · exact ⟨h.hm, block_lt h.blk⟩
  · exact ⟨h.hb, block_lt hmm⟩
  · exact h.oo.lt i hi
  · exact h.oc.lt i hi
  · exact h.or.lt i hi
/-- while its blocks stand, so does it -/
theorem MakerAt.kept (h : MakerAt E S m b vo vc vr st c w) (hk : ∀ i, MFoot m b vo vc vr i → w'.heap[i]? = w.heap[i]?) (hb : Below E.B E.w0 w') (hs : E.B ≤ w'.heap.size) : MakerAt E S m b vo vc vr st c w' :=
  ⟨(hk m (.inl rfl)).trans h.blk, h.map.block (hk b (.inr (.inl rfl))), ownsRow_block h.oo (fun i hi => hk i (.inr (.inr (.inl hi)))), ownsRow_block h.oc (fun i hi => hk i (.inr (.inr (.inr (.inl hi))))),
    ownsRow_block h.or (fun i hi => hk i (.inr (.inr (.inr (.inr hi))))), h.hm, h.hb, h.noc, h.nor, h.ncr, hb, hs⟩
theorem MakerAt.up (h : MakerAt E S m b vo vc vr st c w) (hw : Below w.heap.size w w') : MakerAt E S m b vo vc vr st c w' :=
  h.kept (fun i hi => hw.block i (h.bounds i hi).2) (below_up' h.below h.size hw) (Nat.le_trans h.size hw.size)
theorem MakerAt.alloc (h : MakerAt E S m b vo vc vr st c w) (o : Obj) : MakerAt E S m b vo vc vr st c (w.alloc o) := h.up (below_al (Below.refl _ _) o)
theorem MakerAt.drewN (h : MakerAt E S m b vo vc vr st c w) (n : Nat) : MakerAt E S m b vo vc vr st c (w.drewN n) := ⟨h.blk, h.map, h.oo, h.oc, h.or, h.hm, h.hb, h.noc, h.nor, h.ncr, ⟨h.below.os, h.below.tape, h.below.output, h.below.size, h.below.block⟩, h.size⟩

theorem MakerAt.drew (h : MakerAt E S m b vo vc vr st c w) : MakerAt E S m b vo vc vr st c w.drew := ⟨h.blk, h.map, h.oo, h.oc, h.or, h.hm, h.hb, h.noc, h.nor, h.ncr, ⟨h.below.os, h.below.tape, h.below.output, h.below.size, h.below.block⟩, h.size⟩

/-- another row of open keys is stored -/
theorem MakerAt.set_open (h : MakerAt E S m b vo vc vr st c w) {v : Value} {l : List Int} (hg : w.grownBy w' vo.ownBlock) (ho : w'.ownsRow E.B 3 1 v l.length (ints l)) (hv : ∀ i, v.ownBlock = some i → vo.ownBlock = some i ∨ w.heap.size ≤ i) :
    MakerAt E S m b v vc vr { st with open_ := l } c (w'.setCell ⟨m, 4, none⟩ v) ∧ Turn (MFoot m b vo vc vr) (MFoot m b v vc vr) w (w'.setCell ⟨m, 4, none⟩ v) := by
  have hlt := h.bounds
  have hb' : ∀ i, MFoot m b vo vc vr i → vo.ownBlock ≠ some i → w'.heap[i]? = w.heap[i]? := fun i hi hne => hg.block i (hlt i hi).2 (fun e => hne e.symm)
  have hblk : w'.heap[m]? = _ := (hb' m (.inl rfl) h.nm.1).trans h.blk
  have hvm : v.ownBlock ≠ some m := ownsRow_ne ho hblk (fun c e => by cases e)
  have hmb := h.mb
  have hc : ∀ i, vc.ownBlock = some i → (w'.setCell ⟨m, 4, none⟩ v).heap[i]? = w.heap[i]? := fun i hi =>
    (setCell_far (own_far hi h.nm.2.1)).trans (hb' i (.inr (.inr (.inr (.inl hi)))) (fun e => h.noc i e hi))
  have hr : ∀ i, vr.ownBlock = some i → (w'.setCell ⟨m, 4, none⟩ v).heap[i]? = w.heap[i]? := fun i hi =>
    (setCell_far (own_far hi h.nm.2.2)).trans (hb' i (.inr (.inr (.inr (.inr hi)))) (fun e => h.nor i e hi))
  have t1 : Turn (MFoot m b vo vc vr) (MFoot m b v vc vr) w w' := grown_turn hg (fun k hk => .inr (.inr (.inl hk))) (fun i hi => by
    rcases hi with hi | hi | hi | hi | hi
    · exact .inl (.inl hi)
    · exact .inl (.inr (.inl hi))
    · exact (hv i hi).imp (fun e => .inr (.inr (.inl e))) id
    · exact .inl (.inr (.inr (.inr (.inl hi))))
    · exact .inl (.inr (.inr (.inr (.inr hi)))))
  have t2 := t1.trans (setCell_turn (F := MFoot m b v vc vr) (a := ⟨m, 4, none⟩) (.inl rfl) v)
  refine ⟨⟨?_, ?_, ?_, ?_, ?_, h.hm, h.hb, ?_, ?_, h.ncr, ?_, ?_⟩, t2⟩
  · exact (setCell_block hblk 4 v).trans rfl
  · exact h.map.block ((setCell_far (fun e => hmb e.symm)).trans (hb' b (.inr (.inl rfl)) h.nb.1))
  · exact ownsRow_block ho (fun i hi => setCell_far (own_far hi hvm))
  · exact ownsRow_block h.oc hc
  · exact ownsRow_block h.or hr
  · intro i hi hi2
    rcases hv i hi with e | e
    · exact h.noc i e hi2
    · have := (h.oc.lt i hi2).2; omega
  · intro i hi hi2
    rcases hv i hi with e | e
    · exact h.nor i e hi2
    · have := (h.or.lt i hi2).2; omega
  · exact h.below.trans (t2.below h.size (fun i hi => (hlt i hi).1))
  · exact Nat.le_trans h.size t2.size
/-- another row of the order is stored -/
theorem MakerAt.set_order (h : MakerAt E S m b vo vc vr st c w) {v : Value} {l : List Int} (hg : w.grownBy w' vr.ownBlock) (ho : w'.ownsRow E.B 3 1 v l.length (ints l)) (hv : ∀ i, v.ownBlock = some i → vr.ownBlock = some i ∨ w.heap.size ≤ i) :
    MakerAt E S m b vo vc v { st with order := l } c (w'.setCell ⟨m, 6, none⟩ v) ∧ Turn (MFoot m b vo vc vr) (MFoot m b vo vc v) w (w'.setCell ⟨m, 6, none⟩ v) := by
  have hlt := h.bounds
  have hb' : ∀ i, MFoot m b vo vc vr i → vr.ownBlock ≠ some i → w'.heap[i]? = w.heap[i]? := fun i hi hne => hg.block i (hlt i hi).2 (fun e => hne e.symm)
  have hblk : w'.heap[m]? = _ := (hb' m (.inl rfl) h.nm.2.2).trans h.blk
  have hvm : v.ownBlock ≠ some m := ownsRow_ne ho hblk (fun c e => by cases e)
  have hmb := h.mb
  have hc : ∀ i, vc.ownBlock = some i → (w'.setCell ⟨m, 6, none⟩ v).heap[i]? = w.heap[i]? := fun i hi =>
    (setCell_far (own_far hi h.nm.2.1)).trans (hb' i (.inr (.inr (.inr (.inl hi)))) (fun e => h.ncr i hi e))
  have hr : ∀ i, vo.ownBlock = some i → (w'.setCell ⟨m, 6, none⟩ v).heap[i]? = w.heap[i]? := fun i hi =>
    (setCell_far (own_far hi h.nm.1)).trans (hb' i (.inr (.inr (.inl hi))) (fun e => h.nor i hi e))
  have t1 : Turn (MFoot m b vo vc vr) (MFoot m b vo vc v) w w' := grown_turn hg (fun k hk => .inr (.inr (.inr (.inr hk)))) (fun i hi => by
    rcases hi with hi | hi | hi | hi | hi
    · exact .inl (.inl hi)
    · exact .inl (.inr (.inl hi))
    · exact .inl (.inr (.inr (.inl hi)))
    · exact .inl (.inr (.inr (.inr (.inl hi))))
    · exact (hv i hi).imp (fun e => .inr (.inr (.inr (.inr e)))) id)
  have t2 := t1.trans (setCell_turn (F := MFoot m b vo vc v) (a := ⟨m, 6, none⟩) (.inl rfl) v)
  refine ⟨⟨?_, ?_, ?_, ?_, ?_, h.hm, h.hb, h.noc, ?_, ?_, ?_, ?_⟩, t2⟩
  · exact (setCell_block hblk 6 v).trans rfl
  · exact h.map.block ((setCell_far (fun e => hmb e.symm)).trans (hb' b (.inr (.inl rfl)) h.nb.2.2))
  · exact ownsRow_block h.oo hr
  · exact ownsRow_block h.oc hc
  · exact ownsRow_block ho (fun i hi => setCell_far (own_far hi hvm))
  · intro i hi hi2
    rcases hv i hi2 with e | e
    · exact h.nor i hi e
    · have := (h.oo.lt i hi).2; omega
  · intro i hi hi2
    rcases hv i hi2 with e | e
    · exact h.ncr i hi e
    · have := (h.oc.lt i hi).2; omega
  · exact h.below.trans (t2.below h.size (fun i hi => (hlt i hi).1))
  · exact Nat.le_trans h.size t2.size
/-- a circle is stored, in new memory -/
theorem MakerAt.set_circle (h : MakerAt E S m b vo vc vr st c w) {v : Value} {l : List Int} (hw : Below w.heap.size w w') (ho : w'.ownsRow w.heap.size 3 1 v l.length (ints l)) :
    MakerAt E S m b vo v vr { st with circle := l } c (w'.setCell ⟨m, 5, none⟩ v) ∧ Turn (MFoot m b vo vc vr) (MFoot m b vo v vr) w (w'.setCell ⟨m, 5, none⟩ v) := by
  have hlt := h.bounds
  have hv : ∀ i, v.ownBlock = some i → w.heap.size ≤ i := fun i hi => (ho.lt i hi).1
  have hb' : ∀ i, MFoot m b vo vc vr i → w'.heap[i]? = w.heap[i]? := fun i hi => hw.block i (hlt i hi).2
  have hblk : w'.heap[m]? = _ := (hb' m (.inl rfl)).trans h.blk
  have hvm : v.ownBlock ≠ some m := ownsRow_ne ho hblk (fun c e => by cases e)
  have hmb := h.mb
  have hc : ∀ i, vo.ownBlock = some i → (w'.setCell ⟨m, 5, none⟩ v).heap[i]? = w.heap[i]? := fun i hi =>
    (setCell_far (own_far hi h.nm.1)).trans (hb' i (.inr (.inr (.inl hi))))
  have hr : ∀ i, vr.ownBlock = some i → (w'.setCell ⟨m, 5, none⟩ v).heap[i]? = w.heap[i]? := fun i hi =>
    (setCell_far (own_far hi h.nm.2.2)).trans (hb' i (.inr (.inr (.inr (.inr hi)))))
  have t1 : Turn (MFoot m b vo vc vr) (MFoot m b vo v vr) w w' := ⟨hw.os, hw.tape, hw.output, hw.size, fun i hi _ => hw.block i hi, fun i hi => by
    rcases hi with hi | hi | hi | hi | hi
    · exact .inl (.inl hi)
    · exact .inl (.inr (.inl hi))
    · exact .inl (.inr (.inr (.inl hi)))
    · exact .inr (hv i hi)
    · exact .inl (.inr (.inr (.inr (.inr hi))))⟩
  have t2 := t1.trans (setCell_turn (F := MFoot m b vo v vr) (a := ⟨m, 5, none⟩) (.inl rfl) v)
  refine ⟨⟨?_, ?_, ?_, ?_, ?_, h.hm, h.hb, ?_, h.nor, ?_, ?_, ?_⟩, t2⟩
  · exact (setCell_block hblk 5 v).trans rfl
  · exact h.map.block ((setCell_far (fun e => hmb e.symm)).trans (hb' b (.inr (.inl rfl))))
  · exact ownsRow_block h.oo hc
  · exact ⟨ho.1, (ownsRow_block ho (fun i hi => setCell_far (own_far hi hvm))).2.imp id (fun ⟨g, cap, cur, e, hg, r⟩ => ⟨g, cap, cur, e, Nat.le_trans h.size hg, r⟩)⟩
  · exact ownsRow_block h.or hr
  · intro i hi hi2
    have := (h.oo.lt i hi).2; have := hv i hi2; omega
  · intro i hi hi2
    have := (h.or.lt i hi2).2; have := hv i hi; omega
  · exact h.below.trans (t2.below h.size (fun i hi => (hlt i hi).1))
  · exact Nat.le_trans h.size t2.size
/-- a value is put into the map -/
theorem MakerAt.set_map (h : MakerAt E S m b vo vc vr st c w) {f : Int → Option Int} (hmap : MapIs Try.prog 3 3 w' b (c + 1) f) (hg : w.grownBy w' (some b)) :
    MakerAt E S m b vo vc vr { st with known := f } (c + 1) w' ∧ Turn (MFoot m b vo vc vr) (MFoot m b vo vc vr) w w' := by
  have hb' : ∀ i, MFoot m b vo vc vr i → i ≠ b → w'.heap[i]? = w.heap[i]? := fun i hi hne => hg.block i (h.bounds i hi).2 (fun e => hne (Option.some.inj e))
  have t : Turn (MFoot m b vo vc vr) (MFoot m b vo vc vr) w w' := grown_turn hg (fun k hk => .inr (.inl (Option.some.inj hk).symm)) (fun i hi => .inl hi)
  exact ⟨⟨(hb' m (.inl rfl) h.mb).trans h.blk, hmap, ownsRow_block h.oo (fun i hi => hb' i (.inr (.inr (.inl hi))) (own_far hi h.nb.1)), ownsRow_block h.oc (fun i hi => hb' i (.inr (.inr (.inr (.inl hi)))) (own_far hi h.nb.2.1)),
    ownsRow_block h.or (fun i hi => hb' i (.inr (.inr (.inr (.inr hi)))) (own_far hi h.nb.2.2)), h.hm, h.hb, h.noc, h.nor, h.ncr, h.below.trans (t.below h.size (fun i hi => (h.bounds i hi).1)), Nat.le_trans h.size t.size⟩, t⟩
end
/-- a maker that is between two of its keys -/
def MkI (E : MkEnv) (S : Sh) (m n : Nat) (s : MkSt) (w : World) (F : Nat → Prop) : Prop := MakerIs E S m s w F ∧ Inv S n s
theorem MakerIs.holds (E : MkEnv) (S : Sh) (m n : Nat) : Holds (MkI E S m n) E.B E.w0 where
  old := by
    rintro s w F ⟨⟨b, vo, vc, vr, h, rfl⟩, _⟩
    exact ⟨h.below, h.size⟩
  own := by
    rintro s w F ⟨⟨b, vo, vc, vr, h, rfl⟩, _⟩
    exact h.bounds
  alloc := by
    rintro s w F o ⟨⟨b, vo, vc, vr, h, rfl⟩, hi⟩
    exact ⟨⟨b, vo, vc, vr, h.alloc o, rfl⟩, hi⟩
/-- block m behind an append to another row -/
theorem MakerAt.blk_grown {E : MkEnv} {S : Sh} {m b : Nat} {vo vc vr : Value} {st : MkSt} {c : Nat} {w w' : World} {o : Obj} (h : MakerAt E S m b vo vc vr st c w) {v : Value} (hv : v.ownBlock ≠ some m) (hg : (w.alloc o).grownBy w' v.ownBlock) :
    w'.heap[m]? = w.heap[m]? :=
  (hg.block m (by have := block_lt h.blk; simp; omega) (fun e => hv e.symm)).trans (Below.heap_alloc w o m (block_lt h.blk))
theorem MkI.kept {E : MkEnv} {S : Sh} {m n : Nat} {s : MkSt} {w w' : World} {F : Nat → Prop} (h : MkI E S m n s w F) (hk : ∀ i, F i → w'.heap[i]? = w.heap[i]?) (hb : Below E.B E.w0 w') (hs : E.B ≤ w'.heap.size) : MkI E S m n s w' F := by
  obtain ⟨⟨b, vo, vc, vr, h, rfl⟩, hi⟩ := h
  exact ⟨⟨b, vo, vc, vr, h.kept hk hb hs, rfl⟩, hi⟩
theorem MkI.grown {E : MkEnv} {S : Sh} {m n : Nat} {s : MkSt} {w w' : World} {F : Nat → Prop} {o : Obj} {row : Option Nat} (h : MkI E S m n s w F) (hg : (w.alloc o).grownBy w' row) (hr : ∀ i, F i → row ≠ some i) (hB : ∀ i, row = some i → E.B ≤ i) : MkI E S m n s w' F := by
  have ho := (MakerIs.holds E S m n).old _ _ _ h
  refine h.kept (fun i hi => (hg.block i (by have := ((MakerIs.holds E S m n).own _ _ _ h i hi).2; simp; omega) (fun e => hr i hi e.symm)).trans (heap_old ((MakerIs.holds E S m n).own _ _ _ h i hi).2)) ?_ (by have := hg.size; simp at this; omega)
  exact (below_al' ho.1 o ho.2).grown hg (by have := ho.2; simp; omega) hB
end Go.Proofs.Ytagmdljdcnmpdaa
