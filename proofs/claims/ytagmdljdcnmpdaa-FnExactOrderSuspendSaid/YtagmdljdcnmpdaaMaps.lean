import Derived.Test.YtagmdljdcnmpdaaClone
import Derived.Deep.OwnRows
set_option linter.unusedVariables false
set_option linter.unusedSimpArgs false
namespace Go.Proofs.Ytagmdljdcnmpdaa
open Go Go.RowKit

/-! maps from int to values of any kind: what a key has, and how many keys there are -/
def anyElem (v : Value) : Option (DataW Value × List MemPlace) := some (.held v, [])
structure VMapTy (P : Program) (t tk te : TypeId) (z : Value) : Prop where
  ht : P.underlying t = some (.map tk te)
  hk : P.underlying tk = some (.int .i64)
  hz : ∀ w, (zeroValue te).run P w = .ok z w
def VMap (P : Program) (tk : TypeId) (w : World) (b : Nat) (f : Int → Option Value) (c : Nat) : Prop :=
  ∃ D, w.ownsMap (H := Value) P tk anyElem b c D ∧ Maps.size D = c ∧ ∀ k : Int, (Lit.int .i64 k).wf = true → Maps.has D (.int .i64 k) = (f k).isSome ∧ ∀ z, D.atKey (.int .i64 k) z = match f k with | some v => .held v | none => z
def updV (f : Int → Option Value) (k : Int) (v : Value) : Int → Option Value := fun j => if j = k then some v else f j
/-- how many there are behind a store -/
def putC (f : Int → Option Value) (k : Int) (c : Nat) : Nat := if (f k).isSome then c else c + 1
theorem VMap.new (P : Program) (tk : TypeId) (w : World) : VMap P tk (w.alloc (.map #[] 0)) w.heap.size (fun _ => none) 0 :=
  ⟨.map [], World.ownsMap_made _ _ _ _, rfl, fun k _ => ⟨rfl, fun z => rfl⟩⟩
theorem VMap.block {P : Program} {tk : TypeId} {w w' : World} {b c : Nat} {f : Int → Option Value} (h : VMap P tk w b f c) (hb : w'.heap[b]? = w.heap[b]?) : VMap P tk w' b f c := by
  obtain ⟨D, ⟨es, clock, h1, h2⟩, h3⟩ := h
  exact ⟨D, ⟨es, clock, hb.trans h1, h2⟩, h3⟩
theorem VMap.isMap {P : Program} {tk : TypeId} {w : World} {b c : Nat} {f : Int → Option Value} (h : VMap P tk w b f c) : ∃ es k, w.heap[b]? = some (.map es k) := by
  obtain ⟨D, ⟨es, clock, h1, h2⟩, h3⟩ := h
  exact ⟨_, _, h1⟩
theorem VMap.lt {P : Program} {tk : TypeId} {w : World} {b c : Nat} {f : Int → Option Value} (h : VMap P tk w b f c) : b < w.heap.size := by
  obtain ⟨es, k, h⟩ := h.isMap
  exact block_lt h
theorem VMap.congr {P : Program} {tk : TypeId} {w : World} {b c : Nat} {f g : Int → Option Value} (h : VMap P tk w b f c) (e : ∀ k, f k = g k) : VMap P tk w b g c := by
  rw [← funext e]; exact h
/-- a row that is owned lies in no map's block -/
theorem VMap.ne {P : Program} {tk : TypeId} {w : World} {b c : Nat} {f : Int → Option Value} (h : VMap P tk w b f c) {base : Nat} {e : TypeId} {size : Nat} {v : Value} {n : Nat} {xs : List Value} (ho : w.ownsRow base e size v n xs) : v.ownBlock ≠ some b := by
  obtain ⟨es, k, hm⟩ := h.isMap
  exact ownsRow_ne ho hm (fun c e => by cases e)
theorem VMap.ne_cells {P : Program} {tk : TypeId} {w : World} {b c : Nat} {f : Int → Option Value} (h : VMap P tk w b f c) {m : Nat} {cs : Array Value} {t : TypeId} {fr : Nat × Nat} (hm : w.heap[m]? = some (.cells cs t fr)) : m ≠ b := by
  obtain ⟨es, k, hb⟩ := h.isMap
  intro e; rw [e, hb] at hm; cases hm
/-- a cell that is read lies in no map's block -/
theorem VMap.ne_cell {P : Program} {tk : TypeId} {w : World} {b c : Nat} {f : Int → Option Value} (h : VMap P tk w b f c) {m o : Nat} {v : Value} (hm : w.cell? ⟨m, o, none⟩ = some v) : m ≠ b := by
  obtain ⟨es, k, hb⟩ := h.isMap
  intro e; rw [e] at hm; simp [World.cell?, hb] at hm

section
variable {P : Program} {w : World} {ops : Array Oper} {rest : List Oper} {o : Oper} {a : Act} {Q : Exit → Act → World → Prop}
theorem held_inv {v u : Value} {ps : List MemPlace} (h : anyElem v = some (DataW.held u, ps)) : v = u := by
  simp [anyElem] at h; exact h.1
theorem wpList_vget (hgd : o.guard = none) (m x : Operand) (t : TypeId) (ho : o.op = Op.lookup t m x false)
    {tk te : TypeId} {z : Value} (hT : VMapTy P t tk te z) (b c : Nat) (f : Int → Option Value) (hm : a.eval m = .map (some b)) (hM : VMap P tk w b f c) (k : Int) (hx : a.eval x = .int .i64 k) (hw : (Lit.int .i64 k).wf = true)
    (h : wpList P ops Q rest (a.put o.dst ((f k).getD z)) w) : wpList P ops Q (o :: rest) a w := by
  obtain ⟨D, hD, _, hf⟩ := hM
  refine wpList_plain hgd fun K' hK' => ?_
  obtain ⟨v, ps, hrun, hv⟩ := hD.lookup (Maps.int_keyed hT.hk) hT.ht (hT.hz w) (zd := .held z) (zp := []) rfl (Maps.keyOf_int_mk hT.hk hw)
  rw [(hf k hw).2] at hv
  have e : v = (f k).getD z := by
    cases hfk : f k with
    | none => rw [hfk] at hv; exact held_inv hv
    | some u => rw [hfk] at hv; exact held_inv hv
  subst e
  unfold Oper.wp
  simp [execOp, ho, hm, hx, hrun, Result.andThen]
  exact hK' _ _ h
theorem wpList_vget_ok (hgd : o.guard = none) (m x : Operand) (t : TypeId) (ho : o.op = Op.lookup t m x true)
    {tk te : TypeId} {z : Value} (hT : VMapTy P t tk te z) (b c : Nat) (f : Int → Option Value) (hm : a.eval m = .map (some b)) (hM : VMap P tk w b f c) (k : Int) (hx : a.eval x = .int .i64 k) (hw : (Lit.int .i64 k).wf = true)
    (h : wpList P ops Q rest (a.put o.dst (.tuple #[(f k).getD z, .bool (f k).isSome])) w) : wpList P ops Q (o :: rest) a w := by
  obtain ⟨D, hD, _, hf⟩ := hM
  refine wpList_lookup_own_ok w hgd m x t ho tk te (Maps.int_keyed hT.hk) hT.ht anyElem (hT.hz w) (.held z) [] rfl b c D hm hD _ _ hx (Maps.keyOf_int_mk hT.hk hw) ?_
  intro v ps hv
  rw [(hf k hw).2] at hv
  have e : v = (f k).getD z := by
    cases hfk : f k with
    | none => rw [hfk] at hv; exact held_inv hv
    | some u => rw [hfk] at hv; exact held_inv hv
  rw [(hf k hw).1, e]
  exact h
theorem wpList_vput (hgd : o.guard = none) (m x v : Operand) (t : TypeId) (ho : o.op = Op.mapUpdate t m x v)
    {tk te : TypeId} {z : Value} (hT : VMapTy P t tk te z) (b c : Nat) (f : Int → Option Value) (hm : a.eval m = .map (some b)) (hM : VMap P tk w b f c) (hn : c < maxLen) (k : Int) (y : Value) (hx : a.eval x = .int .i64 k) (hv : a.eval v = y) (hw : (Lit.int .i64 k).wf = true)
    (h : ∀ w', VMap P tk w' b (updV f k y) (putC f k c) → w.grownBy w' (some b) → wpList P ops Q rest (a.put o.dst undef) w') : wpList P ops Q (o :: rest) a w := by
  obtain ⟨D, hD, hs, hf⟩ := hM
  have hI := hD.isMap
  have htd := hD.tidy (Maps.int_keyed hT.hk)
  have hkey := Maps.keyOf_int_mk hT.hk hw
  refine wpList_mapUpdate_own (H := Value) w hgd m x v t ho tk te (Maps.int_keyed hT.hk) hT.ht _ b c D hm hD hn _ _ _ hx hv hkey (.held y) [] rfl ?_
  intro w' h1 h2
  have hik : WideAt.IsKeyLit (Lit.int .i64 k) := by simp [WideAt.IsKeyLit]
  have hsz : Maps.size (D.put (.int .i64 k) (.held y)) = putC f k c := by
    unfold putC
    rw [Maps.size_put htd, (hf k hw).1, hs]
  refine h w' ⟨_, ?_, hsz, fun j hj => ?_⟩ h2
  · rw [← hsz]
    obtain ⟨es, clock, hb, F, hle, hDD⟩ := h1
    refine ⟨es, clock, hb, F, ?_, hDD⟩
    rw [hDD]; simp [Maps.size, length_sorted]
  · by_cases e : j = k
    · subst e
      refine ⟨by simp [Maps.has_put_same hI hik, updV], fun z => ?_⟩
      rw [Maps.atKey_put_same hI hik]; simp [updV]
    · have hne : (Lit.int .i64 j) ≠ (Lit.int .i64 k) := by simp [e]
      rw [Maps.has_put_other hne]
      refine ⟨by simpa [updV, e] using (hf j hj).1, fun z => ?_⟩
      rw [Maps.atKey_put_other hne, (hf j hj).2]; simp [updV, e]
theorem wpList_vlen (hgd : o.guard = none) (m : Operand) (t : TypeId) (ho : o.op = Op.call { callee := Callee.builtin Builtin.len, args := #[m], argTypes := #[t] })
    {tk te : TypeId} {z : Value} (hT : VMapTy P t tk te z) (b c : Nat) (f : Int → Option Value) (hm : a.eval m = .map (some b)) (hM : VMap P tk w b f c)
    (h : wpList P ops Q rest (a.put o.dst (.int .i64 c)) w) : wpList P ops Q (o :: rest) a w := by
  obtain ⟨D, hD, hs, hf⟩ := hM
  refine wpList_len_own w hgd m t ho tk te hT.ht anyElem b c D hm hD ?_
  rw [hs]; exact h
end

/-! a block known whole -/
def RowBlk {α : Type} (f : α → Value) (T : TypeId) (w : World) (b : Nat) (xs : List α) : Prop := w.heap[b]? = some (.cells (xs.map f).toArray T (0, 0))
section
variable {α : Type} {f : α → Value} {T : TypeId} {w w' : World} {b : Nat} {xs : List α}
theorem RowBlk.lt (h : RowBlk f T w b xs) : b < w.heap.size := block_lt h
theorem RowBlk.turn (h : RowBlk f T w b xs) (hk : w'.heap[b]? = w.heap[b]?) : RowBlk f T w' b xs := hk.trans h
theorem RowBlk.cell (h : RowBlk f T w b xs) {i : Nat} (hi : i < xs.length) : w.cell? ⟨b, i, none⟩ = some (f xs[i]) := by
  rw [cellm h]; simp [hi]
theorem RowBlk.frozen (h : RowBlk f T w b xs) (i : Nat) : w.frozen? ⟨b, i, none⟩ = false := frozenm h i
theorem RowBlk.set (h : RowBlk f T w b xs) (i : Nat) (x : α) : RowBlk f T (w.setCell ⟨b, i, none⟩ (f x)) b (xs.set i x) := by
  unfold RowBlk
  rw [setCell_block h]
  congr 2
  apply Array.ext'
  simp [List.map_set]
theorem RowBlk.row (h : RowBlk f T w b xs) : RowAt f w.heap.size w (some ⟨b, 0, none⟩) xs := fun i hi => ⟨b, 0, rfl, h.lt, by rw [Nat.zero_add]; exact h.cell hi⟩
theorem RowBlk.owns (h : RowBlk f T w b xs) {base : Nat} (hb : base ≤ b) (hm : xs.length ≤ maxLen) : w.ownsRow base T 1 (.slice (some ⟨b, 0, none⟩) xs.length xs.length) xs.length (xs.map f) :=
  ⟨by simp, .inr ⟨b, xs.length, _, rfl, hb, h, Nat.le_refl _, hm, by simp, by simp [List.take_of_length_le]⟩⟩
end
/-- 'make([]T, n)' has made its block -/
theorem made_row {α : Type} {f : α → Value} {T : TypeId} {w w' : World} {base n : Nat} {v : Value} {z : α} (h : w'.ownsRow base T 1 v n (madeCells #[f z] n).toList) (hb : v = .slice (some ⟨w.heap.size, 0, none⟩) n n) : RowBlk f T w' w.heap.size (List.replicate n z) := by
  subst hb
  obtain ⟨hl, ⟨e, _⟩ | ⟨g, cap, cur, e, hg, hb, hn, hc, hs, ht⟩⟩ := h
  · cases e
  · cases e
    unfold RowBlk
    rw [hb]
    congr 2
    apply Array.ext'
    have : cur.toList.take n = cur.toList := List.take_of_length_le (by simp; omega)
    simp only [Nat.mul_one] at ht
    rw [this] at ht
    rw [ht]
    apply List.ext_getElem
    · simp [madeCells]
    · intro i h1 h2
      simp [madeCells, Nat.mod_one]
theorem made_blk {α : Type} {f : α → Value} {T : TypeId} {w : World} {n : Nat} {z : α} {b : Nat} (hb : w.heap[b]? = some (.cells (madeCells #[f z] n) T (0, 0))) : RowBlk f T w b (List.replicate n z) := by
  unfold RowBlk
  rw [hb]
  congr 2
  apply Array.ext'
  apply List.ext_getElem
  · simp [madeCells]
  · intro i h1 h2
    simp [madeCells, Nat.mod_one]
theorem make_ints (n : Nat) (hn : n ≤ 1048576) : ∀ W : World, (Instr.makeSlice 27 (.int .i64 (n : Int)) (.int .i64 (n : Int))).run Try.prog W = .ok (.slice (some ⟨W.heap.size, 0, none⟩) n n) (W.alloc (.cells (madeCells #[.int .i64 0] n) 3)) :=
  fun W => run_make_row' 27 3 (.int .i64 0) 8 Try.underlying27 (by kernel_rfl) rfl .i64 .i64 n (by omega) (by omega) W
theorem make_bools (n : Nat) (hn : n ≤ 1048576) : ∀ W : World, (Instr.makeSlice 23 (.int .i64 (n : Int)) (.int .i64 (n : Int))).run Try.prog W = .ok (.slice (some ⟨W.heap.size, 0, none⟩) n n) (W.alloc (.cells (madeCells #[.bool false] n) 4)) :=
  fun W => run_make_row' 23 4 (.bool false) 1 Try.underlying23 (by kernel_rfl) rfl .i64 .i64 n (by omega) (by omega) W

theorem ownsRow_ints_of {w : World} {base : Nat} {e : TypeId} {A : Option Addr} {c : Nat} {xs : List Int} (h : w.ownsRow base e 1 (.slice A xs.length c) xs.length (ints xs)) : IntsAt w.heap.size w A xs := by
  obtain ⟨A', c', e, _, _, hx⟩ := ownsRow_ints h
  cases e; exact hx
/-- the box that a struct was put into when the call began is no row that the call owns -/
theorem box_ne {w : World} {base : Nat} {e : TypeId} {size : Nat} {v : Value} {n : Nat} {xs : List Value} (h : w.ownsRow base e size v n xs) {m : Nat} {cs : Array Value} {t : TypeId} (hm : w.heap[m]? = some (.cells cs t (0, 0))) (hne : t ≠ e) : v.ownBlock ≠ some m :=
  ownsRow_ne h hm (fun c e' => by cases e'; exact hne rfl)
/-- a number is stored in a row that is owned -/
theorem ownsRow_set {w : World} {base : Nat} {e : TypeId} {g cap n : Nat} {xs : List Value} (h : w.ownsRow base e 1 (.slice (some ⟨g, 0, none⟩) n cap) n xs) (i : Nat) (v : Value) (hi : i < n) : (w.setCell ⟨g, i, none⟩ v).ownsRow base e 1 (.slice (some ⟨g, 0, none⟩) n cap) n (xs.set i v) := by
  obtain ⟨h1, ⟨h2, _⟩ | ⟨g', cap', cur, h2, h3, h4, h5, h6, h7, h8⟩⟩ := h
  · cases h2
  · cases h2
    refine ⟨by simpa using h1, .inr ⟨g, cap, cur.setIfInBounds i v, rfl, h3, setCell_block h4 i v, h5, h6, by simpa using h7, ?_⟩⟩
    rw [Array.toList_setIfInBounds, List.take_set, h8]
end Go.Proofs.Ytagmdljdcnmpdaa
