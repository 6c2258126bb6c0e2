import Derived.Deep.OwnRows
import Derived.Test.YtpccgdkidnkppaaPk3FnWorkValues
import Derived.Test.YtpccgdkidnkppaaPk5FnWorkValues
import Derived.Test.YtpccgdkidnkppaaPk6FnWorkValues
set_option linter.unusedVariables false
set_option linter.unusedSimpArgs false
namespace Go.Proofs.Ytpccgdkidnkppaa
open Go Go.RowKit

/-! maps from int to values of any kind: what a key has, and how many keys there are -/
def anyElem (v : Value) : Option (DataW Value × List MemPlace) := some (.held v, [])
structure VMapTy (P : Program) (t tk te : TypeId) (z : Value) : Prop where
  ht : P.underlying t = some (.map tk te)
  hk : P.underlying tk = some (.int .i64)
  hz : ∀ w, (zeroValue te).run P w = .ok z w
def VMap (P : Program) (tk : TypeId) (w : World) (b : Nat) (f : Int → Option Value) (c : Nat) : Prop :=
  ∃ D, w.ownsMap (H := Value) P tk anyElem b c D ∧ Maps.size D = c ∧ ∀ k : Int, (Lit.int .i64 k).wf = true → Maps.has D (.int .i64 k) = (f k).isSome ∧ ∀ z, D.atKey (.int .i64 k) z = match f k with | some v => .held v | none => z
def updV (f : Int → Option Value) (k : Int) (v : Value) : Int → Option Value := fun j => if j = k then some v else f j
/-- how many there are behind a store -/
def putC (f : Int → Option Value) (k : Int) (c : Nat) : Nat := if (f k).isSome then c else c + 1
theorem VMap.new (P : Program) (tk : TypeId) (w : World) : VMap P tk (w.alloc (.map #[] 0)) w.heap.size (fun _ => none) 0 :=
  ⟨.map [], World.ownsMap_made _ _ _ _, rfl, fun k _ => ⟨rfl, fun z => rfl⟩⟩
theorem VMap.block {P : Program} {tk : TypeId} {w w' : World} {b c : Nat} {f : Int → Option Value} (h : VMap P tk w b f c) (hb : w'.heap[b]? = w.heap[b]?) : VMap P tk w' b f c := by
  obtain ⟨D, ⟨es, clock, h1, h2⟩, h3⟩ := h
  exact ⟨D, ⟨es, clock, hb.trans h1, h2⟩, h3⟩
theorem VMap.isMap {P : Program} {tk : TypeId} {w : World} {b c : Nat} {f : Int → Option Value} (h : VMap P tk w b f c) : ∃ es k, w.heap[b]? = some (.map es k) := by
  obtain ⟨D, ⟨es, clock, h1, h2⟩, h3⟩ := h
  exact ⟨_, _, h1⟩
theorem VMap.lt {P : Program} {tk : TypeId} {w : World} {b c : Nat} {f : Int → Option Value} (h : VMap P tk w b f c) : b < w.heap.size := by
  obtain ⟨es, k, h⟩ := h.isMap
  exact block_lt h
theorem VMap.congr {P : Program} {tk : TypeId} {w : World} {b c : Nat} {f g : Int → Option Value} (h : VMap P tk w b f c) (e : ∀ k, f k = g k) : VMap P tk w b g c := by
  rw [← funext e]; exact h
/-- a row that is owned lies in no map's block -/
theorem VMap.ne {P : Program} {tk : TypeId} {w : World} {b c : Nat} {f : Int → Option Value} (h : VMap P tk w b f c) {base : Nat} {e : TypeId} {size : Nat} {v : Value} {n : Nat} {xs : List Value} (ho : w.ownsRow base e size v n xs) : v.ownBlock ≠ some b := by
  obtain ⟨es, k, hm⟩ := h.isMap
  exact ownsRow_ne ho hm (fun c e => by cases e)
theorem VMap.ne_cells {P : Program} {tk : TypeId} {w : World} {b c : Nat} {f : Int → Option Value} (h : VMap P tk w b f c) {m : Nat} {cs : Array Value} {t : TypeId} {fr : Nat × Nat} (hm : w.heap[m]? = some (.cells cs t fr)) : m ≠ b := by
  obtain ⟨es, k, hb⟩ := h.isMap
  intro e; rw [e, hb] at hm; cases hm
/-- a cell that is read lies in no map's block -/
theorem VMap.ne_cell {P : Program} {tk : TypeId} {w : World} {b c : Nat} {f : Int → Option Value} (h : VMap P tk w b f c) {m o : Nat} {v : Value} (hm : w.cell? ⟨m, o, none⟩ = some v) : m ≠ b := by
  obtain ⟨es, k, hb⟩ := h.isMap
  intro e; rw [e] at hm; simp [World.cell?, hb] at hm

section
variable {P : Program} {w : World} {ops : Array Oper} {rest : List Oper} {o : Oper} {a : Act} {Q : Exit → Act → World → Prop}
theorem held_inv {v u : Value} {ps : List MemPlace} (h : anyElem v = some (DataW.held u, ps)) : v = u := by
  simp [anyElem] at h; exact h.1
theorem wpList_vget (hgd : o.guard = none) (m x : Operand) (t : TypeId) (ho : o.op = Op.lookup t m x false)
    {tk te : TypeId} {z : Value} (hT : VMapTy P t tk te z) (b c : Nat) (f : Int → Option Value) (hm : a.eval m = .map (some b)) (hM : VMap P tk w b f c) (k : Int) (hx : a.eval x = .int .i64 k) (hw : (Lit.int .i64 k).wf = true)
    (h : wpList P ops Q rest (a.put o.dst ((f k).getD z)) w) : wpList P ops Q (o :: rest) a w := by
  obtain ⟨D, hD, _, hf⟩ := hM
  refine wpList_plain hgd fun K' hK' => ?_
  obtain ⟨v, ps, hrun, hv⟩ := hD.lookup (Maps.int_keyed hT.hk) hT.ht (hT.hz w) (zd := .held z) (zp := []) rfl (Maps.keyOf_int_mk hT.hk hw)
  rw [(hf k hw).2] at hv
  have e : v = (f k).getD z := by
    cases hfk : f k with
    | none => rw [hfk] at hv; exact held_inv hv
    | some u => rw [hfk] at hv; exact held_inv hv
  subst e
  unfold Oper.wp
  simp [execOp, ho, hm, hx, hrun, Result.andThen]
  exact hK' _ _ h
theorem wpList_vget_ok (hgd : o.guard = none) (m x : Operand) (t : TypeId) (ho : o.op = Op.lookup t m x true)
    {tk te : TypeId} {z : Value} (hT : VMapTy P t tk te z) (b c : Nat) (f : Int → Option Value) (hm : a.eval m = .map (some b)) (hM : VMap P tk w b f c) (k : Int) (hx : a.eval x = .int .i64 k) (hw : (Lit.int .i64 k).wf = true)
    (h : wpList P ops Q rest (a.put o.dst (.tuple #[(f k).getD z, .bool (f k).isSome])) w) : wpList P ops Q (o :: rest) a w := by
  obtain ⟨D, hD, _, hf⟩ := hM
  refine wpList_lookup_own_ok w hgd m x t ho tk te (Maps.int_keyed hT.hk) hT.ht anyElem (hT.hz w) (.held z) [] rfl b c D hm hD _ _ hx (Maps.keyOf_int_mk hT.hk hw) ?_
  intro v ps hv
  rw [(hf k hw).2] at hv
  have e : v = (f k).getD z := by
    cases hfk : f k with
    | none => rw [hfk] at hv; exact held_inv hv
    | some u => rw [hfk] at hv; exact held_inv hv
  rw [(hf k hw).1, e]
  exact h
theorem wpList_vput (hgd : o.guard = none) (m x v : Operand) (t : TypeId) (ho : o.op = Op.mapUpdate t m x v)
    {tk te : TypeId} {z : Value} (hT : VMapTy P t tk te z) (b c : Nat) (f : Int → Option Value) (hm : a.eval m = .map (some b)) (hM : VMap P tk w b f c) (hn : c < maxLen) (k : Int) (y : Value) (hx : a.eval x = .int .i64 k) (hv : a.eval v = y) (hw : (Lit.int .i64 k).wf = true)
    (h : ∀ w', VMap P tk w' b (updV f k y) (putC f k c) → w.grownBy w' (some b) → wpList P ops Q rest (a.put o.dst undef) w') : wpList P ops Q (o :: rest) a w := by
  obtain ⟨D, hD, hs, hf⟩ := hM
  have hI := hD.isMap
  have htd := hD.tidy (Maps.int_keyed hT.hk)
  have hkey := Maps.keyOf_int_mk hT.hk hw
  refine wpList_mapUpdate_own (H := Value) w hgd m x v t ho tk te (Maps.int_keyed hT.hk) hT.ht _ b c D hm hD hn _ _ _ hx hv hkey (.held y) [] rfl ?_
  intro w' h1 h2
  have hik : WideAt.IsKeyLit (Lit.int .i64 k) := by simp [WideAt.IsKeyLit]
  have hsz : Maps.size (D.put (.int .i64 k) (.held y)) = putC f k c := by
    unfold putC
    rw [Maps.size_put htd, (hf k hw).1, hs]
  refine h w' ⟨_, ?_, hsz, fun j hj => ?_⟩ h2
  · rw [← hsz]
    obtain ⟨es, clock, hb, F, hle, hDD⟩ := h1
    refine ⟨es, clock, hb, F, ?_, hDD⟩
    rw [hDD]; simp [Maps.size, length_sorted]
  · by_cases e : j = k
    · subst e
      refine ⟨by simp [Maps.has_put_same hI hik, updV], fun z => ?_⟩
      rw [Maps.atKey_put_same hI hik]; simp [updV]
    · have hne : (Lit.int .i64 j) ≠ (Lit.int .i64 k) := by simp [e]
      rw [Maps.has_put_other hne]
      refine ⟨by simpa [updV, e] using (hf j hj).1, fun z => ?_⟩
      rw [Maps.atKey_put_other hne, (hf j hj).2]; simp [updV, e]
theorem wpList_vlen (hgd : o.guard = none) (m : Operand) (t : TypeId) (ho : o.op = Op.call { callee := Callee.builtin Builtin.len, args := #[m], argTypes := #[t] })
    {tk te : TypeId} {z : Value} (hT : VMapTy P t tk te z) (b c : Nat) (f : Int → Option Value) (hm : a.eval m = .map (some b)) (hM : VMap P tk w b f c)
    (h : wpList P ops Q rest (a.put o.dst (.int .i64 c)) w) : wpList P ops Q (o :: rest) a w := by
  obtain ⟨D, hD, hs, hf⟩ := hM
  refine wpList_len_own w hgd m t ho tk te hT.ht anyElem b c D hm hD ?_
  rw [hs]; exact h
end

/-! a block known whole -/
def RowBlk {α : Type} (f : α → Value) (T : TypeId) (w : World) (b : Nat) (xs : List α) : Prop := w.heap[b]? = some (.cells (xs.map f).toArray T (0, 0))
section
variable {α : Type} {f : α → Value} {T : TypeId} {w w' : World} {b : Nat} {xs : List α}
theorem RowBlk.lt (h : RowBlk f T w b xs) : b < w.heap.size := block_lt h
theorem RowBlk.turn (h : RowBlk f T w b xs) (hk : w'.heap[b]? = w.heap[b]?) : RowBlk f T w' b xs := hk.trans h
theorem RowBlk.cell (h : RowBlk f T w b xs) {i : Nat} (hi : i < xs.length) : w.cell? ⟨b, i, none⟩ = some (f xs[i]) := by
  rw [cellm h]; simp [hi]
theorem RowBlk.frozen (h : RowBlk f T w b xs) (i : Nat) : w.frozen? ⟨b, i, none⟩ = false := frozenm h i
theorem RowBlk.set (h : RowBlk f T w b xs) (i : Nat) (x : α) : RowBlk f T (w.setCell ⟨b, i, none⟩ (f x)) b (xs.set i x) := by
  unfold RowBlk
  rw [setCell_block h]
  congr 2
  apply Array.ext'
  simp [List.map_set]
theorem RowBlk.row (h : RowBlk f T w b xs) : RowAt f w.heap.size w (some ⟨b, 0, none⟩) xs := fun i hi => ⟨b, 0, rfl, h.lt, by rw [Nat.zero_add]; exact h.cell hi⟩
theorem RowBlk.owns (h : RowBlk f T w b xs) {base : Nat} (hb : base ≤ b) (hm : xs.length ≤ maxLen) : w.ownsRow base T 1 (.slice (some ⟨b, 0, none⟩) xs.length xs.length) xs.length (xs.map f) :=
  ⟨by simp, .inr ⟨b, xs.length, _, rfl, hb, h, Nat.le_refl _, hm, by simp, by simp [List.take_of_length_le]⟩⟩
end
/-- 'make([]T, n)' has made its block -/
theorem made_row {α : Type} {f : α → Value} {T : TypeId} {w w' : World} {base n : Nat} {v : Value} {z : α} (h : w'.ownsRow base T 1 v n (madeCells #[f z] n).toList) (hb : v = .slice (some ⟨w.heap.size, 0, none⟩) n n) : RowBlk f T w' w.heap.size (List.replicate n z) := by
  subst hb
  obtain ⟨hl, ⟨e, _⟩ | ⟨g, cap, cur, e, hg, hb, hn, hc, hs, ht⟩⟩ := h
  · cases e
  · cases e
    unfold RowBlk
    rw [hb]
    congr 2
    apply Array.ext'
    have : cur.toList.take n = cur.toList := List.take_of_length_le (by simp; omega)
    simp only [Nat.mul_one] at ht
    rw [this] at ht
    rw [ht]
    apply List.ext_getElem
    · simp [madeCells]
    · intro i h1 h2
      simp [madeCells, Nat.mod_one]
theorem made_blk {α : Type} {f : α → Value} {T : TypeId} {w : World} {n : Nat} {z : α} {b : Nat} (hb : w.heap[b]? = some (.cells (madeCells #[f z] n) T (0, 0))) : RowBlk f T w b (List.replicate n z) := by
  unfold RowBlk
  rw [hb]
  congr 2
  apply Array.ext'
  apply List.ext_getElem
  · simp [madeCells]
  · intro i h1 h2
    simp [madeCells, Nat.mod_one]
theorem make_ints (n : Nat) (hn : n ≤ 1048576) : ∀ W : World, (Instr.makeSlice 26 (.int .i64 (n : Int)) (.int .i64 (n : Int))).run Try.prog W = .ok (.slice (some ⟨W.heap.size, 0, none⟩) n n) (W.alloc (.cells (madeCells #[.int .i64 0] n) 3)) :=
  fun W => run_make_row' 26 3 (.int .i64 0) 8 Try.underlying26 (by kernel_rfl) rfl .i64 .i64 n (by omega) (by omega) W
theorem make_bools (n : Nat) (hn : n ≤ 1048576) : ∀ W : World, (Instr.makeSlice 22 (.int .i64 (n : Int)) (.int .i64 (n : Int))).run Try.prog W = .ok (.slice (some ⟨W.heap.size, 0, none⟩) n n) (W.alloc (.cells (madeCells #[.bool false] n) 4)) :=
  fun W => run_make_row' 22 4 (.bool false) 1 Try.underlying22 (by kernel_rfl) rfl .i64 .i64 n (by omega) (by omega) W

theorem ownsRow_ints_of {w : World} {base : Nat} {e : TypeId} {A : Option Addr} {c : Nat} {xs : List Int} (h : w.ownsRow base e 1 (.slice A xs.length c) xs.length (ints xs)) : IntsAt w.heap.size w A xs := by
  obtain ⟨A', c', e, _, _, hx⟩ := ownsRow_ints h
  cases e; exact hx
/-- the box that a struct was put into when the call began is no row that the call owns -/
theorem box_ne {w : World} {base : Nat} {e : TypeId} {size : Nat} {v : Value} {n : Nat} {xs : List Value} (h : w.ownsRow base e size v n xs) {m : Nat} {cs : Array Value} {t : TypeId} (hm : w.heap[m]? = some (.cells cs t (0, 0))) (hne : t ≠ e) : v.ownBlock ≠ some m :=
  ownsRow_ne h hm (fun c e' => by cases e'; exact hne rfl)
/-- a number is stored in a row that is owned -/
theorem ownsRow_set {w : World} {base : Nat} {e : TypeId} {g cap n : Nat} {xs : List Value} (h : w.ownsRow base e 1 (.slice (some ⟨g, 0, none⟩) n cap) n xs) (i : Nat) (v : Value) (hi : i < n) : (w.setCell ⟨g, i, none⟩ v).ownsRow base e 1 (.slice (some ⟨g, 0, none⟩) n cap) n (xs.set i v) := by
  obtain ⟨h1, ⟨h2, _⟩ | ⟨g', cap', cur, h2, h3, h4, h5, h6, h7, h8⟩⟩ := h
  · cases h2
  · cases h2
    refine ⟨by simpa using h1, .inr ⟨g, cap, cur.setIfInBounds i v, rfl, h3, setCell_block h4 i v, h5, h6, by simpa using h7, ?_⟩⟩
    rw [Array.toList_setIfInBounds, List.take_set, h8]
end Go.Proofs.Ytpccgdkidnkppaa

set_option linter.unusedVariables false
set_option linter.unusedSimpArgs false
namespace Go.Proofs.Ytpccgdkidnkppaa
open Go Go.RowKit

/-! two runs side by side -/
theorem Itr.run_rel {σ τ : Type} {f : σ → Int → (Int × Bool) × σ} {g : τ → Int → (Int × Bool) × τ} {R : σ → τ → Prop}
    (h : ∀ s c k, R s c → 0 ≤ k → k ≤ 9 → (f s k).1 = (g c k).1 ∧ ((f s k).1.2 = true → R (f s k).2 (g c k).2)) : ∀ (m : Itr) (s : σ) (c : τ), m.ok → R s c → (m.run f s).1 = (m.run g c).1 ∧ ((m.run f s).1.2 = true → R (m.run f s).2 (m.run g c).2) := by
  intro m
  induction m with
  | done v => intro s c _ hR; exact ⟨rfl, fun _ => hR⟩
  | ask k ct ih =>
    intro s c hok hR
    obtain ⟨h1, h2⟩ := h s c k hR hok.1 hok.2.1
    by_cases hf : (f s k).1.2 = true
    · have hg : (g c k).1.2 = true := by rw [← h1]; exact hf
      rw [Itr.run_yes hf, Itr.run_yes hg, ← h1]
      exact ih _ _ _ (hok.2.2 _) (h2 hf)
    · have hg : ¬ (g c k).1.2 = true := by rw [← h1]; exact hf
      rw [Itr.run_no hf, Itr.run_no hg]
      exact ⟨rfl, fun h => by cases h⟩
theorem Itr.run_keeps {σ : Type} {f : σ → Int → (Int × Bool) × σ} {J : σ → Prop} (hJ : ∀ s k, J s → 0 ≤ k → k ≤ 9 → J (f s k).2) : ∀ (m : Itr) (s : σ), m.ok → J s → J (m.run f s).2 := by
  intro m
  induction m with
  | done v => intro s _ h; exact h
  | ask k ct ih =>
    intro s hok h
    have h1 := hJ s k h hok.1 hok.2.1
    by_cases hf : (f s k).1.2 = true
    · rw [Itr.run_yes hf]; exact ih _ _ (hok.2.2 _) h1
    · rw [Itr.run_no hf]; exact h1

/-! the reference's way of building keys, each once -/
structure OSt where
  vals : List Int
  done : List Int
  under : List Int
def onceP (S : Sh) : Nat → OSt → Int → (Int × Bool) × OSt
  | n, st, k =>
    if mkK S.made k = false then ((atK st.vals k, true), st)
    else if st.done.contains k = true then ((atK st.vals k, true), st)
    else if st.under.contains k = true then ((0, false), st)
    else match n with
      | 0 => ((0, false), st)
      | n + 1 =>
        if ((S.tk k).itr.run (onceP S n) ⟨st.vals, st.done, st.under ++ [k]⟩).1.2 = true
        then ((((S.tk k).itr.run (onceP S n) ⟨st.vals, st.done, st.under ++ [k]⟩).1.1, true), ⟨((S.tk k).itr.run (onceP S n) ⟨st.vals, st.done, st.under ++ [k]⟩).2.vals.set k.toNat ((S.tk k).itr.run (onceP S n) ⟨st.vals, st.done, st.under ++ [k]⟩).1.1, ((S.tk k).itr.run (onceP S n) ⟨st.vals, st.done, st.under ++ [k]⟩).2.done ++ [k], st.under⟩)
        else ((0, false), ⟨((S.tk k).itr.run (onceP S n) ⟨st.vals, st.done, st.under ++ [k]⟩).2.vals, ((S.tk k).itr.run (onceP S n) ⟨st.vals, st.done, st.under ++ [k]⟩).2.done, st.under⟩)
theorem onceP_unmade {S : Sh} {n : Nat} {st : OSt} {k : Int} (h : mkK S.made k = false) : onceP S n st k = ((atK st.vals k, true), st) := by unfold onceP; rw [if_pos h]
theorem onceP_done {S : Sh} {n : Nat} {st : OSt} {k : Int} (h : mkK S.made k = true) (hd : st.done.contains k = true) : onceP S n st k = ((atK st.vals k, true), st) := by unfold onceP; rw [if_neg (by simp [h]), if_pos hd]
theorem onceP_under {S : Sh} {n : Nat} {st : OSt} {k : Int} (h : mkK S.made k = true) (hd : st.done.contains k = false) (hu : st.under.contains k = true) : onceP S n st k = ((0, false), st) := by unfold onceP; rw [if_neg (by simp [h]), if_neg (by simp only [hd]; decide), if_pos hu]
theorem onceP_new {S : Sh} {n : Nat} {st : OSt} {k : Int} (h : mkK S.made k = true) (hd : st.done.contains k = false) (hu : st.under.contains k = false) : onceP S (n + 1) st k =
    (let r := (S.tk k).itr.run (onceP S n) ⟨st.vals, st.done, st.under ++ [k]⟩
     if r.1.2 = true then ((r.1.1, true), ⟨r.2.vals.set k.toNat r.1.1, r.2.done ++ [k], st.under⟩) else ((0, false), ⟨r.2.vals, r.2.done, st.under⟩)) := by
  rw [onceP, if_neg (by simp [h]), if_neg (by simp only [hd]; decide), if_neg (by simp only [hu]; decide)]
theorem onceP_zero (S : Sh) (n : Nat) (st : OSt) (k : Int) : (onceP S n st k).1.2 = false → (onceP S n st k).1.1 = 0 := by
  intro h
  unfold onceP at h ⊢
  split
  · rename_i h1; rw [if_pos h1] at h; cases h
  · rename_i h1
    rw [if_neg h1] at h
    split
    · rename_i h2; rw [if_pos h2] at h; cases h
    · rename_i h2
      rw [if_neg h2] at h
      split
      · rfl
      · rename_i h3
        rw [if_neg h3] at h
        cases n with
        | zero => rfl
        | succ n =>
          dsimp only at h ⊢
          split
          · rename_i h4; rw [if_pos h4] at h; cases h
          · rfl
/-- what is kept: of what a step of the reference's way -/
structure OInv (S : Sh) (n : Nat) (st : OSt) : Prop where
  vlen : st.vals.length = S.made.length
  vals : ∀ x ∈ st.vals, 0 ≤ x ∧ x ≤ 96
  done : st.done.length ≤ S.made.length
  nodup : st.done.Nodup
  range : ∀ x ∈ st.done, 0 ≤ x ∧ x < S.made.length
  under : UOk S n st.under
  apart : ∀ x ∈ st.under, x ∉ st.done
theorem OInv.at {S : Sh} {n : Nat} {st : OSt} (h : OInv S n st) (k : Int) : 0 ≤ atK st.vals k ∧ atK st.vals k ≤ 96 := by
  unfold atK
  split
  · omega
  · by_cases h1 : k.toNat < st.vals.length
    · rw [getD_at _ h1]; exact h.vals _ (List.getElem_mem _)
    · rw [getD_out _ (by omega)]; omega
theorem onceP_inv {S : Sh} (hS : S.Ok) : ∀ (n : Nat) (st : OSt) (k : Int), OInv S n st → OInv S n (onceP S n st k).2 ∧ (onceP S n st k).2.under = st.under ∧ 0 ≤ (onceP S n st k).1.1 ∧ (onceP S n st k).1.1 ≤ 96 := by
  intro n
  induction n with
  | zero =>
    intro st k hi
    cases hm : mkK S.made k with
    | false => rw [onceP_unmade hm]; exact ⟨hi, rfl, hi.at k⟩
    | true =>
      cases hd : st.done.contains k with
      | true => rw [onceP_done hm hd]; exact ⟨hi, rfl, hi.at k⟩
      | false =>
        cases hu : st.under.contains k with
        | true => rw [onceP_under hm hd hu]; exact ⟨hi, rfl, by simp, by simp⟩
        | false =>
          have : onceP S 0 st k = ((0, false), st) := by rw [onceP, if_neg (by simp [hm]), if_neg (by simp only [hd]; decide), if_neg (by simp only [hu]; decide)]
          rw [this]; exact ⟨hi, rfl, by simp, by simp⟩
  | succ n ih =>
    intro st k hi
    cases hm : mkK S.made k with
    | false => rw [onceP_unmade hm]; exact ⟨hi, rfl, hi.at k⟩
    | true =>
      cases hd : st.done.contains k with
      | true => rw [onceP_done hm hd]; exact ⟨hi, rfl, hi.at k⟩
      | false =>
        cases hu : st.under.contains k with
        | true => rw [onceP_under hm hd hu]; exact ⟨hi, rfl, by simp, by simp⟩
        | false =>
          have hkr := mkK_range (show mkK S.made k ≠ false by rw [hm]; simp)
          have hkd : k ∉ st.done := by simpa using hd
          have hku : k ∉ st.under := by simpa using hu
          rw [onceP_new hm hd hu]
          have h1 : OInv S n ⟨st.vals, st.done, st.under ++ [k]⟩ := ⟨hi.vlen, hi.vals, hi.done, hi.nodup, hi.range, hi.under.push hku hkr, fun x hx => (List.mem_append.1 hx).elim (hi.apart x) (fun e => by rw [List.mem_singleton.1 e]; exact hkd)⟩
          have hk := Itr.run_keeps (f := onceP S n) (J := fun s => OInv S n s ∧ s.under = st.under ++ [k]) (fun s j h _ _ => ⟨(ih s j h.1).1, ((ih s j h.1).2.1).trans h.2⟩) (S.tk k).itr ⟨st.vals, st.done, st.under ++ [k]⟩ (Tk.itr_ok _ (tk_ok hS k)) ⟨h1, rfl⟩
          have hv : 0 ≤ ((S.tk k).itr.run (onceP S n) ⟨st.vals, st.done, st.under ++ [k]⟩).1.1 ∧ ((S.tk k).itr.run (onceP S n) ⟨st.vals, st.done, st.under ++ [k]⟩).1.1 ≤ 96 := by
            rw [← Tk.run_itr _ (onceP_zero S n)]
            exact Tk.run_value (J := fun s => OInv S n s) (fun s j h _ _ => (ih s j h).1) (fun s j h _ _ => (ih s j h).2.2) (S.tk k) _ (tk_ok hS k) h1
          generalize (S.tk k).itr.run (onceP S n) ⟨st.vals, st.done, st.under ++ [k]⟩ = r at *
          obtain ⟨h2, h3⟩ := hk
          have hkd2 : k ∉ r.2.done := h2.apart k (by rw [h3]; simp)
          have hap : ∀ x ∈ st.under, x ∉ r.2.done := fun x hx => h2.apart x (by rw [h3]; simp [hx])
          dsimp only
          split
          · refine ⟨⟨by simpa using h2.vlen, fun x hx => ?_, ?_, ?_, fun x hx => ?_, hi.under, fun x hx hx2 => ?_⟩, rfl, hv⟩
            · rcases List.mem_or_eq_of_mem_set hx with hx | rfl
              · exact h2.vals x hx
              · exact hv
            · refine nodup_bound ?_ (fun x hx => ?_)
              · rw [List.nodup_append]
                exact ⟨h2.nodup, by simp, fun a ha b hb => by simp only [List.mem_singleton] at hb; subst hb; intro e; exact hkd2 (e ▸ ha)⟩
              · rcases List.mem_append.1 hx with hx | hx
                · exact h2.range x hx
                · rw [List.mem_singleton.1 hx]; exact hkr
            · rw [List.nodup_append]
              exact ⟨h2.nodup, by simp, fun a ha b hb => by simp only [List.mem_singleton] at hb; subst hb; intro e; exact hkd2 (e ▸ ha)⟩
            · rcases List.mem_append.1 hx with hx | hx
              · exact h2.range x hx
              · rw [List.mem_singleton.1 hx]; exact hkr
            · rcases List.mem_append.1 hx2 with hx2 | hx2
              · exact hap x hx hx2
              · rw [List.mem_singleton.1 hx2] at hx; exact hku hx
          · exact ⟨⟨h2.vlen, h2.vals, h2.done, h2.nodup, h2.range, hi.under, hap⟩, rfl, by simp, by simp⟩

/-! the same as the program's maker -/
structure ORel (S : Sh) (st : MkSt) (o : OSt) : Prop where
  done : o.done = st.order
  under : o.under = st.open_
  vlen : o.vals.length = S.made.length
  unmade : ∀ k, mkK S.made k = false → atK o.vals k = atK S.inputs k
  has : ∀ k, mkK S.made k = true → (k ∈ st.order ↔ st.known k ≠ none)
  val : ∀ k v, st.known k = some v → mkK S.made k = true ∧ atK o.vals k = v
theorem atK_set {xs : List Int} {k j : Int} {v : Int} (hk : 0 ≤ k ∧ k < xs.length) : atK (xs.set k.toNat v) j = if j = k then v else atK xs j := by
  obtain ⟨q, rfl⟩ := Int.eq_ofNat_of_zero_le hk.1
  rw [Int.toNat_natCast]
  unfold atK
  by_cases e : j = (q : Int)
  · subst e
    rw [if_pos rfl, if_neg (by omega), Int.toNat_natCast, getD_at _ (by simp; omega)]
    simp
  · rw [if_neg e]
    split
    · rfl
    · by_cases hj : j.toNat < xs.length
      · rw [getD_at _ (by simpa using hj), getD_at _ hj, List.getElem_set_ne (by omega)]
      · rw [getD_out _ (by simp; omega), getD_out _ (by omega)]
theorem once_same {S : Sh} (hS : S.Ok) : ∀ (n : Nat) (st : MkSt) (o : OSt) (k : Int), Inv S n st → ORel S st o →
    (keyP S n st k).1 = (onceP S n o k).1 ∧ ((keyP S n st k).1.2 = true → ORel S (keyP S n st k).2 (onceP S n o k).2) := by
  intro n
  induction n with
  | zero =>
    intro st o k hi hR
    cases hm : mkK S.made k with
    | false => rw [keyP_unmade hm, onceP_unmade hm]; exact ⟨by rw [hR.unmade k hm], fun _ => hR⟩
    | true =>
      cases hkn : st.known k with
      | some v =>
        have hd : o.done.contains k = true := by rw [hR.done]; simp [(hR.has k hm).2 (by rw [hkn]; simp)]
        rw [keyP_known hm hkn, onceP_done hm hd]
        exact ⟨by rw [(hR.val k v hkn).2], fun _ => hR⟩
      | none =>
        have hd : o.done.contains k = false := by
          rw [hR.done]
          cases h : st.order.contains k with
          | false => rfl
          | true => exact ((hR.has k hm).1 (by simpa using h) hkn).elim
        by_cases ho : 0 ≤ idx (fun x => k == x) st.open_
        · have hu : o.under.contains k = true := by
            rw [hR.under]
            cases h : st.open_.contains k with
            | true => rfl
            | false => exact (idx_not_mem (by simpa using h) ho).elim
          rw [keyP_opened hm hkn ho, onceP_under hm hd hu]
          exact ⟨rfl, fun h => by cases h⟩
        · have hu : o.under.contains k = false := by
            rw [hR.under]; simpa using not_open ho
          have e1 : keyP S 0 st k = ((0, false), st) := by unfold keyP; rw [if_neg (by simp [hm]), hkn]; simp only; rw [if_neg ho]
          have e2 : onceP S 0 o k = ((0, false), o) := by rw [onceP, if_neg (by simp [hm]), if_neg (by simp only [hd]; decide), if_neg (by simp only [hu]; decide)]
          rw [e1, e2]
          exact ⟨rfl, fun h => by cases h⟩
  | succ n ih =>
    intro st o k hi hR
    cases hm : mkK S.made k with
    | false => rw [keyP_unmade hm, onceP_unmade hm]; exact ⟨by rw [hR.unmade k hm], fun _ => hR⟩
    | true =>
      cases hkn : st.known k with
      | some v =>
        have hd : o.done.contains k = true := by rw [hR.done]; simp [(hR.has k hm).2 (by rw [hkn]; simp)]
        rw [keyP_known hm hkn, onceP_done hm hd]
        exact ⟨by rw [(hR.val k v hkn).2], fun _ => hR⟩
      | none =>
        have hd : o.done.contains k = false := by
          rw [hR.done]
          cases h : st.order.contains k with
          | false => rfl
          | true => exact ((hR.has k hm).1 (by simpa using h) hkn).elim
        by_cases ho : 0 ≤ idx (fun x => k == x) st.open_
        · have hu : o.under.contains k = true := by
            rw [hR.under]
            cases h : st.open_.contains k with
            | true => rfl
            | false => exact (idx_not_mem (by simpa using h) ho).elim
          rw [keyP_opened hm hkn ho, onceP_under hm hd hu]
          exact ⟨rfl, fun h => by cases h⟩
        · have hu : o.under.contains k = false := by
            rw [hR.under]; simpa using not_open ho
          have hkr := mkK_range (show mkK S.made k ≠ false by rw [hm]; simp)
          have hi1 := inv_push hi hkr hkn (not_open ho)
          have hR1 : ORel S { st with open_ := st.open_ ++ [k] } ⟨o.vals, o.done, o.under ++ [k]⟩ := ⟨hR.done, by simp only [hR.under], hR.vlen, hR.unmade, hR.has, hR.val⟩
          have hrel := Itr.run_rel (f := keyP S n) (g := onceP S n) (R := fun s c => Inv S n s ∧ ORel S s c ∧ s.open_ = st.open_ ++ [k]) (fun s c j h _ _ => by
            obtain ⟨a, b⟩ := ih s c j h.1 h.2.1
            have hv := keyP_inv hS n s j h.1
            exact ⟨a, fun hok => ⟨hv.1, b hok, (hv.2.1 hok).trans h.2.2⟩⟩) (S.tk k).itr { st with open_ := st.open_ ++ [k] } ⟨o.vals, o.done, o.under ++ [k]⟩ (Tk.itr_ok _ (tk_ok hS k)) ⟨hi1, hR1, rfl⟩
          rw [keyP_new hm hkn ho, onceP_new hm hd hu, Tk.run_itr _ (keyP_zero S n)]
          generalize (S.tk k).itr.run (keyP S n) { st with open_ := st.open_ ++ [k] } = r at *
          generalize (S.tk k).itr.run (onceP S n) ⟨o.vals, o.done, o.under ++ [k]⟩ = q at *
          obtain ⟨h1, h2⟩ := hrel
          dsimp only
          rw [← h1]
          by_cases hok : r.1.2 = true
          · obtain ⟨g1, g2, g3⟩ := h2 hok
            rw [if_pos hok, if_pos hok]
            refine ⟨rfl, fun _ => ⟨by simp only [g2.done], by simp only [g3, List.dropLast_concat]; exact hR.under, by simpa using g2.vlen, fun j hj => ?_, fun j hj => ?_, fun j v hv => ?_⟩⟩
            · rw [atK_set (by rw [g2.vlen]; exact hkr), if_neg (fun e => by rw [e, hm] at hj; cases hj)]
              exact g2.unmade j hj
            · simp only [List.mem_append, List.mem_singleton, upd]
              by_cases e : j = k
              · simp [e]
              · rw [if_neg e]
                have := g2.has j hj
                simp only [e, or_false]; exact this
            · simp only [upd] at hv
              rw [atK_set (by rw [g2.vlen]; exact hkr)]
              by_cases e : j = k
              · rw [if_pos e] at hv ⊢; cases hv; exact ⟨by rw [e]; exact hm, rfl⟩
              · rw [if_neg e] at hv ⊢; exact g2.val j v hv
          · rw [if_neg hok, if_neg hok]
            exact ⟨rfl, fun h => by cases h⟩

/-! keys, one after another -/
def suspL (S : Sh) : List Int → MkSt → List Int × Bool
  | [], st => (st.order, true)
  | k :: ks, st => if (keyP S S.made.length st k).1.2 = true then suspL S ks (keyP S S.made.length st k).2 else ([], false)
def onceL (S : Sh) : List Int → OSt → List Int × Bool
  | [], st => (st.done, true)
  | k :: ks, st => if (onceP S S.made.length st k).1.2 = true then onceL S ks (onceP S S.made.length st k).2 else ([], false)
def suspP (S : Sh) (keys : List Int) : List Int × Bool := suspL S keys st0
def ost0 (S : Sh) : OSt := ⟨S.inputs, [], []⟩
theorem orel0 {S : Sh} (hS : S.Ok) : ORel S st0 (ost0 S) := ⟨rfl, rfl, hS.ins, fun _ _ => rfl, fun k _ => by simp [st0], fun k v h => by cases h⟩
theorem oinv0 {S : Sh} (hS : S.Ok) : OInv S S.made.length (ost0 S) := ⟨hS.ins, hS.vals, by simp [ost0], List.nodup_nil, fun x hx => (by cases hx), uok0 S, fun x hx => (by cases hx)⟩
theorem suspL_same {S : Sh} (hS : S.Ok) : ∀ (ks : List Int) (st : MkSt) (o : OSt), Inv S S.made.length st → ORel S st o → suspL S ks st = onceL S ks o := by
  intro ks
  induction ks with
  | nil => intro st o _ hR; rw [suspL, onceL, hR.done]
  | cons k ks ih =>
    intro st o hi hR
    obtain ⟨h1, h2⟩ := once_same hS S.made.length st o k hi hR
    rw [suspL, onceL, ← h1]
    by_cases hok : (keyP S S.made.length st k).1.2 = true
    · rw [if_pos hok, if_pos hok]
      exact ih _ _ (keyP_inv hS _ _ _ hi).1 (h2 hok)
    · rw [if_neg hok, if_neg hok]
theorem susp_same {S : Sh} (hS : S.Ok) (keys : List Int) : suspP S keys = onceL S keys (ost0 S) := suspL_same hS keys st0 (ost0 S) (inv0 S) (orel0 hS)
theorem suspL_length {S : Sh} (hS : S.Ok) : ∀ (ks : List Int) (st : MkSt), Inv S S.made.length st → (suspL S ks st).1.length ≤ 10 := by
  intro ks
  induction ks with
  | nil => intro st hi; rw [suspL]; have := inv_order hi; have := hS.ten; simp only []; omega
  | cons k ks ih =>
    intro st hi
    rw [suspL]
    split
    · exact ih _ (keyP_inv hS _ _ _ hi).1
    · simp
/-- whether all keys are ones of a sheet of n keys -/
def keysOk (n : Nat) (keys : List Int) : Bool := keys.all fun k => decide (0 ≤ k ∧ k < n)
theorem keysOk_iff {n : Nat} {keys : List Int} : keysOk n keys = true ↔ ∀ k ∈ keys, 0 ≤ k ∧ k < n := by
  unfold keysOk
  rw [List.all_eq_true]
  simp
end Go.Proofs.Ytpccgdkidnkppaa

set_option linter.unusedVariables false
set_option linter.unusedSimpArgs false
namespace Go.Proofs.Ytpccgdkidnkppaa
open Go Go.RowKit

/-! an object in a block of its own, and what it owns: rows, maps, in blocks apart -/
structure Part where
  F : Nat → Prop
  P : World → Prop
structure Part.Ok (B : Nat) (p : Part) (w : World) : Prop where
  hold : p.P w
  bnd : ∀ i, p.F i → B ≤ i ∧ i < w.heap.size
  stab : ∀ w1 w2 : World, (∀ i, p.F i → w2.heap[i]? = w1.heap[i]?) → p.P w1 → p.P w2
def Foot (m : Nat) (ps : List Part) (i : Nat) : Prop := i = m ∨ ∃ p ∈ ps, p.F i
structure ObjAt (B : Nat) (w0 : World) (m : Nat) (T : TypeId) (cs : Array Value) (ps : List Part) (w : World) : Prop where
  blk : w.heap[m]? = some (.cells cs T (0, 0))
  ok : ∀ p ∈ ps, p.Ok B w
  ne : ∀ i j (hi : i < ps.length) (hj : j < ps.length), i ≠ j → ∀ b, ps[i].F b → ¬ ps[j].F b
  far : ∀ p ∈ ps, ¬ p.F m
  hm : B ≤ m
  below : Below B w0 w
  size : B ≤ w.heap.size
section
variable {B : Nat} {w0 : World} {m : Nat} {T : TypeId} {cs : Array Value} {ps : List Part} {w w' : World}
theorem ObjAt.bounds (h : ObjAt B w0 m T cs ps w) : ∀ i, Foot m ps i → B ≤ i ∧ i < w.heap.size := by
  intro i hi
  rcases hi with rfl | ⟨p, hp, hf⟩
  · exact ⟨h.hm, block_lt h.blk⟩
  · exact (h.ok p hp).bnd i hf
theorem Part.Ok.kept {p : Part} (h : p.Ok B w) (hk : ∀ i, p.F i → w'.heap[i]? = w.heap[i]?) (hs : w.heap.size ≤ w'.heap.size) : p.Ok B w' :=
  ⟨h.stab w w' hk h.hold, fun i hi => ⟨(h.bnd i hi).1, Nat.lt_of_lt_of_le (h.bnd i hi).2 hs⟩, h.stab⟩
theorem ObjAt.kept (h : ObjAt B w0 m T cs ps w) (hk : ∀ i, Foot m ps i → w'.heap[i]? = w.heap[i]?) (hb : Below B w0 w') (hs : w.heap.size ≤ w'.heap.size) : ObjAt B w0 m T cs ps w' :=
  ⟨(hk m (.inl rfl)).trans h.blk, fun p hp => (h.ok p hp).kept (fun i hi => hk i (.inr ⟨p, hp, hi⟩)) hs, h.ne, h.far, h.hm, hb, Nat.le_trans h.size hs⟩
theorem ObjAt.up (h : ObjAt B w0 m T cs ps w) (hb : Below w.heap.size w w') : ObjAt B w0 m T cs ps w' :=
  h.kept (fun i hi => hb.block i (h.bounds i hi).2) (below_up' h.below h.size hb) hb.size
theorem ObjAt.alloc (h : ObjAt B w0 m T cs ps w) (o : Obj) : ObjAt B w0 m T cs ps (w.alloc o) := h.up (below_al (Below.refl _ _) o)
theorem ObjAt.drew (h : ObjAt B w0 m T cs ps w) : ObjAt B w0 m T cs ps w.drew := h.up (Below.refl _ _).drew
/-- what else turned is apart from it -/
theorem ObjAt.aside (h : ObjAt B w0 m T cs ps w) {F F' : Nat → Prop} (t : Turn F F' w w') (hF : ∀ i, F i → B ≤ i ∧ ¬ Foot m ps i) : ObjAt B w0 m T cs ps w' :=
  h.kept (fun i hi => t.block i (h.bounds i hi).2 (fun hf => (hF i hf).2 hi)) (h.below.trans (t.below h.size (fun i hi => (hF i hi).1))) t.size
/-- a part turns into another one -/
theorem ObjAt.turn (h : ObjAt B w0 m T cs ps w) (i : Nat) (hi : i < ps.length) (p' : Part) (hp' : p'.P w') (hst : ∀ w1 w2 : World, (∀ i, p'.F i → w2.heap[i]? = w1.heap[i]?) → p'.P w1 → p'.P w2) (hlt : ∀ i, p'.F i → i < w'.heap.size) (t : Turn ps[i].F p'.F w w') :
    ObjAt B w0 m T cs (ps.set i p') w' ∧ Turn (Foot m ps) (Foot m (ps.set i p')) w w' := by
  have hin := List.getElem_mem hi
  have hfar : ∀ b, b < w.heap.size → ¬ ps[i].F b → w'.heap[b]? = w.heap[b]? := fun b hb hn => t.block b hb hn
  have hfr : ∀ b, p'.F b → ps[i].F b ∨ w.heap.size ≤ b := t.fresh
  refine ⟨⟨(hfar m (block_lt h.blk) (h.far _ hin)).trans h.blk, fun p hp => ?_, fun a b ha hb hab q hq => ?_, fun p hp => ?_, h.hm, h.below.trans (t.below h.size (fun b hb => ((h.ok _ hin).bnd b hb).1)), Nat.le_trans h.size t.size⟩, ?_⟩
  · obtain ⟨j, hj, rfl⟩ := List.getElem_of_mem hp
    simp only [List.length_set] at hj
    rw [List.getElem_set]
    by_cases e : i = j
    · rw [if_pos e]
      exact ⟨hp', fun b hb => ⟨(hfr b hb).elim (fun hf => ((h.ok _ hin).bnd b hf).1) (fun hge => Nat.le_trans h.size hge), hlt b hb⟩, hst⟩
    · rw [if_neg e]
      have hok := h.ok _ (List.getElem_mem hj)
      exact hok.kept (fun b hb => hfar b (hok.bnd b hb).2 (h.ne j i hj hi (fun e' => e e'.symm) b hb)) t.size
  · simp only [List.length_set] at ha hb
    rw [List.getElem_set] at hq ⊢
    by_cases ea : i = a
    · rw [if_pos ea] at hq
      by_cases eb : i = b
      · exact (hab (ea.symm.trans eb)).elim
      · rw [if_neg eb]
        rcases hfr q hq with hf | hge
        · exact h.ne i b hi hb eb q hf
        · intro hf2
          have := ((h.ok _ (List.getElem_mem hb)).bnd q hf2).2
          omega
    · rw [if_neg ea] at hq
      by_cases eb : i = b
      · rw [if_pos eb]
        intro hf2
        rcases hfr q hf2 with hf | hge
        · exact h.ne a i ha hi (fun e => ea e.symm) q hq hf
        · have := ((h.ok _ (List.getElem_mem ha)).bnd q hq).2
          omega
      · rw [if_neg eb]; exact h.ne a b ha hb hab q hq
  · obtain ⟨j, hj, rfl⟩ := List.getElem_of_mem hp
    simp only [List.length_set] at hj
    rw [List.getElem_set]
    by_cases e : i = j
    · rw [if_pos e]
      intro hf
      rcases hfr m hf with hf | hge
      · exact h.far _ hin hf
      · have := block_lt h.blk; omega
    · rw [if_neg e]; exact h.far _ (List.getElem_mem hj)
  · refine ⟨t.os, t.tape, t.output, t.size, fun b hb hn => hfar b hb (fun hf => hn (.inr ⟨_, hin, hf⟩)), fun b hb => ?_⟩
    rcases hb with rfl | ⟨p, hp, hf⟩
    · exact .inl (.inl rfl)
    · obtain ⟨j, hj, rfl⟩ := List.getElem_of_mem hp
      simp only [List.length_set] at hj
      rw [List.getElem_set] at hf
      by_cases e : i = j
      · rw [if_pos e] at hf
        exact (hfr b hf).imp (fun hf => .inr ⟨_, hin, hf⟩) id
      · rw [if_neg e] at hf
        exact .inl (.inr ⟨_, List.getElem_mem hj, hf⟩)
/-- a field is stored -/
theorem ObjAt.store (h : ObjAt B w0 m T cs ps w) (j : Nat) (v : Value) : ObjAt B w0 m T (cs.setIfInBounds j v) ps (w.setCell ⟨m, j, none⟩ v) ∧ Turn (Foot m ps) (Foot m ps) w (w.setCell ⟨m, j, none⟩ v) := by
  have t := setCell_turn (F := Foot m ps) (w := w) (a := ⟨m, j, none⟩) (.inl rfl) v
  exact ⟨⟨setCell_block h.blk j v, fun p hp => (h.ok p hp).kept (fun i hi => setCell_far (fun e => h.far p hp (e ▸ hi))) t.size, h.ne, h.far, h.hm, h.below.trans (t.below h.size (fun i hi => (h.bounds i hi).1)), Nat.le_trans h.size t.size⟩, t⟩
theorem ObjAt.cell (h : ObjAt B w0 m T cs ps w) (j : Nat) : w.cell? ⟨m, j, none⟩ = cs[j]? := cellm h.blk j
theorem ObjAt.frozen (h : ObjAt B w0 m T cs ps w) (j : Nat) : w.frozen? ⟨m, j, none⟩ = false := frozenm h.blk j
theorem ObjAt.lt (h : ObjAt B w0 m T cs ps w) : m < w.heap.size := block_lt h.blk
end

/-! rows and maps as parts -/
def rowP (B : Nat) (e : TypeId) (size : Nat) (v : Value) (n : Nat) (xs : List Value) : Part := ⟨fun i => v.ownBlock = some i, fun w => w.ownsRow B e size v n xs⟩
theorem rowP_stab {B : Nat} {e : TypeId} {size : Nat} {v : Value} {n : Nat} {xs : List Value} : ∀ w1 w2 : World, (∀ i, (rowP B e size v n xs).F i → w2.heap[i]? = w1.heap[i]?) → (rowP B e size v n xs).P w1 → (rowP B e size v n xs).P w2 := fun w1 w2 hk h => ownsRow_block h hk
theorem rowP_ok {B : Nat} {e : TypeId} {size : Nat} {v : Value} {n : Nat} {xs : List Value} {w : World} (h : w.ownsRow B e size v n xs) : (rowP B e size v n xs).Ok B w := ⟨h, fun i hi => h.lt i hi, rowP_stab⟩
def mapP (P : Program) (tk : TypeId) (b : Nat) (f : Int → Option Value) (c : Nat) : Part := ⟨(· = b), fun w => VMap P tk w b f c⟩
theorem mapP_stab {P : Program} {tk : TypeId} {b : Nat} {f : Int → Option Value} {c : Nat} : ∀ w1 w2 : World, (∀ i, (mapP P tk b f c).F i → w2.heap[i]? = w1.heap[i]?) → (mapP P tk b f c).P w1 → (mapP P tk b f c).P w2 := fun w1 w2 hk h => VMap.block h (hk b rfl)
theorem mapP_ok {P : Program} {tk : TypeId} {B b : Nat} {f : Int → Option Value} {c : Nat} {w : World} (h : VMap P tk w b f c) (hb : B ≤ b) : (mapP P tk b f c).Ok B w := ⟨h, fun i hi => by cases hi; exact ⟨hb, h.lt⟩, mapP_stab⟩
section
variable {B : Nat} {w0 : World} {m : Nat} {T : TypeId} {cs : Array Value} {ps : List Part} {w w' : World}
theorem ObjAt.row (h : ObjAt B w0 m T cs ps w) (i : Nat) {e : TypeId} {size : Nat} {v : Value} {n : Nat} {xs : List Value} (hi : ps[i]? = some (rowP B e size v n xs)) : w.ownsRow B e size v n xs := by
  have := (h.ok _ (List.mem_of_getElem? hi)).hold
  exact this
theorem ObjAt.map (h : ObjAt B w0 m T cs ps w) (i : Nat) {P : Program} {tk : TypeId} {b : Nat} {f : Int → Option Value} {c : Nat} (hi : ps[i]? = some (mapP P tk b f c)) : VMap P tk w b f c := by
  have := (h.ok _ (List.mem_of_getElem? hi)).hold
  exact this
/-- a row has grown, and is stored in its field -/
theorem ObjAt.set_row (h : ObjAt B w0 m T cs ps w) (i j : Nat) {e : TypeId} {size : Nat} {v : Value} {n : Nat} {xs : List Value} (hi : ps[i]? = some (rowP B e size v n xs)) {v' : Value} {n' : Nat} {xs' : List Value} (hg : w.grownBy w' v.ownBlock) (ho : w'.ownsRow B e size v' n' xs') (hv : ∀ b, v'.ownBlock = some b → v.ownBlock = some b ∨ w.heap.size ≤ b) :
    ObjAt B w0 m T (cs.setIfInBounds j v') (ps.set i (rowP B e size v' n' xs')) (w'.setCell ⟨m, j, none⟩ v') ∧ Turn (Foot m ps) (Foot m (ps.set i (rowP B e size v' n' xs'))) w (w'.setCell ⟨m, j, none⟩ v') := by
  obtain ⟨hlt, hge⟩ := List.getElem?_eq_some_iff.1 hi
  have t : Turn ps[i].F (rowP B e size v' n' xs').F w w' := by
    rw [hge]
    exact ⟨hg.os, hg.tape, hg.output, hg.size, fun b hb hn => hg.block b hb (fun e => hn e.symm), hv⟩
  obtain ⟨h1, t1⟩ := h.turn i hlt (rowP B e size v' n' xs') ho rowP_stab (fun b hb => (ho.lt b hb).2) t
  obtain ⟨h2, t2⟩ := h1.store j v'
  exact ⟨h2, t1.trans t2⟩
/-- an element of a row is stored in its place -/
theorem ObjAt.put_row (h : ObjAt B w0 m T cs ps w) (i q : Nat) {e : TypeId} {g cap n : Nat} {xs : List Value} (hi : ps[i]? = some (rowP B e 1 (.slice (some ⟨g, 0, none⟩) n cap) n xs)) (x : Value) (hq : q < n) :
    ObjAt B w0 m T cs (ps.set i (rowP B e 1 (.slice (some ⟨g, 0, none⟩) n cap) n (xs.set q x))) (w.setCell ⟨g, q, none⟩ x) ∧ Turn (Foot m ps) (Foot m (ps.set i (rowP B e 1 (.slice (some ⟨g, 0, none⟩) n cap) n (xs.set q x)))) w (w.setCell ⟨g, q, none⟩ x) := by
  obtain ⟨hlt, hge⟩ := List.getElem?_eq_some_iff.1 hi
  have ho := ownsRow_set (h.row i hi) q x hq
  refine h.turn i hlt _ ho rowP_stab (fun b hb => (ho.lt b hb).2) ?_
  rw [hge]
  exact setCell_turn (F := (rowP B e 1 (.slice (some ⟨g, 0, none⟩) n cap) n xs).F) (a := ⟨g, q, none⟩) rfl x
/-- a map has a key more -/
theorem ObjAt.put_map (h : ObjAt B w0 m T cs ps w) (i : Nat) {P : Program} {tk : TypeId} {b : Nat} {f f' : Int → Option Value} {c c' : Nat} (hi : ps[i]? = some (mapP P tk b f c)) (hM : VMap P tk w' b f' c') (hg : w.grownBy w' (some b)) :
    ObjAt B w0 m T cs (ps.set i (mapP P tk b f' c')) w' ∧ Turn (Foot m ps) (Foot m (ps.set i (mapP P tk b f' c'))) w w' := by
  obtain ⟨hlt, hge⟩ := List.getElem?_eq_some_iff.1 hi
  refine h.turn i hlt _ hM mapP_stab (fun q hq => by cases hq; exact hM.lt) ?_
  rw [hge]
  exact ⟨hg.os, hg.tape, hg.output, hg.size, fun q hq hn => hg.block q hq (fun e => hn (by cases e; rfl)), fun q hq => .inl hq⟩
end
end Go.Proofs.Ytpccgdkidnkppaa

set_option linter.unusedVariables false
set_option linter.unusedSimpArgs false
namespace Go.Proofs.Ytpccgdkidnkppaa
open Go Go.RowKit

/-- the last one is taken off a row -/
theorem ObjAt.pop_row {B : Nat} {w0 : World} {m : Nat} {T : TypeId} {cs : Array Value} {ps : List Part} {w : World} (h : ObjAt B w0 m T cs ps w) (i j : Nat) {e : TypeId} {v : Value} {u : List Int} {k : Int} (hi : ps[i]? = some (rowP B e 1 v (u ++ [k]).length (ints (u ++ [k])))) :
    ∃ g co, v = .slice (some ⟨g, 0, none⟩) (u.length + 1) co ∧ u.length + 1 ≤ co ∧ co ≤ maxLen ∧ g < w.heap.size ∧ B ≤ g ∧
      ObjAt B w0 m T (cs.setIfInBounds j (.slice (some ⟨g, 0, none⟩) u.length co)) (ps.set i (rowP B e 1 (.slice (some ⟨g, 0, none⟩) u.length co) u.length (ints u))) (w.setCell ⟨m, j, none⟩ (.slice (some ⟨g, 0, none⟩) u.length co)) ∧
        Turn (Foot m ps) (Foot m (ps.set i (rowP B e 1 (.slice (some ⟨g, 0, none⟩) u.length co) u.length (ints u)))) w (w.setCell ⟨m, j, none⟩ (.slice (some ⟨g, 0, none⟩) u.length co)) := by
  have hoo := h.row i hi
  have e1 : (u ++ [k]).length = u.length + 1 := by simp
  rw [ints_append, e1] at hoo
  obtain ⟨g, co, hvo, hBg, hgl⟩ := hoo.form (by omega)
  subst hvo
  have hm : u.length + 1 ≤ co ∧ co ≤ maxLen := by
    rcases hoo.2 with ⟨e, _⟩ | ⟨_, _, _, e, _, _, hc, hm, _⟩
    · cases e
    · cases e; exact ⟨hc, hm⟩
  have hpop := ownsRow_pop (by simp [ints]) hoo
  rw [ints_append, e1] at hi
  obtain ⟨h1, h2⟩ := h.set_row i j hi (World.grownBy.refl _ _) hpop (fun b hb => .inl hb)
  exact ⟨g, co, rfl, hm.1, hm.2, hgl, hBg, h1, h2⟩

/-- between two fetches of a task: an object that is worked on, and a row of what was got -/
structure LpO (B : Nat) (w0 : World) (m : Nat) (T : TypeId) (cs : Array Value) (ps : List Part) (w : World) (F : Nat → Prop) (got : List Int) (vg : Value) (wr : World) : Prop where
  ob : ObjAt B w0 m T cs ps wr
  own : wr.ownsRow w.heap.size 3 1 vg got.length (ints got)
  far : ∀ i, vg.ownBlock = some i → ¬ Foot m ps i
  vals : ∀ x ∈ got, 0 ≤ x ∧ x ≤ 96
  turn : Turn F (Foot m ps) w wr
  low : B ≤ w.heap.size
section
variable {B : Nat} {w0 : World} {m : Nat} {T : TypeId} {cs cs2 : Array Value} {ps ps2 : List Part} {w wr w2 : World} {F : Nat → Prop} {got : List Int} {vg v' : Value}
theorem LpO.up (h : LpO B w0 m T cs ps w F got vg wr) (hb : Below wr.heap.size wr w2) : LpO B w0 m T cs ps w F got vg w2 :=
  ⟨h.ob.up hb, ownsRow_block h.own (fun i hi => hb.block i (h.own.lt i hi).2), h.far, h.vals, h.turn.trans (below_turn hb), h.low⟩
theorem LpO.key (h : LpO B w0 m T cs ps w F got vg wr) (hs : ObjAt B w0 m T cs2 ps2 w2) (t : Turn (Foot m ps) (Foot m ps2) wr w2) : LpO B w0 m T cs2 ps2 w F got vg w2 :=
  ⟨hs, ownsRow_block h.own (fun i hi => t.block i (h.own.lt i hi).2 (h.far i hi)), fun i hi hf => (t.fresh i hf).elim (h.far i hi) (fun e => by have := (h.own.lt i hi).2; omega), h.vals, h.turn.trans t, h.low⟩
theorem LpO.app (h : LpO B w0 m T cs ps w F got vg wr) {o : Obj} {x : Int} (hg : (wr.alloc o).grownBy w2 vg.ownBlock) (ho : w2.ownsRow w.heap.size 3 1 v' (got.length + 1) (ints got ++ [.int .i64 x])) (hx : 0 ≤ x ∧ x ≤ 96)
    (hat : ∀ i, v'.ownBlock = some i → vg.ownBlock = some i ∨ wr.heap.size ≤ i) : LpO B w0 m T cs ps w F (got ++ [x]) v' w2 := by
  have ha := h.ob.alloc o
  have t : Turn (fun i => vg.ownBlock = some i) (fun i => vg.ownBlock = some i) (wr.alloc o) w2 := grown_turn hg (fun k hk => hk) (fun i hi => .inl hi)
  exact ⟨ha.aside t (fun i hi => ⟨Nat.le_trans h.low (h.own.lt i hi).1, h.far i hi⟩), by simpa [ints_append, ints] using ho, fun i hi hf => (hat i hi).elim (fun e => h.far i e hf) (fun e => by have := (h.ob.bounds i hf).2; omega),
    fun y hy => (List.mem_append.1 hy).elim (h.vals y) (fun e => by rw [List.mem_singleton.1 e]; exact hx), (h.turn.alloc o).grown_new hg (fun i hi => (h.own.lt i hi).1), h.low⟩
theorem LpO.start (h : ObjAt B w0 m T cs ps wr) (t : Turn F (Foot m ps) w wr) (hl : B ≤ w.heap.size) : LpO B w0 m T cs ps w F [] (.slice (some ⟨wr.heap.size, 0, none⟩) 0 0) (wr.alloc (.cells #[] 3 (0, 0))) :=
  ⟨h.alloc _, by simpa [ints] using World.ownsRow_made (base := w.heap.size) wr #[] 0 t.size (by simp [maxLen]) rfl, fun i hi hf => (by cases hi; exact Nat.lt_irrefl _ (h.bounds _ hf).2), fun x hx => (by cases hx), t.alloc _, hl⟩
end

set_option maxHeartbeats 1000000 in
theorem l2Has_calls (A : Option Addr) (c : Nat) (xs : List Int) (x : Int) (B : Nat) (w0 w : World) (hb : Below B w0 w) (hB : B ≤ w.heap.size) (hl : xs.length ≤ maxLen) (hx : IntsAt B w0 A xs) :
    Calls Try.prog 56 #[.slice A xs.length c, .int .i64 x] w fun e w' => e = .returned (.bool (xs.contains x)) ∧ w = w' := by
  unfold maxLen at hl
  replace hx := Lib.hid hx
  replace hb := Lib.hid hb
  go_enter Try.func56, Try.ntmps56
  go_wp2_with fail
  go_loopw [5] (fun i wr => ∃ (j : Nat), j ≤ xs.length ∧ i = .int .i64 j ∧ wr = w ∧ Hid (x ∉ xs.take j)) (fun i _ => xs.length - (intOf i).toNat)
  case atStart => exact ⟨0, Nat.zero_le _, rfl, rfl, Lib.hid (by simp)⟩
  case round =>
    obtain ⟨j, hj, rfl, rfl, hno⟩ := hrel
    by_cases hlt : j < xs.length
    · obtain ⟨b, o, rfl, hbl, y⟩ := hx.out.at hb.out hB j hlt
      by_cases e : xs[j] = x
      · have e' : (xs[j] == x) = true := by simp [e]
        have hr : xs.contains x = true := by rw [← e]; simp
        replace e := Lib.hid e
        replace hr := Lib.hid hr
        go_wp2_with fail
        go_ret
        exact ⟨by rw [hr.out]; rfl, rfl⟩
      · have e' : (xs[j] == x) = false := by simp [e]
        have hno2 : x ∉ xs.take (j + 1) := by
          rw [List.take_succ_eq_append_getElem hlt, List.mem_append, List.mem_singleton]
          exact fun h => h.elim hno.out (fun h => e h.symm)
        replace e := Lib.hid e
        replace hno2 := Lib.hid hno2
        go_wp2_with fail
        go_roundw
        case rel => exact ⟨j + 1, by omega, by go_num, by first | rfl | trivial, hno2⟩
        case measure => simp [intOf]; omega
    · have hr : xs.contains x = false := by
        have := hno.out
        rw [List.take_of_length_le (by omega)] at this
        simpa using this
      replace hr := Lib.hid hr
      go_wp2_with fail
      go_ret
      exact ⟨by rw [hr.out]; rfl, rfl⟩
end Go.Proofs.Ytpccgdkidnkppaa
