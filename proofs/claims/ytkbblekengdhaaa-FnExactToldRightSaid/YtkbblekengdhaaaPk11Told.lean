import Derived.Deep.OwnRows
import Derived.Test.YtkbblekengdhaaaPk3Told
import Derived.Test.YtkbblekengdhaaaPk6Told
import Derived.Test.YtkbblekengdhaaaPk10Told
set_option linter.unusedVariables false
set_option linter.unusedSimpArgs false
namespace Go.Proofs.Ytkbblekengdhaaa
open Go Go.RowKit

/-! the reference's set: a list that grows while it is gone through -/
structure BInv (mk : Int → Bool) (may : Int → List Int) (n : Nat) (keys : List Int) (Y : Int → Bool) (row : List Int) (i : Nat) : Prop where
  sound : ∀ k, Y k = true → Reach mk may keys k
  src : ∀ x ∈ row, x ∈ keys ∨ ∃ k, Y k = true ∧ x ∈ may k
  done : ∀ j (h : j < row.length), j < i → mk row[j] = true → Y row[j] = true
  next : ∀ k, Y k = true → ∀ j ∈ may k, j ∈ row
  has : ∀ k ∈ keys, k ∈ row
  len : row.length ≤ keys.length + 10 * cntN Y n
section
variable {mk : Int → Bool} {may : Int → List Int} {n : Nat} {keys : List Int} {Y : Int → Bool} {row : List Int} {i : Nat}
theorem BInv.start : BInv mk may n keys (fun _ => false) keys 0 :=
  ⟨fun k h => (by cases h), fun x h => .inl h, fun j h h2 => (by omega), fun k h => (by cases h), fun k h => h, by omega⟩
theorem BInv.skip (h : BInv mk may n keys Y row i) (hi : i < row.length) (hs : mk row[i] = false ∨ Y row[i] = true) : BInv mk may n keys Y row (i + 1) :=
  ⟨h.sound, h.src, fun j hj hji hm => by
    by_cases e : j = i
    · subst e
      rcases hs with hs | hs
      · rw [hs] at hm; cases hm
      · exact hs
    · exact h.done j hj (by omega) hm, h.next, h.has, h.len⟩
theorem BInv.push (h : BInv mk may n keys Y row i) (hi : i < row.length) {q : Nat} (hq : row[i] = (q : Int)) (hqn : q < n) (hm : mk q = true) (hy : Y q = false) (hl : (may q).length ≤ 10) : BInv mk may n keys (setX Y q) (row ++ may q) (i + 1) := by
  have hYk : ∀ k, Y k = true → setX Y q k = true := fun k hk => by simp only [setX]; split <;> simp [hk]
  have hR : Reach mk may keys (q : Int) := by
    rcases h.src _ (List.getElem_mem hi) with h1 | ⟨k, h1, h2⟩
    · rw [hq] at h1; exact .here _ h1 hm
    · rw [hq] at h2; exact .next k _ (h.sound k h1) h2 hm
  refine ⟨fun k hk => ?_, fun x hx => ?_, fun j hj hji hmj => ?_, fun k hk j hj => ?_, fun k hk => List.mem_append_left _ (h.has k hk), ?_⟩
  · by_cases e : k = q
    · rw [e]; exact hR
    · simp only [setX, if_neg e] at hk; exact h.sound k hk
  · rcases List.mem_append.1 hx with hx | hx
    · rcases h.src x hx with h1 | ⟨k, h1, h2⟩
      · exact .inl h1
      · exact .inr ⟨k, hYk k h1, h2⟩
    · exact .inr ⟨q, by simp [setX], hx⟩
  · have hjl : j < row.length := by omega
    rw [List.getElem_append_left hjl] at hmj ⊢
    by_cases e : j = i
    · subst e; rw [hq]; simp [setX]
    · exact hYk _ (h.done j hjl (by omega) hmj)
  · by_cases e : k = q
    · rw [e] at hj; exact List.mem_append_right _ hj
    · simp only [setX, if_neg e] at hk; exact List.mem_append_left _ (h.next k hk j hj)
  · rw [List.length_append, cntN_set hqn hy]
    have := h.len
    omega
theorem BInv.reach (h : BInv mk may n keys Y row i) (hi : row.length ≤ i) (k : Int) : Y k = true ↔ Reach mk may keys k := by
  have hall : ∀ x ∈ row, mk x = true → Y x = true := fun x hx hm => by
    obtain ⟨j, hj, rfl⟩ := List.getElem_of_mem hx
    exact h.done j hj (by omega) hm
  refine ⟨h.sound k, fun hk => ?_⟩
  induction hk with
  | here k h1 h2 => exact hall k (h.has k h1) h2
  | next k j _ h1 h2 ih => exact hall j (h.next k ih j h1) h2
theorem BInv.range (h : BInv mk may n keys Y row i) (hk : ∀ k ∈ keys, 0 ≤ k ∧ k < n) (hm : ∀ k, ∀ j ∈ may k, 0 ≤ j ∧ j < n) : ∀ x ∈ row, 0 ≤ x ∧ x < n := fun x hx => by
  rcases h.src x hx with h1 | ⟨k, _, h2⟩
  · exact hk x h1
  · exact hm k x h2
end

/-! the reference's order: the least one that is free, while there is one -/
section
variable {X : Int → Bool} {may : Int → List Int} {n : Nat}
structure STopo (X : Int → Bool) (may : Int → List Int) (n : Nat) (R : List Int) (out : List Int) : Prop where
  ok : TOk X may n out
  rest : out.length ≤ cntN X n ∧ topoP X may n (cntN X n - out.length) out = (R, true)
theorem STopo.start (h : (topoP X may n (cntN X n) []).2 = true) : STopo X may n (topoP X may n (cntN X n) []).1 [] := ⟨TOk.nil, by simp, by
  rw [show cntN X n - ([] : List Int).length = cntN X n by simp]
  exact Prod.ext rfl h⟩
theorem STopo.some {R out : List Int} {q : Nat} (h : STopo X may n R out) (hq : nextK X may n out = some q) : STopo X may n R (out ++ [(q : Int)]) := by
  obtain ⟨hqn, hf⟩ := nextK_some hq
  have hp := h.ok.push hqn hf
  have hl := (sub_cnt hp.nodup hp.sub).1
  simp only [List.length_append, List.length_singleton] at hl
  refine ⟨hp, by simpa using hl, ?_⟩
  have hr := h.rest.2
  obtain ⟨m, hm⟩ : ∃ m, cntN X n - out.length = m + 1 := ⟨cntN X n - out.length - 1, by omega⟩
  rw [hm, topoP, hq] at hr
  rw [List.length_append, List.length_singleton, show cntN X n - (out.length + 1) = m by omega]
  exact hr
theorem STopo.none {R out : List Int} (h : STopo X may n R out) (hq : nextK X may n out = none) : out = R := by
  have hr := h.rest.2
  cases hm : cntN X n - out.length with
  | zero => rw [hm, topoP] at hr; exact (Prod.mk.inj hr).1
  | succ m => rw [hm, topoP, hq] at hr; cases hr
theorem STopo.len {R out : List Int} (h : STopo X may n R out) : out.length ≤ n := Nat.le_trans h.rest.1 (cntN_le _ _)
end
/-- of a safe sheet, each set that holds what its keys may fetch has an order -/
theorem safe_topo {made : List Bool} {tasks : List Task} (h : safeP made tasks = true) {X : Int → Bool} {keys : List Int} (hX : ∀ k, X k = true ↔ Reach (mkK made) (mayS made tasks) keys k) :
    (topoP X (mayS made tasks) made.length (cntN X made.length) []).2 = true ∧ TOk X (mayS made tasks) made.length (topoP X (mayS made tasks) made.length (cntN X made.length) []).1 ∧ (topoP X (mayS made tasks) made.length (cntN X made.length) []).1.length = cntN X made.length := by
  have hok : sheetOk made tasks = true := by unfold safeP at h; rw [Bool.and_eq_true] at h; exact h.1
  have hcl : ∀ k : Nat, k < made.length → X k = true → ∀ j ∈ mayS made tasks k, X j = true ∧ 0 ≤ j ∧ j < made.length := fun k _ hk j hj => by
    have hm := mayS_made j hj
    exact ⟨(hX j).2 (.next k j ((hX k).1 hk) hj hm.1), hm.2⟩
  rcases topoP_spec hcl (cntN X made.length) [] TOk.nil (by simp) with h1 | ⟨_, k, hk, _, hw⟩
  · exact h1
  · exact (hw ((safeP_iff hok).1 h k hk)).elim

/-! what is fetched may be fetched -/
theorem fet_in (xs : List Int) {P : Int → Prop} : ∀ (m : Itr) (l : List (Int × Int)), m.In P → (∀ f ∈ l, P f.1) → ∀ f ∈ (m.run (fetF xs) l).2, P f.1 := by
  intro m
  induction m with
  | done v => intro l _ h; exact h
  | ask k c ih =>
    intro l h hl
    rw [Itr.run_yes (by simp [fetF])]
    refine ih _ _ (h.2 _) (fun f hf => ?_)
    rcases List.mem_append.1 hf with hf | hf
    · exact hl f hf
    · rw [List.mem_singleton.1 hf]; exact h.1
theorem uses_may (t : Tk) (xs : List Int) : ∀ j ∈ usesP t xs, mayTask t.enc j = true := by
  intro j hj
  rcases (usesL_mem _ _ _).1 hj with h1 | ⟨f, hf, rfl⟩
  · cases h1
  · rw [fetched_itr] at hf
    exact fet_in xs t.itr [] t.itr_In (fun f hf => by cases hf) f hf
/-- a made key that is fetched may be fetched -/
theorem uses_mayS {S : Sh} (hS : S.Ok) {q : Nat} (hq : q < S.made.length) (xs : List Int) {j : Int} (hj : j ∈ usesP (S.tk q) xs) (hm : mkK S.made j = true) : j ∈ mayS S.made (S.tks.map Tk.enc) q := by
  have hqt : q < S.tks.length := by have := hS.len; omega
  have hr := mkK_range (show mkK S.made j ≠ false by rw [hm]; simp)
  have h2 := uses_may _ _ j hj
  unfold mayS mayMade
  rw [List.mem_filter]
  refine ⟨mem_mayList.2 ?_, hm⟩
  rw [taskAt_get (by simpa using hqt), List.getElem_map]
  rw [tk_at hqt] at h2
  have := hS.ten
  exact ⟨hS.okT hqt, by omega, by omega, h2⟩
/-- a topological order fits all inputs -/
theorem topo_fits {S : Sh} (hS : S.Ok) (vals : List Int) {X : Int → Bool} {keys out : List Int} (hX : ∀ k, X k = true ↔ Reach (mkK S.made) (mayS S.made (S.tks.map Tk.enc)) keys k)
    (h : TOk X (mayS S.made (S.tks.map Tk.enc)) S.made.length out) : fitsP S vals out = true := by
  rw [fitsP_iff]
  intro i hi
  have hs := h.sub _ (List.getElem_mem hi)
  have hmk := ((hX _).1 hs.2.2).isMade
  obtain ⟨q, hq⟩ := Int.eq_ofNat_of_zero_le hs.1
  unfold fitAt
  rw [hmk, Bool.true_and, Bool.and_eq_true, List.all_eq_true]
  refine ⟨?_, fun j hj => ?_⟩
  · rw [Bool.not_eq_true', List.contains_eq_mem, decide_eq_false_iff_not]
    intro hm
    obtain ⟨a, ha, e⟩ := List.getElem_of_mem hm
    rw [List.length_take] at ha
    rw [List.getElem_take] at e
    have := (List.getElem?_inj (i := a) (j := i) (show a < out.length by omega) h.nodup).1 (by rw [List.getElem?_eq_getElem (show a < out.length by omega), List.getElem?_eq_getElem hi, e])
    omega
  · cases hm : mkK S.made j with
    | false => rfl
    | true =>
      have hj2 : j ∈ mayS S.made (S.tks.map Tk.enc) out[i] := by
        rw [hq] at hj ⊢
        exact uses_mayS hS (by omega) vals hj hm
      have := h.behind i hi j hj2
      simpa using this
end Go.Proofs.Ytkbblekengdhaaa

set_option linter.unusedVariables false
set_option linter.unusedSimpArgs false
namespace Go.Proofs.Ytkbblekengdhaaa
open Go Go.RowKit

/-! maps from int to values of any kind: what a key has, and how many keys there are -/
def anyElem (v : Value) : Option (DataW Value × List MemPlace) := some (.held v, [])
structure VMapTy (P : Program) (t tk te : TypeId) (z : Value) : Prop where
  ht : P.underlying t = some (.map tk te)
  hk : P.underlying tk = some (.int .i64)
  hz : ∀ w, (zeroValue te).run P w = .ok z w
def VMap (P : Program) (tk : TypeId) (w : World) (b : Nat) (f : Int → Option Value) (c : Nat) : Prop :=
  ∃ D, w.ownsMap (H := Value) P tk anyElem b c D ∧ Maps.size D = c ∧ ∀ k : Int, (Lit.int .i64 k).wf = true → Maps.has D (.int .i64 k) = (f k).isSome ∧ ∀ z, D.atKey (.int .i64 k) z = match f k with | some v => .held v | none => z
def updV (f : Int → Option Value) (k : Int) (v : Value) : Int → Option Value := fun j => if j = k then some v else f j
/-- how many there are behind a store -/
def putC (f : Int → Option Value) (k : Int) (c : Nat) : Nat := if (f k).isSome then c else c + 1
theorem VMap.new (P : Program) (tk : TypeId) (w : World) : VMap P tk (w.alloc (.map #[] 0)) w.heap.size (fun _ => none) 0 :=
  ⟨.map [], World.ownsMap_made _ _ _ _, rfl, fun k _ => ⟨rfl, fun z => rfl⟩⟩
theorem VMap.block {P : Program} {tk : TypeId} {w w' : World} {b c : Nat} {f : Int → Option Value} (h : VMap P tk w b f c) (hb : w'.heap[b]? = w.heap[b]?) : VMap P tk w' b f c := by
  obtain ⟨D, ⟨es, clock, h1, h2⟩, h3⟩ := h
  exact ⟨D, ⟨es, clock, hb.trans h1, h2⟩, h3⟩
theorem VMap.isMap {P : Program} {tk : TypeId} {w : World} {b c : Nat} {f : Int → Option Value} (h : VMap P tk w b f c) : ∃ es k, w.heap[b]? = some (.map es k) := by
  obtain ⟨D, ⟨es, clock, h1, h2⟩, h3⟩ := h
  exact ⟨_, _, h1⟩
theorem VMap.lt {P : Program} {tk : TypeId} {w : World} {b c : Nat} {f : Int → Option Value} (h : VMap P tk w b f c) : b < w.heap.size := by
  obtain ⟨es, k, h⟩ := h.isMap
  exact block_lt h
theorem VMap.congr {P : Program} {tk : TypeId} {w : World} {b c : Nat} {f g : Int → Option Value} (h : VMap P tk w b f c) (e : ∀ k, f k = g k) : VMap P tk w b g c := by
  rw [← funext e]; exact h
/-- a row that is owned lies in no map's block -/
theorem VMap.ne {P : Program} {tk : TypeId} {w : World} {b c : Nat} {f : Int → Option Value} (h : VMap P tk w b f c) {base : Nat} {e : TypeId} {size : Nat} {v : Value} {n : Nat} {xs : List Value} (ho : w.ownsRow base e size v n xs) : v.ownBlock ≠ some b := by
  obtain ⟨es, k, hm⟩ := h.isMap
  exact ownsRow_ne ho hm (fun c e => by cases e)
theorem VMap.ne_cells {P : Program} {tk : TypeId} {w : World} {b c : Nat} {f : Int → Option Value} (h : VMap P tk w b f c) {m : Nat} {cs : Array Value} {t : TypeId} {fr : Nat × Nat} (hm : w.heap[m]? = some (.cells cs t fr)) : m ≠ b := by
  obtain ⟨es, k, hb⟩ := h.isMap
  intro e; rw [e, hb] at hm; cases hm
/-- a cell that is read lies in no map's block -/
theorem VMap.ne_cell {P : Program} {tk : TypeId} {w : World} {b c : Nat} {f : Int → Option Value} (h : VMap P tk w b f c) {m o : Nat} {v : Value} (hm : w.cell? ⟨m, o, none⟩ = some v) : m ≠ b := by
  obtain ⟨es, k, hb⟩ := h.isMap
  intro e; rw [e] at hm; simp [World.cell?, hb] at hm

section
variable {P : Program} {w : World} {ops : Array Oper} {rest : List Oper} {o : Oper} {a : Act} {Q : Exit → Act → World → Prop}
theorem held_inv {v u : Value} {ps : List MemPlace} (h : anyElem v = some (DataW.held u, ps)) : v = u := by
  simp [anyElem] at h; exact h.1
theorem wpList_vget (hgd : o.guard = none) (m x : Operand) (t : TypeId) (ho : o.op = Op.lookup t m x false)
    {tk te : TypeId} {z : Value} (hT : VMapTy P t tk te z) (b c : Nat) (f : Int → Option Value) (hm : a.eval m = .map (some b)) (hM : VMap P tk w b f c) (k : Int) (hx : a.eval x = .int .i64 k) (hw : (Lit.int .i64 k).wf = true)
    (h : wpList P ops Q rest (a.put o.dst ((f k).getD z)) w) : wpList P ops Q (o :: rest) a w := by
  obtain ⟨D, hD, _, hf⟩ := hM
  refine wpList_plain hgd fun K' hK' => ?_
  obtain ⟨v, ps, hrun, hv⟩ := hD.lookup (Maps.int_keyed hT.hk) hT.ht (hT.hz w) (zd := .held z) (zp := []) rfl (Maps.keyOf_int_mk hT.hk hw)
  rw [(hf k hw).2] at hv
  have e : v = (f k).getD z := by
    cases hfk : f k with
    | none => rw [hfk] at hv; exact held_inv hv
    | some u => rw [hfk] at hv; exact held_inv hv
  subst e
  unfold Oper.wp
  simp [execOp, ho, hm, hx, hrun, Result.andThen]
  exact hK' _ _ h
theorem wpList_vget_ok (hgd : o.guard = none) (m x : Operand) (t : TypeId) (ho : o.op = Op.lookup t m x true)
    {tk te : TypeId} {z : Value} (hT : VMapTy P t tk te z) (b c : Nat) (f : Int → Option Value) (hm : a.eval m = .map (some b)) (hM : VMap P tk w b f c) (k : Int) (hx : a.eval x = .int .i64 k) (hw : (Lit.int .i64 k).wf = true)
    (h : wpList P ops Q rest (a.put o.dst (.tuple #[(f k).getD z, .bool (f k).isSome])) w) : wpList P ops Q (o :: rest) a w := by
  obtain ⟨D, hD, _, hf⟩ := hM
  refine wpList_lookup_own_ok w hgd m x t ho tk te (Maps.int_keyed hT.hk) hT.ht anyElem (hT.hz w) (.held z) [] rfl b c D hm hD _ _ hx (Maps.keyOf_int_mk hT.hk hw) ?_
  intro v ps hv
  rw [(hf k hw).2] at hv
  have e : v = (f k).getD z := by
    cases hfk : f k with
    | none => rw [hfk] at hv; exact held_inv hv
    | some u => rw [hfk] at hv; exact held_inv hv
  rw [(hf k hw).1, e]
  exact h
theorem wpList_vput (hgd : o.guard = none) (m x v : Operand) (t : TypeId) (ho : o.op = Op.mapUpdate t m x v)
    {tk te : TypeId} {z : Value} (hT : VMapTy P t tk te z) (b c : Nat) (f : Int → Option Value) (hm : a.eval m = .map (some b)) (hM : VMap P tk w b f c) (hn : c < maxLen) (k : Int) (y : Value) (hx : a.eval x = .int .i64 k) (hv : a.eval v = y) (hw : (Lit.int .i64 k).wf = true)
    (h : ∀ w', VMap P tk w' b (updV f k y) (putC f k c) → w.grownBy w' (some b) → wpList P ops Q rest (a.put o.dst undef) w') : wpList P ops Q (o :: rest) a w := by
  obtain ⟨D, hD, hs, hf⟩ := hM
  have hI := hD.isMap
  have htd := hD.tidy (Maps.int_keyed hT.hk)
  have hkey := Maps.keyOf_int_mk hT.hk hw
  refine wpList_mapUpdate_own (H := Value) w hgd m x v t ho tk te (Maps.int_keyed hT.hk) hT.ht _ b c D hm hD hn _ _ _ hx hv hkey (.held y) [] rfl ?_
  intro w' h1 h2
  have hik : WideAt.IsKeyLit (Lit.int .i64 k) := by simp [WideAt.IsKeyLit]
  have hsz : Maps.size (D.put (.int .i64 k) (.held y)) = putC f k c := by
    unfold putC
    rw [Maps.size_put htd, (hf k hw).1, hs]
  refine h w' ⟨_, ?_, hsz, fun j hj => ?_⟩ h2
  · rw [← hsz]
    obtain ⟨es, clock, hb, F, hle, hDD⟩ := h1
    refine ⟨es, clock, hb, F, ?_, hDD⟩
    rw [hDD]; simp [Maps.size, length_sorted]
  · by_cases e : j = k
    · subst e
      refine ⟨by simp [Maps.has_put_same hI hik, updV], fun z => ?_⟩
      rw [Maps.atKey_put_same hI hik]; simp [updV]
    · have hne : (Lit.int .i64 j) ≠ (Lit.int .i64 k) := by simp [e]
      rw [Maps.has_put_other hne]
      refine ⟨by simpa [updV, e] using (hf j hj).1, fun z => ?_⟩
      rw [Maps.atKey_put_other hne, (hf j hj).2]; simp [updV, e]
theorem wpList_vlen (hgd : o.guard = none) (m : Operand) (t : TypeId) (ho : o.op = Op.call { callee := Callee.builtin Builtin.len, args := #[m], argTypes := #[t] })
    {tk te : TypeId} {z : Value} (hT : VMapTy P t tk te z) (b c : Nat) (f : Int → Option Value) (hm : a.eval m = .map (some b)) (hM : VMap P tk w b f c)
    (h : wpList P ops Q rest (a.put o.dst (.int .i64 c)) w) : wpList P ops Q (o :: rest) a w := by
  obtain ⟨D, hD, hs, hf⟩ := hM
  refine wpList_len_own w hgd m t ho tk te hT.ht anyElem b c D hm hD ?_
  rw [hs]; exact h
end

/-! a block known whole -/
def RowBlk {α : Type} (f : α → Value) (T : TypeId) (w : World) (b : Nat) (xs : List α) : Prop := w.heap[b]? = some (.cells (xs.map f).toArray T (0, 0))
section
variable {α : Type} {f : α → Value} {T : TypeId} {w w' : World} {b : Nat} {xs : List α}
theorem RowBlk.lt (h : RowBlk f T w b xs) : b < w.heap.size := block_lt h
theorem RowBlk.turn (h : RowBlk f T w b xs) (hk : w'.heap[b]? = w.heap[b]?) : RowBlk f T w' b xs := hk.trans h
theorem RowBlk.cell (h : RowBlk f T w b xs) {i : Nat} (hi : i < xs.length) : w.cell? ⟨b, i, none⟩ = some (f xs[i]) := by
  rw [cellm h]; simp [hi]
theorem RowBlk.frozen (h : RowBlk f T w b xs) (i : Nat) : w.frozen? ⟨b, i, none⟩ = false := frozenm h i
theorem RowBlk.set (h : RowBlk f T w b xs) (i : Nat) (x : α) : RowBlk f T (w.setCell ⟨b, i, none⟩ (f x)) b (xs.set i x) := by
  unfold RowBlk
  rw [setCell_block h]
  congr 2
  apply Array.ext'
  simp [List.map_set]
theorem RowBlk.row (h : RowBlk f T w b xs) : RowAt f w.heap.size w (some ⟨b, 0, none⟩) xs := fun i hi => ⟨b, 0, rfl, h.lt, by rw [Nat.zero_add]; exact h.cell hi⟩
theorem RowBlk.owns (h : RowBlk f T w b xs) {base : Nat} (hb : base ≤ b) (hm : xs.length ≤ maxLen) : w.ownsRow base T 1 (.slice (some ⟨b, 0, none⟩) xs.length xs.length) xs.length (xs.map f) :=
  ⟨by simp, .inr ⟨b, xs.length, _, rfl, hb, h, Nat.le_refl _, hm, by simp, by simp [List.take_of_length_le]⟩⟩
end
/-- 'make([]T, n)' has made its block -/
theorem made_row {α : Type} {f : α → Value} {T : TypeId} {w w' : World} {base n : Nat} {v : Value} {z : α} (h : w'.ownsRow base T 1 v n (madeCells #[f z] n).toList) (hb : v = .slice (some ⟨w.heap.size, 0, none⟩) n n) : RowBlk f T w' w.heap.size (List.replicate n z) := by
  subst hb
  obtain ⟨hl, ⟨e, _⟩ | ⟨g, cap, cur, e, hg, hb, hn, hc, hs, ht⟩⟩ := h
  · cases e
  · cases e
    unfold RowBlk
    rw [hb]
    congr 2
    apply Array.ext'
    have : cur.toList.take n = cur.toList := List.take_of_length_le (by simp; omega)
    simp only [Nat.mul_one] at ht
    rw [this] at ht
    rw [ht]
    apply List.ext_getElem
    · simp [madeCells]
    · intro i h1 h2
      simp [madeCells, Nat.mod_one]
theorem made_blk {α : Type} {f : α → Value} {T : TypeId} {w : World} {n : Nat} {z : α} {b : Nat} (hb : w.heap[b]? = some (.cells (madeCells #[f z] n) T (0, 0))) : RowBlk f T w b (List.replicate n z) := by
  unfold RowBlk
  rw [hb]
  congr 2
  apply Array.ext'
  apply List.ext_getElem
  · simp [madeCells]
  · intro i h1 h2
    simp [madeCells, Nat.mod_one]
theorem make_ints (n : Nat) (hn : n ≤ 1048576) : ∀ W : World, (Instr.makeSlice 28 (.int .i64 (n : Int)) (.int .i64 (n : Int))).run Try.prog W = .ok (.slice (some ⟨W.heap.size, 0, none⟩) n n) (W.alloc (.cells (madeCells #[.int .i64 0] n) 3)) :=
  fun W => run_make_row' 28 3 (.int .i64 0) 8 Try.underlying28 (by kernel_rfl) rfl .i64 .i64 n (by omega) (by omega) W
theorem make_bools (n : Nat) (hn : n ≤ 1048576) : ∀ W : World, (Instr.makeSlice 23 (.int .i64 (n : Int)) (.int .i64 (n : Int))).run Try.prog W = .ok (.slice (some ⟨W.heap.size, 0, none⟩) n n) (W.alloc (.cells (madeCells #[.bool false] n) 4)) :=
  fun W => run_make_row' 23 4 (.bool false) 1 Try.underlying23 (by kernel_rfl) rfl .i64 .i64 n (by omega) (by omega) W

theorem ownsRow_ints_of {w : World} {base : Nat} {e : TypeId} {A : Option Addr} {c : Nat} {xs : List Int} (h : w.ownsRow base e 1 (.slice A xs.length c) xs.length (ints xs)) : IntsAt w.heap.size w A xs := by
  obtain ⟨A', c', e, _, _, hx⟩ := ownsRow_ints h
  cases e; exact hx
/-- the box that a struct was put into when the call began is no row that the call owns -/
theorem box_ne {w : World} {base : Nat} {e : TypeId} {size : Nat} {v : Value} {n : Nat} {xs : List Value} (h : w.ownsRow base e size v n xs) {m : Nat} {cs : Array Value} {t : TypeId} (hm : w.heap[m]? = some (.cells cs t (0, 0))) (hne : t ≠ e) : v.ownBlock ≠ some m :=
  ownsRow_ne h hm (fun c e' => by cases e'; exact hne rfl)
/-- a number is stored in a row that is owned -/
theorem ownsRow_set {w : World} {base : Nat} {e : TypeId} {g cap n : Nat} {xs : List Value} (h : w.ownsRow base e 1 (.slice (some ⟨g, 0, none⟩) n cap) n xs) (i : Nat) (v : Value) (hi : i < n) : (w.setCell ⟨g, i, none⟩ v).ownsRow base e 1 (.slice (some ⟨g, 0, none⟩) n cap) n (xs.set i v) := by
  obtain ⟨h1, ⟨h2, _⟩ | ⟨g', cap', cur, h2, h3, h4, h5, h6, h7, h8⟩⟩ := h
  · cases h2
  · cases h2
    refine ⟨by simpa using h1, .inr ⟨g, cap, cur.setIfInBounds i v, rfl, h3, setCell_block h4 i v, h5, h6, by simpa using h7, ?_⟩⟩
    rw [Array.toList_setIfInBounds, List.take_set, h8]
end Go.Proofs.Ytkbblekengdhaaa

set_option linter.unusedVariables false
set_option linter.unusedSimpArgs false
namespace Go.Proofs.Ytkbblekengdhaaa
open Go Go.RowKit

/-! two runs side by side -/
theorem Itr.run_rel {σ τ : Type} {f : σ → Int → (Int × Bool) × σ} {g : τ → Int → (Int × Bool) × τ} {R : σ → τ → Prop}
    (h : ∀ s c k, R s c → 0 ≤ k → k ≤ 9 → (f s k).1 = (g c k).1 ∧ ((f s k).1.2 = true → R (f s k).2 (g c k).2)) : ∀ (m : Itr) (s : σ) (c : τ), m.ok → R s c → (m.run f s).1 = (m.run g c).1 ∧ ((m.run f s).1.2 = true → R (m.run f s).2 (m.run g c).2) := by
  intro m
  induction m with
  | done v => intro s c _ hR; exact ⟨rfl, fun _ => hR⟩
  | ask k ct ih =>
    intro s c hok hR
    obtain ⟨h1, h2⟩ := h s c k hR hok.1 hok.2.1
    by_cases hf : (f s k).1.2 = true
    · have hg : (g c k).1.2 = true := by rw [← h1]; exact hf
      rw [Itr.run_yes hf, Itr.run_yes hg, ← h1]
      exact ih _ _ _ (hok.2.2 _) (h2 hf)
    · have hg : ¬ (g c k).1.2 = true := by rw [← h1]; exact hf
      rw [Itr.run_no hf, Itr.run_no hg]
      exact ⟨rfl, fun h => by cases h⟩
theorem Itr.run_keeps {σ : Type} {f : σ → Int → (Int × Bool) × σ} {J : σ → Prop} (hJ : ∀ s k, J s → 0 ≤ k → k ≤ 9 → J (f s k).2) : ∀ (m : Itr) (s : σ), m.ok → J s → J (m.run f s).2 := by
  intro m
  induction m with
  | done v => intro s _ h; exact h
  | ask k ct ih =>
    intro s hok h
    have h1 := hJ s k h hok.1 hok.2.1
    by_cases hf : (f s k).1.2 = true
    · rw [Itr.run_yes hf]; exact ih _ _ (hok.2.2 _) h1
    · rw [Itr.run_no hf]; exact h1

/-! the reference's way of building keys, each once -/
structure OSt where
  vals : List Int
  done : List Int
  under : List Int
def onceP (S : Sh) : Nat → OSt → Int → (Int × Bool) × OSt
  | n, st, k =>
    if mkK S.made k = false then ((atK st.vals k, true), st)
    else if st.done.contains k = true then ((atK st.vals k, true), st)
    else if st.under.contains k = true then ((0, false), st)
    else match n with
      | 0 => ((0, false), st)
      | n + 1 =>
        if ((S.tk k).itr.run (onceP S n) ⟨st.vals, st.done, st.under ++ [k]⟩).1.2 = true
        then ((((S.tk k).itr.run (onceP S n) ⟨st.vals, st.done, st.under ++ [k]⟩).1.1, true), ⟨((S.tk k).itr.run (onceP S n) ⟨st.vals, st.done, st.under ++ [k]⟩).2.vals.set k.toNat ((S.tk k).itr.run (onceP S n) ⟨st.vals, st.done, st.under ++ [k]⟩).1.1, ((S.tk k).itr.run (onceP S n) ⟨st.vals, st.done, st.under ++ [k]⟩).2.done ++ [k], st.under⟩)
        else ((0, false), ⟨((S.tk k).itr.run (onceP S n) ⟨st.vals, st.done, st.under ++ [k]⟩).2.vals, ((S.tk k).itr.run (onceP S n) ⟨st.vals, st.done, st.under ++ [k]⟩).2.done, st.under⟩)
theorem onceP_unmade {S : Sh} {n : Nat} {st : OSt} {k : Int} (h : mkK S.made k = false) : onceP S n st k = ((atK st.vals k, true), st) := by unfold onceP; rw [if_pos h]
theorem onceP_done {S : Sh} {n : Nat} {st : OSt} {k : Int} (h : mkK S.made k = true) (hd : st.done.contains k = true) : onceP S n st k = ((atK st.vals k, true), st) := by unfold onceP; rw [if_neg (by simp [h]), if_pos hd]
theorem onceP_under {S : Sh} {n : Nat} {st : OSt} {k : Int} (h : mkK S.made k = true) (hd : st.done.contains k = false) (hu : st.under.contains k = true) : onceP S n st k = ((0, false), st) := by unfold onceP; rw [if_neg (by simp [h]), if_neg (by simp only [hd]; decide), if_pos hu]
theorem onceP_new {S : Sh} {n : Nat} {st : OSt} {k : Int} (h : mkK S.made k = true) (hd : st.done.contains k = false) (hu : st.under.contains k = false) : onceP S (n + 1) st k =
    (let r := (S.tk k).itr.run (onceP S n) ⟨st.vals, st.done, st.under ++ [k]⟩
     if r.1.2 = true then ((r.1.1, true), ⟨r.2.vals.set k.toNat r.1.1, r.2.done ++ [k], st.under⟩) else ((0, false), ⟨r.2.vals, r.2.done, st.under⟩)) := by
  rw [onceP, if_neg (by simp [h]), if_neg (by simp only [hd]; decide), if_neg (by simp only [hu]; decide)]
theorem onceP_zero (S : Sh) (n : Nat) (st : OSt) (k : Int) : (onceP S n st k).1.2 = false → (onceP S n st k).1.1 = 0 := by
  intro h
  unfold onceP at h ⊢
  split
  · rename_i h1; rw [if_pos h1] at h; cases h
  · rename_i h1
    rw [if_neg h1] at h
    split
    · rename_i h2; rw [if_pos h2] at h; cases h
    · rename_i h2
      rw [if_neg h2] at h
      split
      · rfl
      · rename_i h3
        rw [if_neg h3] at h
        cases n with
        | zero => rfl
        | succ n =>
          dsimp only at h ⊢
          split
          · rename_i h4; rw [if_pos h4] at h; cases h
          · rfl
/-- what is kept: of what a step of the reference's way -/
structure OInv (S : Sh) (n : Nat) (st : OSt) : Prop where
  vlen : st.vals.length = S.made.length
  vals : ∀ x ∈ st.vals, 0 ≤ x ∧ x ≤ 96
  done : st.done.length ≤ S.made.length
  nodup : st.done.Nodup
  range : ∀ x ∈ st.done, 0 ≤ x ∧ x < S.made.length
  under : UOk S n st.under
  apart : ∀ x ∈ st.under, x ∉ st.done
theorem OInv.at {S : Sh} {n : Nat} {st : OSt} (h : OInv S n st) (k : Int) : 0 ≤ atK st.vals k ∧ atK st.vals k ≤ 96 := by
  unfold atK
  split
  · omega
  · by_cases h1 : k.toNat < st.vals.length
    · rw [getD_at _ h1]; exact h.vals _ (List.getElem_mem _)
    · rw [getD_out _ (by omega)]; omega
theorem onceP_inv {S : Sh} (hS : S.Ok) : ∀ (n : Nat) (st : OSt) (k : Int), OInv S n st → OInv S n (onceP S n st k).2 ∧ (onceP S n st k).2.under = st.under ∧ 0 ≤ (onceP S n st k).1.1 ∧ (onceP S n st k).1.1 ≤ 96 := by
  intro n
  induction n with
  | zero =>
    intro st k hi
    cases hm : mkK S.made k with
    | false => rw [onceP_unmade hm]; exact ⟨hi, rfl, hi.at k⟩
    | true =>
      cases hd : st.done.contains k with
      | true => rw [onceP_done hm hd]; exact ⟨hi, rfl, hi.at k⟩
      | false =>
        cases hu : st.under.contains k with
        | true => rw [onceP_under hm hd hu]; exact ⟨hi, rfl, by simp, by simp⟩
        | false =>
          have : onceP S 0 st k = ((0, false), st) := by rw [onceP, if_neg (by simp [hm]), if_neg (by simp only [hd]; decide), if_neg (by simp only [hu]; decide)]
          rw [this]; exact ⟨hi, rfl, by simp, by simp⟩
  | succ n ih =>
    intro st k hi
    cases hm : mkK S.made k with
    | false => rw [onceP_unmade hm]; exact ⟨hi, rfl, hi.at k⟩
    | true =>
      cases hd : st.done.contains k with
      | true => rw [onceP_done hm hd]; exact ⟨hi, rfl, hi.at k⟩
      | false =>
        cases hu : st.under.contains k with
        | true => rw [onceP_under hm hd hu]; exact ⟨hi, rfl, by simp, by simp⟩
        | false =>
          have hkr := mkK_range (show mkK S.made k ≠ false by rw [hm]; simp)
          have hkd : k ∉ st.done := by simpa using hd
          have hku : k ∉ st.under := by simpa using hu
          rw [onceP_new hm hd hu]
          have h1 : OInv S n ⟨st.vals, st.done, st.under ++ [k]⟩ := ⟨hi.vlen, hi.vals, hi.done, hi.nodup, hi.range, hi.under.push hku hkr, fun x hx => (List.mem_append.1 hx).elim (hi.apart x) (fun e => by rw [List.mem_singleton.1 e]; exact hkd)⟩
          have hk := Itr.run_keeps (f := onceP S n) (J := fun s => OInv S n s ∧ s.under = st.under ++ [k]) (fun s j h _ _ => ⟨(ih s j h.1).1, ((ih s j h.1).2.1).trans h.2⟩) (S.tk k).itr ⟨st.vals, st.done, st.under ++ [k]⟩ (Tk.itr_ok _ (tk_ok hS k)) ⟨h1, rfl⟩
          have hv : 0 ≤ ((S.tk k).itr.run (onceP S n) ⟨st.vals, st.done, st.under ++ [k]⟩).1.1 ∧ ((S.tk k).itr.run (onceP S n) ⟨st.vals, st.done, st.under ++ [k]⟩).1.1 ≤ 96 := by
            rw [← Tk.run_itr _ (onceP_zero S n)]
            exact Tk.run_value (J := fun s => OInv S n s) (fun s j h _ _ => (ih s j h).1) (fun s j h _ _ => (ih s j h).2.2) (S.tk k) _ (tk_ok hS k) h1
          generalize (S.tk k).itr.run (onceP S n) ⟨st.vals, st.done, st.under ++ [k]⟩ = r at *
          obtain ⟨h2, h3⟩ := hk
          have hkd2 : k ∉ r.2.done := h2.apart k (by rw [h3]; simp)
          have hap : ∀ x ∈ st.under, x ∉ r.2.done := fun x hx => h2.apart x (by rw [h3]; simp [hx])
          dsimp only
          split
          · refine ⟨⟨by simpa using h2.vlen, fun x hx => ?_, ?_, ?_, fun x hx => ?_, hi.under, fun x hx hx2 => ?_⟩, rfl, hv⟩
            · rcases List.mem_or_eq_of_mem_set hx with hx | rfl
              · exact h2.vals x hx
              · exact hv
            · refine nodup_bound ?_ (fun x hx => ?_)
              · rw [List.nodup_append]
                exact ⟨h2.nodup, by simp, fun a ha b hb => by simp only [List.mem_singleton] at hb; subst hb; intro e; exact hkd2 (e ▸ ha)⟩
              · rcases List.mem_append.1 hx with hx | hx
                · exact h2.range x hx
                · rw [List.mem_singleton.1 hx]; exact hkr
            · rw [List.nodup_append]
              exact ⟨h2.nodup, by simp, fun a ha b hb => by simp only [List.mem_singleton] at hb; subst hb; intro e; exact hkd2 (e ▸ ha)⟩
            · rcases List.mem_append.1 hx with hx | hx
              · exact h2.range x hx
              · rw [List.mem_singleton.1 hx]; exact hkr
            · rcases List.mem_append.1 hx2 with hx2 | hx2
              · exact hap x hx hx2
              · rw [List.mem_singleton.1 hx2] at hx; exact hku hx
          · exact ⟨⟨h2.vlen, h2.vals, h2.done, h2.nodup, h2.range, hi.under, hap⟩, rfl, by simp, by simp⟩

/-! the same as the program's maker -/
structure ORel (S : Sh) (st : MkSt) (o : OSt) : Prop where
  done : o.done = st.order
  under : o.under = st.open_
  vlen : o.vals.length = S.made.length
  unmade : ∀ k, mkK S.made k = false → atK o.vals k = atK S.inputs k
  has : ∀ k, mkK S.made k = true → (k ∈ st.order ↔ st.known k ≠ none)
  val : ∀ k v, st.known k = some v → mkK S.made k = true ∧ atK o.vals k = v
theorem atK_set {xs : List Int} {k j : Int} {v : Int} (hk : 0 ≤ k ∧ k < xs.length) : atK (xs.set k.toNat v) j = if j = k then v else atK xs j := by
  obtain ⟨q, rfl⟩ := Int.eq_ofNat_of_zero_le hk.1
  rw [Int.toNat_natCast]
  unfold atK
  by_cases e : j = (q : Int)
  · subst e
    rw [if_pos rfl, if_neg (by omega), Int.toNat_natCast, getD_at _ (by simp; omega)]
    simp
  · rw [if_neg e]
    split
    · rfl
    · by_cases hj : j.toNat < xs.length
      · rw [getD_at _ (by simpa using hj), getD_at _ hj, List.getElem_set_ne (by omega)]
      · rw [getD_out _ (by simp; omega), getD_out _ (by omega)]
theorem once_same {S : Sh} (hS : S.Ok) : ∀ (n : Nat) (st : MkSt) (o : OSt) (k : Int), Inv S n st → ORel S st o →
    (keyP S n st k).1 = (onceP S n o k).1 ∧ ((keyP S n st k).1.2 = true → ORel S (keyP S n st k).2 (onceP S n o k).2) := by
  intro n
  induction n with
  | zero =>
    intro st o k hi hR
    cases hm : mkK S.made k with
    | false => rw [keyP_unmade hm, onceP_unmade hm]; exact ⟨by rw [hR.unmade k hm], fun _ => hR⟩
    | true =>
      cases hkn : st.known k with
      | some v =>
        have hd : o.done.contains k = true := by rw [hR.done]; simp [(hR.has k hm).2 (by rw [hkn]; simp)]
        rw [keyP_known hm hkn, onceP_done hm hd]
        exact ⟨by rw [(hR.val k v hkn).2], fun _ => hR⟩
      | none =>
        have hd : o.done.contains k = false := by
          rw [hR.done]
          cases h : st.order.contains k with
          | false => rfl
          | true => exact ((hR.has k hm).1 (by simpa using h) hkn).elim
        by_cases ho : 0 ≤ idx (fun x => k == x) st.open_
        · have hu : o.under.contains k = true := by
            rw [hR.under]
            cases h : st.open_.contains k with
            | true => rfl
            | false => exact (idx_not_mem (by simpa using h) ho).elim
          rw [keyP_opened hm hkn ho, onceP_under hm hd hu]
          exact ⟨rfl, fun h => by cases h⟩
        · have hu : o.under.contains k = false := by
            rw [hR.under]; simpa using not_open ho
          have e1 : keyP S 0 st k = ((0, false), st) := by unfold keyP; rw [if_neg (by simp [hm]), hkn]; simp only; rw [if_neg ho]
          have e2 : onceP S 0 o k = ((0, false), o) := by rw [onceP, if_neg (by simp [hm]), if_neg (by simp only [hd]; decide), if_neg (by simp only [hu]; decide)]
          rw [e1, e2]
          exact ⟨rfl, fun h => by cases h⟩
  | succ n ih =>
    intro st o k hi hR
    cases hm : mkK S.made k with
    | false => rw [keyP_unmade hm, onceP_unmade hm]; exact ⟨by rw [hR.unmade k hm], fun _ => hR⟩
    | true =>
      cases hkn : st.known k with
      | some v =>
        have hd : o.done.contains k = true := by rw [hR.done]; simp [(hR.has k hm).2 (by rw [hkn]; simp)]
        rw [keyP_known hm hkn, onceP_done hm hd]
        exact ⟨by rw [(hR.val k v hkn).2], fun _ => hR⟩
      | none =>
        have hd : o.done.contains k = false := by
          rw [hR.done]
          cases h : st.order.contains k with
          | false => rfl
          | true => exact ((hR.has k hm).1 (by simpa using h) hkn).elim
        by_cases ho : 0 ≤ idx (fun x => k == x) st.open_
        · have hu : o.under.contains k = true := by
            rw [hR.under]
            cases h : st.open_.contains k with
            | true => rfl
            | false => exact (idx_not_mem (by simpa using h) ho).elim
          rw [keyP_opened hm hkn ho, onceP_under hm hd hu]
          exact ⟨rfl, fun h => by cases h⟩
        · have hu : o.under.contains k = false := by
            rw [hR.under]; simpa using not_open ho
          have hkr := mkK_range (show mkK S.made k ≠ false by rw [hm]; simp)
          have hi1 := inv_push hi hkr hkn (not_open ho)
          have hR1 : ORel S { st with open_ := st.open_ ++ [k] } ⟨o.vals, o.done, o.under ++ [k]⟩ := ⟨hR.done, by simp only [hR.under], hR.vlen, hR.unmade, hR.has, hR.val⟩
          have hrel := Itr.run_rel (f := keyP S n) (g := onceP S n) (R := fun s c => Inv S n s ∧ ORel S s c ∧ s.open_ = st.open_ ++ [k]) (fun s c j h _ _ => by
            obtain ⟨a, b⟩ := ih s c j h.1 h.2.1
            have hv := keyP_inv hS n s j h.1
            exact ⟨a, fun hok => ⟨hv.1, b hok, (hv.2.1 hok).trans h.2.2⟩⟩) (S.tk k).itr { st with open_ := st.open_ ++ [k] } ⟨o.vals, o.done, o.under ++ [k]⟩ (Tk.itr_ok _ (tk_ok hS k)) ⟨hi1, hR1, rfl⟩
          rw [keyP_new hm hkn ho, onceP_new hm hd hu, Tk.run_itr _ (keyP_zero S n)]
          generalize (S.tk k).itr.run (keyP S n) { st with open_ := st.open_ ++ [k] } = r at *
          generalize (S.tk k).itr.run (onceP S n) ⟨o.vals, o.done, o.under ++ [k]⟩ = q at *
          obtain ⟨h1, h2⟩ := hrel
          dsimp only
          rw [← h1]
          by_cases hok : r.1.2 = true
          · obtain ⟨g1, g2, g3⟩ := h2 hok
            rw [if_pos hok, if_pos hok]
            refine ⟨rfl, fun _ => ⟨by simp only [g2.done], by simp only [g3, List.dropLast_concat]; exact hR.under, by simpa using g2.vlen, fun j hj => ?_, fun j hj => ?_, fun j v hv => ?_⟩⟩
            · rw [atK_set (by rw [g2.vlen]; exact hkr), if_neg (fun e => by rw [e, hm] at hj; cases hj)]
              exact g2.unmade j hj
            · simp only [List.mem_append, List.mem_singleton, upd]
              by_cases e : j = k
              · simp [e]
              · rw [if_neg e]
                have := g2.has j hj
                simp only [e, or_false]; exact this
            · simp only [upd] at hv
              rw [atK_set (by rw [g2.vlen]; exact hkr)]
              by_cases e : j = k
              · rw [if_pos e] at hv ⊢; cases hv; exact ⟨by rw [e]; exact hm, rfl⟩
              · rw [if_neg e] at hv ⊢; exact g2.val j v hv
          · rw [if_neg hok, if_neg hok]
            exact ⟨rfl, fun h => by cases h⟩

/-! keys, one after another -/
def suspL (S : Sh) : List Int → MkSt → List Int × Bool
  | [], st => (st.order, true)
  | k :: ks, st => if (keyP S S.made.length st k).1.2 = true then suspL S ks (keyP S S.made.length st k).2 else ([], false)
def onceL (S : Sh) : List Int → OSt → List Int × Bool
  | [], st => (st.done, true)
  | k :: ks, st => if (onceP S S.made.length st k).1.2 = true then onceL S ks (onceP S S.made.length st k).2 else ([], false)
def suspP (S : Sh) (keys : List Int) : List Int × Bool := suspL S keys st0
def ost0 (S : Sh) : OSt := ⟨S.inputs, [], []⟩
theorem orel0 {S : Sh} (hS : S.Ok) : ORel S st0 (ost0 S) := ⟨rfl, rfl, hS.ins, fun _ _ => rfl, fun k _ => by simp [st0], fun k v h => by cases h⟩
theorem oinv0 {S : Sh} (hS : S.Ok) : OInv S S.made.length (ost0 S) := ⟨hS.ins, hS.vals, by simp [ost0], List.nodup_nil, fun x hx => (by cases hx), uok0 S, fun x hx => (by cases hx)⟩
theorem suspL_same {S : Sh} (hS : S.Ok) : ∀ (ks : List Int) (st : MkSt) (o : OSt), Inv S S.made.length st → ORel S st o → suspL S ks st = onceL S ks o := by
  intro ks
  induction ks with
  | nil => intro st o _ hR; rw [suspL, onceL, hR.done]
  | cons k ks ih =>
    intro st o hi hR
    obtain ⟨h1, h2⟩ := once_same hS S.made.length st o k hi hR
    rw [suspL, onceL, ← h1]
    by_cases hok : (keyP S S.made.length st k).1.2 = true
    · rw [if_pos hok, if_pos hok]
      exact ih _ _ (keyP_inv hS _ _ _ hi).1 (h2 hok)
    · rw [if_neg hok, if_neg hok]
theorem susp_same {S : Sh} (hS : S.Ok) (keys : List Int) : suspP S keys = onceL S keys (ost0 S) := suspL_same hS keys st0 (ost0 S) (inv0 S) (orel0 hS)
theorem suspL_length {S : Sh} (hS : S.Ok) : ∀ (ks : List Int) (st : MkSt), Inv S S.made.length st → (suspL S ks st).1.length ≤ 10 := by
  intro ks
  induction ks with
  | nil => intro st hi; rw [suspL]; have := inv_order hi; have := hS.ten; simp only []; omega
  | cons k ks ih =>
    intro st hi
    rw [suspL]
    split
    · exact ih _ (keyP_inv hS _ _ _ hi).1
    · simp
/-- whether all keys are ones of a sheet of n keys -/
def keysOk (n : Nat) (keys : List Int) : Bool := keys.all fun k => decide (0 ≤ k ∧ k < n)
theorem keysOk_iff {n : Nat} {keys : List Int} : keysOk n keys = true ↔ ∀ k ∈ keys, 0 ≤ k ∧ k < n := by
  unfold keysOk
  rw [List.all_eq_true]
  simp
end Go.Proofs.Ytkbblekengdhaaa

set_option linter.unusedVariables false
set_option linter.unusedSimpArgs false
namespace Go.Proofs.Ytkbblekengdhaaa
open Go Go.RowKit

/-! what is suspended fits -/
structure FI (S : Sh) (vals : List Int) (st : MkSt) : Prop where
  fits : ∀ i (h : i < st.order.length), fitAt S vals st.order i st.order[i] = true
  cov : ∀ k, st.known k ≠ none → k ∈ st.order
theorem fitAt_app {S : Sh} {vals order l : List Int} {i : Nat} {k : Int} (h : i ≤ order.length) : fitAt S vals (order ++ l) i k = fitAt S vals order i k := by
  unfold fitAt
  rw [List.take_append_of_le_length h]
theorem val_same {S : Sh} (hS : S.Ok) {all : List Int} (hall : buildAllP S = (all, true)) {kn : Int → Option Int} (hK : KnE S kn) {k y : Int} (hA : Ans S kn k y) : y = atK all k := by
  obtain ⟨a1, a2, a3, -⟩ := all_law hS hall
  have hsp : mkK S.made k = true ∨ mkK S.made k = false := by cases mkK S.made k <;> simp
  have hval : (specKeyP S k).1 = y := by
    rcases hA with ⟨h1, rfl⟩ | h1
    · rw [specKeyP_unmade h1]
    · obtain ⟨rank, M, hKn⟩ := hK
      have := spec_known hKn (rank k) k y [] S.made.length [] rfl h1 List.nodup_nil (fun x hx => by cases hx) (fun x hx => by cases hx) (by simp)
      unfold specKeyP
      rw [this]
  by_cases hr : 0 ≤ k ∧ k < S.made.length
  · obtain ⟨q, rfl⟩ := Int.eq_ofNat_of_zero_le hr.1
    have hq : q < all.length := by omega
    rw [atK_in hq, a3 q hq, hval]
  · have hm : mkK S.made k = false := by
      cases h : mkK S.made k with
      | false => rfl
      | true => exact (hr (mkK_range (by rw [h]; simp))).elim
    rw [specKeyP_unmade hm] at hval
    have hin := hS.ins
    rw [← hval, atK_out (by omega), atK_out (by omega)]
structure Grew (S : Sh) (vals : List Int) (st st' : MkSt) : Prop where
  fi : FI S vals st'
  kn : KnE S st'.known
  pre : ∃ l, st'.order = st.order ++ l
theorem susp_run {S : Sh} (hS : S.Ok) {all : List Int} (hall : buildAllP S = (all, true)) {n : Nat}
    (ih : ∀ (st : MkSt) (k : Int), Inv S n st → KnE S st.known → FI S all st → (keyP S n st k).1.2 = true → Grew S all st (keyP S n st k).2 ∧ (mkK S.made k = true → k ∈ (keyP S n st k).2.order)) :
    ∀ (m : Itr) (st : MkSt) (l : List (Int × Int)), Inv S n st → KnE S st.known → FI S all st → (m.run (keyP S n) st).1.2 = true →
      Grew S all st (m.run (keyP S n) st).2 ∧ ∀ g ∈ (m.run (fetF all) l).2, g ∈ l ∨ (mkK S.made g.1 = true → g.1 ∈ (m.run (keyP S n) st).2.order) := by
  intro m
  induction m with
  | done v => intro st l hi hK hF _; exact ⟨⟨hF, hK, [], by simp [Itr.run]⟩, fun g hg => .inl hg⟩
  | ask k c ihm =>
    intro st l hi hK hF hok
    by_cases h1 : (keyP S n st k).1.2 = true
    · obtain ⟨⟨g1, g2, l1, g3⟩, g4⟩ := ih st k hi hK hF h1
      have hsp := keyP_spec hS n st [] k hi hK
      have hv : (keyP S n st k).1.1 = atK all k := val_same hS hall g2 (hsp.2 h1)
      rw [Itr.run_yes h1] at hok ⊢
      rw [Itr.run_yes (by simp [fetF])]
      have hf : (fetF all l k).1.1 = (keyP S n st k).1.1 := hv.symm
      have hf2 : (fetF all l k).2 = l ++ [(k, atK all k)] := rfl
      rw [hf, hf2]
      obtain ⟨⟨j1, j2, l2, j3⟩, j4⟩ := ihm _ (keyP S n st k).2 (l ++ [(k, atK all k)]) (keyP_inv hS n st k hi).1 g2 g1 hok
      refine ⟨⟨j1, j2, l1 ++ l2, by rw [j3, g3, List.append_assoc]⟩, fun g hg => ?_⟩
      rcases j4 g hg with h | h
      · rcases List.mem_append.1 h with h | h
        · exact .inl h
        · rw [List.mem_singleton.1 h]
          exact .inr fun hm => by rw [j3]; exact List.mem_append_left _ (g4 hm)
      · exact .inr h
    · rw [Itr.run_no h1] at hok; cases hok
theorem susp_key {S : Sh} (hS : S.Ok) {all : List Int} (hall : buildAllP S = (all, true)) : ∀ (n : Nat) (st : MkSt) (k : Int), Inv S n st → KnE S st.known → FI S all st → (keyP S n st k).1.2 = true →
    Grew S all st (keyP S n st k).2 ∧ (mkK S.made k = true → k ∈ (keyP S n st k).2.order) := by
  intro n
  induction n with
  | zero =>
    intro st k hi hK hF hok
    cases hm : mkK S.made k with
    | false => rw [keyP_unmade hm]; exact ⟨⟨hF, hK, [], by simp⟩, fun h => by cases h⟩
    | true =>
      cases hkn : st.known k with
      | some v => rw [keyP_known hm hkn]; exact ⟨⟨hF, hK, [], by simp⟩, fun _ => hF.cov k (by rw [hkn]; simp)⟩
      | none =>
        exfalso
        have e : (keyP S 0 st k).1.2 = false := by
          unfold keyP; rw [if_neg (by simp [hm]), hkn]; simp only
          split <;> rfl
        rw [e] at hok; cases hok
  | succ n ih =>
    intro st k hi hK hF hok
    cases hm : mkK S.made k with
    | false => rw [keyP_unmade hm]; exact ⟨⟨hF, hK, [], by simp⟩, fun h => by cases h⟩
    | true =>
      cases hkn : st.known k with
      | some v => rw [keyP_known hm hkn]; exact ⟨⟨hF, hK, [], by simp⟩, fun _ => hF.cov k (by rw [hkn]; simp)⟩
      | none =>
        by_cases ho : 0 ≤ idx (fun x => k == x) st.open_
        · exfalso; rw [keyP_opened hm hkn ho] at hok; cases hok
        · have hkr := mkK_range (show mkK S.made k ≠ false by rw [hm]; simp)
          have hi1 := inv_push hi hkr hkn (not_open ho)
          have hsp := keyP_spec hS (n + 1) st [] k hi hK
          have hK' := (hsp.1.2.1 hok).2.1
          rw [keyP_new hm hkn ho] at hok hK' ⊢
          have hr2 := keyP_run hS hi1 (tk_ok hS k)
          rw [Tk.run_itr _ (keyP_zero S n)] at hok hK' hr2 ⊢
          have hR := susp_run hS hall ih (S.tk k).itr { st with open_ := st.open_ ++ [k] } [] hi1 hK ⟨hF.fits, hF.cov⟩
          rw [← fetched_itr] at hR
          generalize (S.tk k).itr.run (keyP S n) { st with open_ := st.open_ ++ [k] } = r at *
          dsimp only at hok hK' hr2 ⊢
          by_cases hrk : r.1.2 = true
          · rw [if_pos hrk] at hok hK' ⊢
            obtain ⟨⟨g1, g2, l1, g3⟩, g4⟩ := hR hrk
            have hop := hr2.2.1 hrk
            have hkno : k ∉ r.2.order := fun h => hr2.1.oknown k h (hr2.1.openUnknown k (by rw [hop]; simp))
            refine ⟨⟨⟨fun i h => ?_, fun j hj => ?_⟩, hK', l1 ++ [k], ?_⟩, fun _ => ?_⟩
            · simp only [List.length_append, List.length_singleton] at h
              by_cases hil : i < r.2.order.length
              · simp only [List.getElem_append_left hil]
                rw [fitAt_app (by omega)]
                exact g1.fits i hil
              · have hie : i = r.2.order.length := by omega
                subst hie
                simp only [List.getElem_concat_length]
                rw [fitAt_app (Nat.le_refl _)]
                unfold fitAt
                rw [List.take_length, hm, Bool.true_and, Bool.and_eq_true, List.all_eq_true]
                refine ⟨by simpa using hkno, fun j hj => ?_⟩
                rcases (usesL_mem _ _ _).1 hj with h1 | ⟨f, hf, rfl⟩
                · cases h1
                · rcases g4 f hf with h2 | h2
                  · cases h2
                  · cases hmj : mkK S.made f.1 with
                    | false => rfl
                    | true => simpa using h2 hmj
            · simp only [upd] at hj
              by_cases e : j = k
              · subst e; exact List.mem_append_right _ (List.mem_singleton.2 rfl)
              · rw [if_neg e] at hj; exact List.mem_append_left _ (g1.cov j hj)
            · show r.2.order ++ [k] = _
              rw [g3, List.append_assoc]
            · exact List.mem_append_right _ (List.mem_singleton.2 rfl)
          · rw [if_neg hrk] at hok; cases hok
theorem suspL_fits {S : Sh} (hS : S.Ok) {all : List Int} (hall : buildAllP S = (all, true)) : ∀ (ks : List Int) (st : MkSt), Inv S S.made.length st → KnE S st.known → FI S all st → (suspL S ks st).2 = true → fitsP S all (suspL S ks st).1 = true := by
  intro ks
  induction ks with
  | nil => intro st _ _ hF _; rw [suspL, fitsP_iff]; exact hF.fits
  | cons k ks ih =>
    intro st hi hK hF hok
    rw [suspL] at hok ⊢
    by_cases h : (keyP S S.made.length st k).1.2 = true
    · rw [if_pos h] at hok ⊢
      obtain ⟨⟨g1, g2, -⟩, -⟩ := susp_key hS hall _ st k hi hK hF h
      exact ih _ (keyP_inv hS _ st k hi).1 g2 g1 hok
    · rw [if_neg h] at hok; cases hok
theorem susp_fits {S : Sh} (hS : S.Ok) {all : List Int} (hall : buildAllP S = (all, true)) {keys : List Int} (h : (suspP S keys).2 = true) : fitsP S all (suspP S keys).1 = true :=
  suspL_fits hS hall keys st0 (inv0 S) (knE0 S) ⟨fun i h => by simp [st0] at h, fun k h => by simp [st0] at h⟩ h

/-! what is suspended is reached -/
theorem run_reach {S : Sh} {n : Nat} {R : Int → Prop} (ih : ∀ (st : MkSt) (k : Int), (mkK S.made k = true → R k) → (∀ x ∈ st.order, R x) → ∀ x ∈ (keyP S n st k).2.order, R x) {P : Int → Prop} (hP : ∀ k, P k → mkK S.made k = true → R k) :
    ∀ (m : Itr) (st : MkSt), m.In P → (∀ x ∈ st.order, R x) → ∀ x ∈ (m.run (keyP S n) st).2.order, R x := by
  intro m
  induction m with
  | done v => intro st _ h; exact h
  | ask k c ihm =>
    intro st hIn h
    have h1 := ih st k (hP k hIn.1) h
    by_cases hk : (keyP S n st k).1.2 = true
    · rw [Itr.run_yes hk]; exact ihm _ _ (hIn.2 _) h1
    · rw [Itr.run_no hk]; exact h1
theorem key_reach {S : Sh} (hS : S.Ok) (keys : List Int) : ∀ (n : Nat) (st : MkSt) (k : Int), (mkK S.made k = true → Reach (mkK S.made) (mayS S.made (S.tks.map Tk.enc)) keys k) → (∀ x ∈ st.order, Reach (mkK S.made) (mayS S.made (S.tks.map Tk.enc)) keys x) →
    ∀ x ∈ (keyP S n st k).2.order, Reach (mkK S.made) (mayS S.made (S.tks.map Tk.enc)) keys x := by
  intro n
  induction n with
  | zero =>
    intro st k hk h
    unfold keyP
    split
    · exact h
    · split
      · exact h
      · dsimp only
        split
        · exact h
        · exact h
  | succ n ih =>
    intro st k hk h
    cases hm : mkK S.made k with
    | false => rw [keyP_unmade hm]; exact h
    | true =>
      cases hkn : st.known k with
      | some v => rw [keyP_known hm hkn]; exact h
      | none =>
        by_cases ho : 0 ≤ idx (fun x => k == x) st.open_
        · rw [keyP_opened hm hkn ho]; exact h
        · have hR := hk hm
          have hkr := mkK_range (show mkK S.made k ≠ false by rw [hm]; simp)
          obtain ⟨q, rfl⟩ := Int.eq_ofNat_of_zero_le hkr.1
          have hqt : q < S.tks.length := by have := hS.len; omega
          have hrun := run_reach ih (P := fun j => mayTask (S.tk q).enc j = true) (fun j hj hmj => by
            refine .next q j hR ?_ hmj
            have hrj := mkK_range (show mkK S.made j ≠ false by rw [hmj]; simp)
            unfold mayS mayMade
            rw [List.mem_filter]
            refine ⟨mem_mayList.2 ?_, hmj⟩
            rw [taskAt_get (by simpa using hqt), List.getElem_map]
            rw [tk_at hqt] at hj
            have := hS.ten
            exact ⟨hS.okT hqt, by omega, by omega, hj⟩) (S.tk q).itr { st with open_ := st.open_ ++ [(q : Int)] } (S.tk q).itr_In h
          rw [keyP_new hm hkn ho, Tk.run_itr _ (keyP_zero S n)]
          generalize (S.tk q).itr.run (keyP S n) { st with open_ := st.open_ ++ [(q : Int)] } = r at *
          dsimp only
          split
          · intro x hx
            rcases List.mem_append.1 hx with hx | hx
            · exact hrun x hx
            · rw [List.mem_singleton.1 hx]; exact hR
          · exact hrun
theorem suspL_reach {S : Sh} (hS : S.Ok) (keys : List Int) : ∀ (ks : List Int) (st : MkSt), (∀ k ∈ ks, k ∈ keys) → (∀ x ∈ st.order, Reach (mkK S.made) (mayS S.made (S.tks.map Tk.enc)) keys x) → ∀ x ∈ (suspL S ks st).1, Reach (mkK S.made) (mayS S.made (S.tks.map Tk.enc)) keys x := by
  intro ks
  induction ks with
  | nil => intro st _ h; exact h
  | cons k ks ih =>
    intro st hks h
    rw [suspL]
    split
    · exact ih _ (fun j hj => hks j (List.mem_cons_of_mem _ hj)) (key_reach hS keys _ st k (fun hm => .here k (hks k (List.mem_cons_self ..)) hm) h)
    · intro x hx; cases hx
theorem susp_reach {S : Sh} (hS : S.Ok) (keys : List Int) : ∀ x ∈ (suspP S keys).1, Reach (mkK S.made) (mayS S.made (S.tks.map Tk.enc)) keys x :=
  suspL_reach hS keys keys st0 (fun _ h => h) (fun x h => by simp [st0] at h)
end Go.Proofs.Ytkbblekengdhaaa

set_option linter.unusedVariables false
set_option linter.unusedSimpArgs false
namespace Go.Proofs.Ytkbblekengdhaaa
open Go Go.RowKit

/-! the keys that are asked for when all values are at hand -/
def Itr.path (xs : List Int) : Itr → List Int
  | .done _ => []
  | .ask k c => k :: (c (atK xs k)).path xs
def Itr.val (xs : List Int) : Itr → Int
  | .done v => v
  | .ask k c => (c (atK xs k)).val xs
theorem fet_path (xs : List Int) : ∀ (m : Itr) (l : List (Int × Int)), m.run (fetF xs) l = ((m.val xs, true), l ++ (m.path xs).map fun k => (k, atK xs k)) := by
  intro m
  induction m with
  | done v => intro l; simp [Itr.run, Itr.path, Itr.val]
  | ask k c ih =>
    intro l
    rw [Itr.run_yes (by simp [fetF]), Itr.path, Itr.val]
    have h1 : (fetF xs l k).1.1 = atK xs k := rfl
    have h2 : (fetF xs l k).2 = l ++ [(k, atK xs k)] := rfl
    rw [h1, h2, ih]
    simp
theorem mem_uses (t : Tk) (xs : List Int) (j : Int) : j ∈ usesP t xs ↔ j ∈ t.itr.path xs := by
  unfold usesP
  rw [usesL_mem, fetched_itr, fet_path]
  simp
  constructor
  · rintro ⟨x, a, h, rfl, _⟩; exact h
  · intro h; exact ⟨_, j, h, rfl, rfl⟩
theorem fetched_val (t : Tk) (xs : List Int) : (fetchedP t xs).1 = (t.itr.val xs, true) := by rw [fetched_itr, fet_path]
theorem path_in {P : Int → Prop} (xs : List Int) : ∀ (m : Itr), m.In P → ∀ j ∈ m.path xs, P j := by
  intro m
  induction m with
  | done v => intro _ j hj; cases hj
  | ask k c ih =>
    intro h j hj
    rw [Itr.path] at hj
    rcases List.mem_cons.1 hj with rfl | hj
    · exact h.1
    · exact ih _ (h.2 _) j hj
theorem path_ok (xs : List Int) : ∀ (m : Itr), m.ok → ∀ j ∈ m.path xs, 0 ≤ j ∧ j ≤ 9 := by
  intro m
  induction m with
  | done v => intro _ j hj; cases hj
  | ask k c ih =>
    intro h j hj
    rw [Itr.path] at hj
    rcases List.mem_cons.1 hj with rfl | hj
    · exact ⟨h.1, h.2.1⟩
    · exact ih _ (h.2.2 _) j hj

/-- what is fetched with all values -/
def usesS (S : Sh) (all : List Int) (k : Int) : List Int := usesP (S.tk k) all
theorem usesS_mayS {S : Sh} (hS : S.Ok) {all : List Int} {k j : Int} (hk : mkK S.made k = true) (hj : j ∈ usesS S all k) (hm : mkK S.made j = true) : j ∈ mayS S.made (S.tks.map Tk.enc) k := by
  have hkr := mkK_range (show mkK S.made k ≠ false by rw [hk]; simp)
  obtain ⟨q, rfl⟩ := Int.eq_ofNat_of_zero_le hkr.1
  exact uses_mayS hS (by omega) all hj hm
theorem all_unmade {S : Sh} (hS : S.Ok) {all : List Int} (hall : buildAllP S = (all, true)) {k : Int} (h : mkK S.made k = false) : atK all k = atK S.inputs k :=
  (val_same hS hall (knE0 S) (.inl ⟨h, rfl⟩)).symm
/-- a made key has the value of its task -/
theorem all_made {S : Sh} (hS : S.Ok) {all : List Int} (hall : buildAllP S = (all, true)) {k : Int} (h : mkK S.made k = true) : atK all k = (S.tk k).itr.val all := by
  obtain ⟨a1, a2, a3, a4⟩ := all_law hS hall
  have hkr := mkK_range (show mkK S.made k ≠ false by rw [h]; simp)
  obtain ⟨q, rfl⟩ := Int.eq_ofNat_of_zero_le hkr.1
  have hqt : q < S.tks.length := by have := hS.len; omega
  have h4 := a4 q hqt h
  rw [fetched_val] at h4
  rw [atK_in (show q < all.length by omega), a3 q (by omega), tk_at hqt, ← h4]

/-! what is suspended is just what is fetched on some way -/
theorem susp_runU {S : Sh} (hS : S.Ok) {all : List Int} (hall : buildAllP S = (all, true)) {n : Nat} {R : Int → Prop}
    (ih : ∀ (st : MkSt) (k : Int), Inv S n st → KnE S st.known → (mkK S.made k = true → R k) → (∀ x ∈ st.order, R x) → (keyP S n st k).1.2 = true → ∀ x ∈ (keyP S n st k).2.order, R x) :
    ∀ (m : Itr) (st : MkSt), Inv S n st → KnE S st.known → (∀ k ∈ m.path all, mkK S.made k = true → R k) → (∀ x ∈ st.order, R x) → (m.run (keyP S n) st).1.2 = true → ∀ x ∈ (m.run (keyP S n) st).2.order, R x := by
  intro m
  induction m with
  | done v => intro st _ _ _ h _; exact h
  | ask k c ihm =>
    intro st hi hK hP h hok
    by_cases h1 : (keyP S n st k).1.2 = true
    · have hsp := keyP_spec hS n st [] k hi hK
      have hK2 := (hsp.1.2.1 h1).2.1
      have hv : (keyP S n st k).1.1 = atK all k := val_same hS hall hK2 (hsp.2 h1)
      rw [Itr.run_yes h1] at hok ⊢
      rw [Itr.path] at hP
      refine ihm _ _ (keyP_inv hS n st k hi).1 hK2 (fun j hj => hP j (List.mem_cons_of_mem _ (by rw [← hv]; exact hj))) (ih st k hi hK (hP k (List.mem_cons_self ..)) h h1) hok
    · rw [Itr.run_no h1] at hok; cases hok
theorem susp_keyU {S : Sh} (hS : S.Ok) {all : List Int} (hall : buildAllP S = (all, true)) {R : Int → Prop} (hR : ∀ k, R k → mkK S.made k = true → ∀ j ∈ usesS S all k, mkK S.made j = true → R j) :
    ∀ (n : Nat) (st : MkSt) (k : Int), Inv S n st → KnE S st.known → (mkK S.made k = true → R k) → (∀ x ∈ st.order, R x) → (keyP S n st k).1.2 = true → ∀ x ∈ (keyP S n st k).2.order, R x := by
  intro n
  induction n with
  | zero =>
    intro st k hi hK hk h hok
    cases hm : mkK S.made k with
    | false => rw [keyP_unmade hm]; exact h
    | true =>
      cases hkn : st.known k with
      | some v => rw [keyP_known hm hkn]; exact h
      | none =>
        exfalso
        have e : (keyP S 0 st k).1.2 = false := by
          unfold keyP; rw [if_neg (by simp [hm]), hkn]; simp only
          split <;> rfl
        rw [e] at hok; cases hok
  | succ n ih =>
    intro st k hi hK hk h hok
    cases hm : mkK S.made k with
    | false => rw [keyP_unmade hm]; exact h
    | true =>
      cases hkn : st.known k with
      | some v => rw [keyP_known hm hkn]; exact h
      | none =>
        by_cases ho : 0 ≤ idx (fun x => k == x) st.open_
        · rw [keyP_opened hm hkn ho]; exact h
        · have hkr := mkK_range (show mkK S.made k ≠ false by rw [hm]; simp)
          have hi1 := inv_push hi hkr hkn (not_open ho)
          have hrun := susp_runU hS hall ih (S.tk k).itr { st with open_ := st.open_ ++ [k] } hi1 hK (fun j hj hmj => hR k (hk hm) hm j ((mem_uses _ _ _).2 hj) hmj) h
          rw [keyP_new hm hkn ho, Tk.run_itr _ (keyP_zero S n)] at hok ⊢
          generalize (S.tk k).itr.run (keyP S n) { st with open_ := st.open_ ++ [k] } = r at *
          dsimp only at hok ⊢
          by_cases hrk : r.1.2 = true
          · rw [if_pos hrk]
            intro x hx
            rcases List.mem_append.1 hx with hx | hx
            · exact hrun hrk x hx
            · rw [List.mem_singleton.1 hx]; exact hk hm
          · rw [if_neg hrk] at hok; cases hok
theorem suspL_U {S : Sh} (hS : S.Ok) {all : List Int} (hall : buildAllP S = (all, true)) {R : Int → Prop} (hR : ∀ k, R k → mkK S.made k = true → ∀ j ∈ usesS S all k, mkK S.made j = true → R j) :
    ∀ (ks : List Int) (st : MkSt), Inv S S.made.length st → KnE S st.known → (∀ k ∈ ks, mkK S.made k = true → R k) → (∀ x ∈ st.order, R x) → (suspL S ks st).2 = true → ∀ x ∈ (suspL S ks st).1, R x := by
  intro ks
  induction ks with
  | nil => intro st _ _ _ h _; exact h
  | cons k ks ih =>
    intro st hi hK hks h hok
    rw [suspL] at hok ⊢
    by_cases h1 : (keyP S S.made.length st k).1.2 = true
    · rw [if_pos h1] at hok ⊢
      have hsp := keyP_spec hS S.made.length st [] k hi hK
      exact ih _ (keyP_inv hS _ st k hi).1 (hsp.1.2.1 h1).2.1 (fun j hj => hks j (List.mem_cons_of_mem _ hj)) (susp_keyU hS hall hR _ st k hi hK (hks k (List.mem_cons_self ..)) h h1) hok
    · rw [if_neg h1] at hok; cases hok
/-- each key that is asked for is there behind it -/
theorem suspL_has {S : Sh} (hS : S.Ok) {all : List Int} (hall : buildAllP S = (all, true)) : ∀ (ks : List Int) (st : MkSt), Inv S S.made.length st → KnE S st.known → FI S all st → (suspL S ks st).2 = true →
    (∀ x ∈ st.order, x ∈ (suspL S ks st).1) ∧ ∀ k ∈ ks, mkK S.made k = true → k ∈ (suspL S ks st).1 := by
  intro ks
  induction ks with
  | nil => intro st _ _ _ _; exact ⟨fun x h => h, fun k hk => (by cases hk)⟩
  | cons k ks ih =>
    intro st hi hK hF hok
    rw [suspL] at hok ⊢
    by_cases h : (keyP S S.made.length st k).1.2 = true
    · rw [if_pos h] at hok ⊢
      obtain ⟨⟨g1, g2, l, g3⟩, g4⟩ := susp_key hS hall _ st k hi hK hF h
      obtain ⟨j1, j2⟩ := ih _ (keyP_inv hS _ st k hi).1 g2 g1 hok
      refine ⟨fun x hx => j1 x (by rw [g3]; exact List.mem_append_left _ hx), fun j hj hm => ?_⟩
      rcases List.mem_cons.1 hj with rfl | hj
      · exact j1 _ (g4 hm)
      · exact j2 j hj hm
    · rw [if_neg h] at hok; cases hok
theorem susp_iff {S : Sh} (hS : S.Ok) {all : List Int} (hall : buildAllP S = (all, true)) {keys : List Int} (h : (suspP S keys).2 = true) (x : Int) :
    x ∈ (suspP S keys).1 ↔ Reach (mkK S.made) (usesS S all) keys x := by
  have hF0 : FI S all st0 := ⟨fun i h => by simp [st0] at h, fun k h => by simp [st0] at h⟩
  constructor
  · exact suspL_U hS hall (R := Reach (mkK S.made) (usesS S all) keys) (fun k hk _ j hj hm => .next k j hk hj hm) keys st0 (inv0 S) (knE0 S) (fun k hk hm => .here k hk hm) (fun x hx => by simp [st0] at hx) h x
  · obtain ⟨-, h2⟩ := suspL_has hS hall keys st0 (inv0 S) (knE0 S) hF0 h
    have h3 := fitsP_iff.1 (susp_fits hS hall h)
    intro hx
    induction hx with
    | here k hk hm => exact h2 k hk hm
    | next k j _ hj hm ih =>
      obtain ⟨i, hi, rfl⟩ := List.getElem_of_mem ih
      have := h3 i hi
      unfold fitAt at this
      rw [Bool.and_eq_true, List.all_eq_true] at this
      have h4 := this.2 j hj
      rw [hm] at h4
      simp only [Bool.not_true, Bool.false_or, List.contains_eq_mem, decide_eq_true_eq] at h4
      exact List.mem_of_mem_take h4
end Go.Proofs.Ytkbblekengdhaaa
