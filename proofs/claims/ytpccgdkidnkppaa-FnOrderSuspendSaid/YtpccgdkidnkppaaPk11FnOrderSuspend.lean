import Derived.Deep.OwnRows
import Derived.Test.YtpccgdkidnkppaaPk3FnOrderSuspend
import Derived.Test.YtpccgdkidnkppaaPk6FnOrderSuspend
import Derived.Test.YtpccgdkidnkppaaPk10FnOrderSuspend
set_option linter.unusedVariables false
set_option linter.unusedSimpArgs false
namespace Go.Proofs.Ytpccgdkidnkppaa
open Go Go.RowKit

/-! the reference's set: a list that grows while it is gone through -/
structure BInv (mk : Int → Bool) (may : Int → List Int) (n : Nat) (keys : List Int) (Y : Int → Bool) (row : List Int) (i : Nat) : Prop where
  sound : ∀ k, Y k = true → Reach mk may keys k
  src : ∀ x ∈ row, x ∈ keys ∨ ∃ k, Y k = true ∧ x ∈ may k
  done : ∀ j (h : j < row.length), j < i → mk row[j] = true → Y row[j] = true
  next : ∀ k, Y k = true → ∀ j ∈ may k, j ∈ row
  has : ∀ k ∈ keys, k ∈ row
  len : row.length ≤ keys.length + 10 * cntN Y n
section
variable {mk : Int → Bool} {may : Int → List Int} {n : Nat} {keys : List Int} {Y : Int → Bool} {row : List Int} {i : Nat}
theorem BInv.start : BInv mk may n keys (fun _ => false) keys 0 :=
  ⟨fun k h => (by cases h), fun x h => .inl h, fun j h h2 => (by omega), fun k h => (by cases h), fun k h => h, by omega⟩
theorem BInv.skip (h : BInv mk may n keys Y row i) (hi : i < row.length) (hs : mk row[i] = false ∨ Y row[i] = true) : BInv mk may n keys Y row (i + 1) :=
  ⟨h.sound, h.src, fun j hj hji hm => by
    by_cases e : j = i
    · subst e
      rcases hs with hs | hs
      · rw [hs] at hm; cases hm
      · exact hs
    · exact h.done j hj (by omega) hm, h.next, h.has, h.len⟩
theorem BInv.push (h : BInv mk may n keys Y row i) (hi : i < row.length) {q : Nat} (hq : row[i] = (q : Int)) (hqn : q < n) (hm : mk q = true) (hy : Y q = false) (hl : (may q).length ≤ 10) : BInv mk may n keys (setX Y q) (row ++ may q) (i + 1) := by
  have hYk : ∀ k, Y k = true → setX Y q k = true := fun k hk => by simp only [setX]; split <;> simp [hk]
  have hR : Reach mk may keys (q : Int) := by
    rcases h.src _ (List.getElem_mem hi) with h1 | ⟨k, h1, h2⟩
    · rw [hq] at h1; exact .here _ h1 hm
    · rw [hq] at h2; exact .next k _ (h.sound k h1) h2 hm
  refine ⟨fun k hk => ?_, fun x hx => ?_, fun j hj hji hmj => ?_, fun k hk j hj => ?_, fun k hk => List.mem_append_left _ (h.has k hk), ?_⟩
  · by_cases e : k = q
    · rw [e]; exact hR
    · simp only [setX, if_neg e] at hk; exact h.sound k hk
  · rcases List.mem_append.1 hx with hx | hx
    · rcases h.src x hx with h1 | ⟨k, h1, h2⟩
      · exact .inl h1
      · exact .inr ⟨k, hYk k h1, h2⟩
    · exact .inr ⟨q, by simp [setX], hx⟩
  · have hjl : j < row.length := by omega
    rw [List.getElem_append_left hjl] at hmj ⊢
    by_cases e : j = i
    · subst e; rw [hq]; simp [setX]
    · exact hYk _ (h.done j hjl (by omega) hmj)
  · by_cases e : k = q
    · rw [e] at hj; exact List.mem_append_right _ hj
    · simp only [setX, if_neg e] at hk; exact List.mem_append_left _ (h.next k hk j hj)
  · rw [List.length_append, cntN_set hqn hy]
    have := h.len
    omega
theorem BInv.reach (h : BInv mk may n keys Y row i) (hi : row.length ≤ i) (k : Int) : Y k = true ↔ Reach mk may keys k := by
  have hall : ∀ x ∈ row, mk x = true → Y x = true := fun x hx hm => by
    obtain ⟨j, hj, rfl⟩ := List.getElem_of_mem hx
    exact h.done j hj (by omega) hm
  refine ⟨h.sound k, fun hk => ?_⟩
  induction hk with
  | here k h1 h2 => exact hall k (h.has k h1) h2
  | next k j _ h1 h2 ih => exact hall j (h.next k ih j h1) h2
theorem BInv.range (h : BInv mk may n keys Y row i) (hk : ∀ k ∈ keys, 0 ≤ k ∧ k < n) (hm : ∀ k, ∀ j ∈ may k, 0 ≤ j ∧ j < n) : ∀ x ∈ row, 0 ≤ x ∧ x < n := fun x hx => by
  rcases h.src x hx with h1 | ⟨k, _, h2⟩
  · exact hk x h1
  · exact hm k x h2
end

/-! the reference's order: the least one that is free, while there is one -/
section
variable {X : Int → Bool} {may : Int → List Int} {n : Nat}
structure STopo (X : Int → Bool) (may : Int → List Int) (n : Nat) (R : List Int) (out : List Int) : Prop where
  ok : TOk X may n out
  rest : out.length ≤ cntN X n ∧ topoP X may n (cntN X n - out.length) out = (R, true)
theorem STopo.start (h : (topoP X may n (cntN X n) []).2 = true) : STopo X may n (topoP X may n (cntN X n) []).1 [] := ⟨TOk.nil, by simp, by
  rw [show cntN X n - ([] : List Int).length = cntN X n by simp]
  exact Prod.ext rfl h⟩
theorem STopo.some {R out : List Int} {q : Nat} (h : STopo X may n R out) (hq : nextK X may n out = some q) : STopo X may n R (out ++ [(q : Int)]) := by
  obtain ⟨hqn, hf⟩ := nextK_some hq
  have hp := h.ok.push hqn hf
  have hl := (sub_cnt hp.nodup hp.sub).1
  simp only [List.length_append, List.length_singleton] at hl
  refine ⟨hp, by simpa using hl, ?_⟩
  have hr := h.rest.2
  obtain ⟨m, hm⟩ : ∃ m, cntN X n - out.length = m + 1 := ⟨cntN X n - out.length - 1, by omega⟩
  rw [hm, topoP, hq] at hr
  rw [List.length_append, List.length_singleton, show cntN X n - (out.length + 1) = m by omega]
  exact hr
theorem STopo.none {R out : List Int} (h : STopo X may n R out) (hq : nextK X may n out = none) : out = R := by
  have hr := h.rest.2
  cases hm : cntN X n - out.length with
  | zero => rw [hm, topoP] at hr; exact (Prod.mk.inj hr).1
  | succ m => rw [hm, topoP, hq] at hr; cases hr
theorem STopo.len {R out : List Int} (h : STopo X may n R out) : out.length ≤ n := Nat.le_trans h.rest.1 (cntN_le _ _)
end
/-- of a safe sheet, each set that holds what its keys may fetch has an order -/
theorem safe_topo {made : List Bool} {tasks : List Task} (h : safeP made tasks = true) {X : Int → Bool} {keys : List Int} (hX : ∀ k, X k = true ↔ Reach (mkK made) (mayS made tasks) keys k) :
    (topoP X (mayS made tasks) made.length (cntN X made.length) []).2 = true ∧ TOk X (mayS made tasks) made.length (topoP X (mayS made tasks) made.length (cntN X made.length) []).1 ∧ (topoP X (mayS made tasks) made.length (cntN X made.length) []).1.length = cntN X made.length := by
  have hok : sheetOk made tasks = true := by unfold safeP at h; rw [Bool.and_eq_true] at h; exact h.1
  have hcl : ∀ k : Nat, k < made.length → X k = true → ∀ j ∈ mayS made tasks k, X j = true ∧ 0 ≤ j ∧ j < made.length := fun k _ hk j hj => by
    have hm := mayS_made j hj
    exact ⟨(hX j).2 (.next k j ((hX k).1 hk) hj hm.1), hm.2⟩
  rcases topoP_spec hcl (cntN X made.length) [] TOk.nil (by simp) with h1 | ⟨_, k, hk, _, hw⟩
  · exact h1
  · exact (hw ((safeP_iff hok).1 h k hk)).elim

/-! what is fetched may be fetched -/
theorem fet_in (xs : List Int) {P : Int → Prop} : ∀ (m : Itr) (l : List (Int × Int)), m.In P → (∀ f ∈ l, P f.1) → ∀ f ∈ (m.run (fetF xs) l).2, P f.1 := by
  intro m
  induction m with
  | done v => intro l _ h; exact h
  | ask k c ih =>
    intro l h hl
    rw [Itr.run_yes (by simp [fetF])]
    refine ih _ _ (h.2 _) (fun f hf => ?_)
    rcases List.mem_append.1 hf with hf | hf
    · exact hl f hf
    · rw [List.mem_singleton.1 hf]; exact h.1
theorem uses_may (t : Tk) (xs : List Int) : ∀ j ∈ usesP t xs, mayTask t.enc j = true := by
  intro j hj
  rcases (usesL_mem _ _ _).1 hj with h1 | ⟨f, hf, rfl⟩
  · cases h1
  · rw [fetched_itr] at hf
    exact fet_in xs t.itr [] t.itr_In (fun f hf => by cases hf) f hf
/-- a made key that is fetched may be fetched -/
theorem uses_mayS {S : Sh} (hS : S.Ok) {q : Nat} (hq : q < S.made.length) (xs : List Int) {j : Int} (hj : j ∈ usesP (S.tk q) xs) (hm : mkK S.made j = true) : j ∈ mayS S.made (S.tks.map Tk.enc) q := by
  have hqt : q < S.tks.length := by have := hS.len; omega
  have hr := mkK_range (show mkK S.made j ≠ false by rw [hm]; simp)
  have h2 := uses_may _ _ j hj
  unfold mayS mayMade
  rw [List.mem_filter]
  refine ⟨mem_mayList.2 ?_, hm⟩
  rw [taskAt_get (by simpa using hqt), List.getElem_map]
  rw [tk_at hqt] at h2
  have := hS.ten
  exact ⟨hS.okT hqt, by omega, by omega, h2⟩
/-- a topological order fits all inputs -/
theorem topo_fits {S : Sh} (hS : S.Ok) (vals : List Int) {X : Int → Bool} {keys out : List Int} (hX : ∀ k, X k = true ↔ Reach (mkK S.made) (mayS S.made (S.tks.map Tk.enc)) keys k)
    (h : TOk X (mayS S.made (S.tks.map Tk.enc)) S.made.length out) : fitsP S vals out = true := by
  rw [fitsP_iff]
  intro i hi
  have hs := h.sub _ (List.getElem_mem hi)
  have hmk := ((hX _).1 hs.2.2).isMade
  obtain ⟨q, hq⟩ := Int.eq_ofNat_of_zero_le hs.1
  unfold fitAt
  rw [hmk, Bool.true_and, Bool.and_eq_true, List.all_eq_true]
  refine ⟨?_, fun j hj => ?_⟩
  · rw [Bool.not_eq_true', List.contains_eq_mem, decide_eq_false_iff_not]
    intro hm
    obtain ⟨a, ha, e⟩ := List.getElem_of_mem hm
    rw [List.length_take] at ha
    rw [List.getElem_take] at e
    have := (List.getElem?_inj (i := a) (j := i) (show a < out.length by omega) h.nodup).1 (by rw [List.getElem?_eq_getElem (show a < out.length by omega), List.getElem?_eq_getElem hi, e])
    omega
  · cases hm : mkK S.made j with
    | false => rfl
    | true =>
      have hj2 : j ∈ mayS S.made (S.tks.map Tk.enc) out[i] := by
        rw [hq] at hj ⊢
        exact uses_mayS hS (by omega) vals hj hm
      have := h.behind i hi j hj2
      simpa using this
end Go.Proofs.Ytpccgdkidnkppaa

set_option linter.unusedVariables false
set_option linter.unusedSimpArgs false
namespace Go.Proofs.Ytpccgdkidnkppaa
open Go Go.RowKit

/-! maps from int to values of any kind: what a key has, and how many keys there are -/
def anyElem (v : Value) : Option (DataW Value × List MemPlace) := some (.held v, [])
structure VMapTy (P : Program) (t tk te : TypeId) (z : Value) : Prop where
  ht : P.underlying t = some (.map tk te)
  hk : P.underlying tk = some (.int .i64)
  hz : ∀ w, (zeroValue te).run P w = .ok z w
def VMap (P : Program) (tk : TypeId) (w : World) (b : Nat) (f : Int → Option Value) (c : Nat) : Prop :=
  ∃ D, w.ownsMap (H := Value) P tk anyElem b c D ∧ Maps.size D = c ∧ ∀ k : Int, (Lit.int .i64 k).wf = true → Maps.has D (.int .i64 k) = (f k).isSome ∧ ∀ z, D.atKey (.int .i64 k) z = match f k with | some v => .held v | none => z
def updV (f : Int → Option Value) (k : Int) (v : Value) : Int → Option Value := fun j => if j = k then some v else f j
/-- how many there are behind a store -/
def putC (f : Int → Option Value) (k : Int) (c : Nat) : Nat := if (f k).isSome then c else c + 1
theorem VMap.new (P : Program) (tk : TypeId) (w : World) : VMap P tk (w.alloc (.map #[] 0)) w.heap.size (fun _ => none) 0 :=
  ⟨.map [], World.ownsMap_made _ _ _ _, rfl, fun k _ => ⟨rfl, fun z => rfl⟩⟩
theorem VMap.block {P : Program} {tk : TypeId} {w w' : World} {b c : Nat} {f : Int → Option Value} (h : VMap P tk w b f c) (hb : w'.heap[b]? = w.heap[b]?) : VMap P tk w' b f c := by
  obtain ⟨D, ⟨es, clock, h1, h2⟩, h3⟩ := h
  exact ⟨D, ⟨es, clock, hb.trans h1, h2⟩, h3⟩
theorem VMap.isMap {P : Program} {tk : TypeId} {w : World} {b c : Nat} {f : Int → Option Value} (h : VMap P tk w b f c) : ∃ es k, w.heap[b]? = some (.map es k) := by
  obtain ⟨D, ⟨es, clock, h1, h2⟩, h3⟩ := h
  exact ⟨_, _, h1⟩
theorem VMap.lt {P : Program} {tk : TypeId} {w : World} {b c : Nat} {f : Int → Option Value} (h : VMap P tk w b f c) : b < w.heap.size := by
  obtain ⟨es, k, h⟩ := h.isMap
  exact block_lt h
theorem VMap.congr {P : Program} {tk : TypeId} {w : World} {b c : Nat} {f g : Int → Option Value} (h : VMap P tk w b f c) (e : ∀ k, f k = g k) : VMap P tk w b g c := by
  rw [← funext e]; exact h
/-- a row that is owned lies in no map's block -/
theorem VMap.ne {P : Program} {tk : TypeId} {w : World} {b c : Nat} {f : Int → Option Value} (h : VMap P tk w b f c) {base : Nat} {e : TypeId} {size : Nat} {v : Value} {n : Nat} {xs : List Value} (ho : w.ownsRow base e size v n xs) : v.ownBlock ≠ some b := by
  obtain ⟨es, k, hm⟩ := h.isMap
  exact ownsRow_ne ho hm (fun c e => by cases e)
theorem VMap.ne_cells {P : Program} {tk : TypeId} {w : World} {b c : Nat} {f : Int → Option Value} (h : VMap P tk w b f c) {m : Nat} {cs : Array Value} {t : TypeId} {fr : Nat × Nat} (hm : w.heap[m]? = some (.cells cs t fr)) : m ≠ b := by
  obtain ⟨es, k, hb⟩ := h.isMap
  intro e; rw [e, hb] at hm; cases hm
/-- a cell that is read lies in no map's block -/
theorem VMap.ne_cell {P : Program} {tk : TypeId} {w : World} {b c : Nat} {f : Int → Option Value} (h : VMap P tk w b f c) {m o : Nat} {v : Value} (hm : w.cell? ⟨m, o, none⟩ = some v) : m ≠ b := by
  obtain ⟨es, k, hb⟩ := h.isMap
  intro e; rw [e] at hm; simp [World.cell?, hb] at hm

section
variable {P : Program} {w : World} {ops : Array Oper} {rest : List Oper} {o : Oper} {a : Act} {Q : Exit → Act → World → Prop}
theorem held_inv {v u : Value} {ps : List MemPlace} (h : anyElem v = some (DataW.held u, ps)) : v = u := by
  simp [anyElem] at h; exact h.1
theorem wpList_vget (hgd : o.guard = none) (m x : Operand) (t : TypeId) (ho : o.op = Op.lookup t m x false)
    {tk te : TypeId} {z : Value} (hT : VMapTy P t tk te z) (b c : Nat) (f : Int → Option Value) (hm : a.eval m = .map (some b)) (hM : VMap P tk w b f c) (k : Int) (hx : a.eval x = .int .i64 k) (hw : (Lit.int .i64 k).wf = true)
    (h : wpList P ops Q rest (a.put o.dst ((f k).getD z)) w) : wpList P ops Q (o :: rest) a w := by
  obtain ⟨D, hD, _, hf⟩ := hM
  refine wpList_plain hgd fun K' hK' => ?_
  obtain ⟨v, ps, hrun, hv⟩ := hD.lookup (Maps.int_keyed hT.hk) hT.ht (hT.hz w) (zd := .held z) (zp := []) rfl (Maps.keyOf_int_mk hT.hk hw)
  rw [(hf k hw).2] at hv
  have e : v = (f k).getD z := by
    cases hfk : f k with
    | none => rw [hfk] at hv; exact held_inv hv
    | some u => rw [hfk] at hv; exact held_inv hv
  subst e
  unfold Oper.wp
  simp [execOp, ho, hm, hx, hrun, Result.andThen]
  exact hK' _ _ h
theorem wpList_vget_ok (hgd : o.guard = none) (m x : Operand) (t : TypeId) (ho : o.op = Op.lookup t m x true)
    {tk te : TypeId} {z : Value} (hT : VMapTy P t tk te z) (b c : Nat) (f : Int → Option Value) (hm : a.eval m = .map (some b)) (hM : VMap P tk w b f c) (k : Int) (hx : a.eval x = .int .i64 k) (hw : (Lit.int .i64 k).wf = true)
    (h : wpList P ops Q rest (a.put o.dst (.tuple #[(f k).getD z, .bool (f k).isSome])) w) : wpList P ops Q (o :: rest) a w := by
  obtain ⟨D, hD, _, hf⟩ := hM
  refine wpList_lookup_own_ok w hgd m x t ho tk te (Maps.int_keyed hT.hk) hT.ht anyElem (hT.hz w) (.held z) [] rfl b c D hm hD _ _ hx (Maps.keyOf_int_mk hT.hk hw) ?_
  intro v ps hv
  rw [(hf k hw).2] at hv
  have e : v = (f k).getD z := by
    cases hfk : f k with
    | none => rw [hfk] at hv; exact held_inv hv
    | some u => rw [hfk] at hv; exact held_inv hv
  rw [(hf k hw).1, e]
  exact h
theorem wpList_vput (hgd : o.guard = none) (m x v : Operand) (t : TypeId) (ho : o.op = Op.mapUpdate t m x v)
    {tk te : TypeId} {z : Value} (hT : VMapTy P t tk te z) (b c : Nat) (f : Int → Option Value) (hm : a.eval m = .map (some b)) (hM : VMap P tk w b f c) (hn : c < maxLen) (k : Int) (y : Value) (hx : a.eval x = .int .i64 k) (hv : a.eval v = y) (hw : (Lit.int .i64 k).wf = true)
    (h : ∀ w', VMap P tk w' b (updV f k y) (putC f k c) → w.grownBy w' (some b) → wpList P ops Q rest (a.put o.dst undef) w') : wpList P ops Q (o :: rest) a w := by
  obtain ⟨D, hD, hs, hf⟩ := hM
  have hI := hD.isMap
  have htd := hD.tidy (Maps.int_keyed hT.hk)
  have hkey := Maps.keyOf_int_mk hT.hk hw
  refine wpList_mapUpdate_own (H := Value) w hgd m x v t ho tk te (Maps.int_keyed hT.hk) hT.ht _ b c D hm hD hn _ _ _ hx hv hkey (.held y) [] rfl ?_
  intro w' h1 h2
  have hik : WideAt.IsKeyLit (Lit.int .i64 k) := by simp [WideAt.IsKeyLit]
  have hsz : Maps.size (D.put (.int .i64 k) (.held y)) = putC f k c := by
    unfold putC
    rw [Maps.size_put htd, (hf k hw).1, hs]
  refine h w' ⟨_, ?_, hsz, fun j hj => ?_⟩ h2
  · rw [← hsz]
    obtain ⟨es, clock, hb, F, hle, hDD⟩ := h1
    refine ⟨es, clock, hb, F, ?_, hDD⟩
    rw [hDD]; simp [Maps.size, length_sorted]
  · by_cases e : j = k
    · subst e
      refine ⟨by simp [Maps.has_put_same hI hik, updV], fun z => ?_⟩
      rw [Maps.atKey_put_same hI hik]; simp [updV]
    · have hne : (Lit.int .i64 j) ≠ (Lit.int .i64 k) := by simp [e]
      rw [Maps.has_put_other hne]
      refine ⟨by simpa [updV, e] using (hf j hj).1, fun z => ?_⟩
      rw [Maps.atKey_put_other hne, (hf j hj).2]; simp [updV, e]
theorem wpList_vlen (hgd : o.guard = none) (m : Operand) (t : TypeId) (ho : o.op = Op.call { callee := Callee.builtin Builtin.len, args := #[m], argTypes := #[t] })
    {tk te : TypeId} {z : Value} (hT : VMapTy P t tk te z) (b c : Nat) (f : Int → Option Value) (hm : a.eval m = .map (some b)) (hM : VMap P tk w b f c)
    (h : wpList P ops Q rest (a.put o.dst (.int .i64 c)) w) : wpList P ops Q (o :: rest) a w := by
  obtain ⟨D, hD, hs, hf⟩ := hM
  refine wpList_len_own w hgd m t ho tk te hT.ht anyElem b c D hm hD ?_
  rw [hs]; exact h
end

/-! a block known whole -/
def RowBlk {α : Type} (f : α → Value) (T : TypeId) (w : World) (b : Nat) (xs : List α) : Prop := w.heap[b]? = some (.cells (xs.map f).toArray T (0, 0))
section
variable {α : Type} {f : α → Value} {T : TypeId} {w w' : World} {b : Nat} {xs : List α}
theorem RowBlk.lt (h : RowBlk f T w b xs) : b < w.heap.size := block_lt h
theorem RowBlk.turn (h : RowBlk f T w b xs) (hk : w'.heap[b]? = w.heap[b]?) : RowBlk f T w' b xs := hk.trans h
theorem RowBlk.cell (h : RowBlk f T w b xs) {i : Nat} (hi : i < xs.length) : w.cell? ⟨b, i, none⟩ = some (f xs[i]) := by
  rw [cellm h]; simp [hi]
theorem RowBlk.frozen (h : RowBlk f T w b xs) (i : Nat) : w.frozen? ⟨b, i, none⟩ = false := frozenm h i
theorem RowBlk.set (h : RowBlk f T w b xs) (i : Nat) (x : α) : RowBlk f T (w.setCell ⟨b, i, none⟩ (f x)) b (xs.set i x) := by
  unfold RowBlk
  rw [setCell_block h]
  congr 2
  apply Array.ext'
  simp [List.map_set]
theorem RowBlk.row (h : RowBlk f T w b xs) : RowAt f w.heap.size w (some ⟨b, 0, none⟩) xs := fun i hi => ⟨b, 0, rfl, h.lt, by rw [Nat.zero_add]; exact h.cell hi⟩
theorem RowBlk.owns (h : RowBlk f T w b xs) {base : Nat} (hb : base ≤ b) (hm : xs.length ≤ maxLen) : w.ownsRow base T 1 (.slice (some ⟨b, 0, none⟩) xs.length xs.length) xs.length (xs.map f) :=
  ⟨by simp, .inr ⟨b, xs.length, _, rfl, hb, h, Nat.le_refl _, hm, by simp, by simp [List.take_of_length_le]⟩⟩
end
/-- 'make([]T, n)' has made its block -/
theorem made_row {α : Type} {f : α → Value} {T : TypeId} {w w' : World} {base n : Nat} {v : Value} {z : α} (h : w'.ownsRow base T 1 v n (madeCells #[f z] n).toList) (hb : v = .slice (some ⟨w.heap.size, 0, none⟩) n n) : RowBlk f T w' w.heap.size (List.replicate n z) := by
  subst hb
  obtain ⟨hl, ⟨e, _⟩ | ⟨g, cap, cur, e, hg, hb, hn, hc, hs, ht⟩⟩ := h
  · cases e
  · cases e
    unfold RowBlk
    rw [hb]
    congr 2
    apply Array.ext'
    have : cur.toList.take n = cur.toList := List.take_of_length_le (by simp; omega)
    simp only [Nat.mul_one] at ht
    rw [this] at ht
    rw [ht]
    apply List.ext_getElem
    · simp [madeCells]
    · intro i h1 h2
      simp [madeCells, Nat.mod_one]
theorem made_blk {α : Type} {f : α → Value} {T : TypeId} {w : World} {n : Nat} {z : α} {b : Nat} (hb : w.heap[b]? = some (.cells (madeCells #[f z] n) T (0, 0))) : RowBlk f T w b (List.replicate n z) := by
  unfold RowBlk
  rw [hb]
  congr 2
  apply Array.ext'
  apply List.ext_getElem
  · simp [madeCells]
  · intro i h1 h2
    simp [madeCells, Nat.mod_one]
theorem make_ints (n : Nat) (hn : n ≤ 1048576) : ∀ W : World, (Instr.makeSlice 26 (.int .i64 (n : Int)) (.int .i64 (n : Int))).run Try.prog W = .ok (.slice (some ⟨W.heap.size, 0, none⟩) n n) (W.alloc (.cells (madeCells #[.int .i64 0] n) 3)) :=
  fun W => run_make_row' 26 3 (.int .i64 0) 8 Try.underlying26 (by kernel_rfl) rfl .i64 .i64 n (by omega) (by omega) W
theorem make_bools (n : Nat) (hn : n ≤ 1048576) : ∀ W : World, (Instr.makeSlice 22 (.int .i64 (n : Int)) (.int .i64 (n : Int))).run Try.prog W = .ok (.slice (some ⟨W.heap.size, 0, none⟩) n n) (W.alloc (.cells (madeCells #[.bool false] n) 4)) :=
  fun W => run_make_row' 22 4 (.bool false) 1 Try.underlying22 (by kernel_rfl) rfl .i64 .i64 n (by omega) (by omega) W

theorem ownsRow_ints_of {w : World} {base : Nat} {e : TypeId} {A : Option Addr} {c : Nat} {xs : List Int} (h : w.ownsRow base e 1 (.slice A xs.length c) xs.length (ints xs)) : IntsAt w.heap.size w A xs := by
  obtain ⟨A', c', e, _, _, hx⟩ := ownsRow_ints h
  cases e; exact hx
/-- the box that a struct was put into when the call began is no row that the call owns -/
theorem box_ne {w : World} {base : Nat} {e : TypeId} {size : Nat} {v : Value} {n : Nat} {xs : List Value} (h : w.ownsRow base e size v n xs) {m : Nat} {cs : Array Value} {t : TypeId} (hm : w.heap[m]? = some (.cells cs t (0, 0))) (hne : t ≠ e) : v.ownBlock ≠ some m :=
  ownsRow_ne h hm (fun c e' => by cases e'; exact hne rfl)
/-- a number is stored in a row that is owned -/
theorem ownsRow_set {w : World} {base : Nat} {e : TypeId} {g cap n : Nat} {xs : List Value} (h : w.ownsRow base e 1 (.slice (some ⟨g, 0, none⟩) n cap) n xs) (i : Nat) (v : Value) (hi : i < n) : (w.setCell ⟨g, i, none⟩ v).ownsRow base e 1 (.slice (some ⟨g, 0, none⟩) n cap) n (xs.set i v) := by
  obtain ⟨h1, ⟨h2, _⟩ | ⟨g', cap', cur, h2, h3, h4, h5, h6, h7, h8⟩⟩ := h
  · cases h2
  · cases h2
    refine ⟨by simpa using h1, .inr ⟨g, cap, cur.setIfInBounds i v, rfl, h3, setCell_block h4 i v, h5, h6, by simpa using h7, ?_⟩⟩
    rw [Array.toList_setIfInBounds, List.take_set, h8]
end Go.Proofs.Ytpccgdkidnkppaa

set_option linter.unusedVariables false
set_option linter.unusedSimpArgs false
namespace Go.Proofs.Ytpccgdkidnkppaa
open Go Go.RowKit

abbrev vB : Bool → Value := fun b => Value.bool b
theorem keysN_set {n k : Nat} (d : Int → Bool) (v : Bool) : ((keysN n).map d).set k v = (keysN n).map (fun i => if i = (k : Int) then v else d i) := by
  apply List.ext_getElem
  · simp
  · intro i h1 h2
    simp only [List.length_set, List.length_map] at h1
    rw [List.getElem_set, List.getElem_map, List.getElem_map, keysN_get (by simpa using h1)]
    by_cases e : k = i
    · subst e; simp
    · rw [if_neg e, if_neg (by omega)]
theorem keysN_rep (n : Nat) : List.replicate n false = (keysN n).map (fun _ => false) := by
  apply List.ext_getElem
  · simp [keysN]
  · intro i h1 h2
    simp

set_option maxRecDepth 5000 in
set_option maxHeartbeats 8000000 in
theorem specSheetSafe_calls (Am At : Option Addr) (cm ct : Nat) (made : List Bool) (tasks : List Task) (B : Nat) (w0 w : World) (hb : Below B w0 w) (hB : B ≤ w.heap.size) (hs : SheetAt B w0 Am cm At ct made tasks) (hnod : ∀ T ∈ tasks, nodes T ≤ 1000000000) :
    Calls Try.prog 76 #[.agg #[.slice Am made.length cm, .slice At tasks.length ct]] w fun e w' => e = .returned (.bool (safeP made tasks)) ∧ Below w.heap.size w w' := by
  have hc1 := fun w1 (hw : Below w.heap.size w w1) => specSheetOk_calls Am At cm ct made tasks B w0 w1 (below_up' hb hB hw) (Nat.le_trans hB hw.size) hs hnod
  have hc2 := fun w1 (hw : Below w.heap.size w w1) (q : Nat) (hq : q < tasks.length) (hq9 : q ≤ 9) (h10 : made.length ≤ 10) => l3May_calls Am At cm ct made tasks B w0 w1 (below_up' hb hB hw) (Nat.le_trans hB hw.size) hs q hq hq9 h10 (hnod _ (List.getElem_mem hq))
  have hsf : safeP made tasks = (sheetOk made tasks && safeB (mayS made tasks) made.length) := rfl
  cases hok : sheetOk made tasks with
  | false =>
    rw [hok] at hc1 hsf
    replace hc1 := Lib.hid hc1
    replace hsf := Lib.hid hsf
    clear hc2 hok hs hnod hb
    go_enter Try.func76, Try.ntmps76
    go_wp2_with fail
    refine (hc1.out _ (below_al (Below.refl _ _) _)).mono ?_
    rintro e w1 ⟨rfl, h1⟩
    go_wp2_with fail
    go_ret
    exact ⟨by rw [hsf.out]; rfl, below_from h1⟩
  | true =>
    rw [hok, Bool.true_and] at hsf
    rw [hok] at hc1
    simp only [sheetOk, Bool.and_eq_true, decide_eq_true_eq] at hok
    have hlen := hok.1.1
    have hten := hok.1.2
    have hmay : ∀ (q : Nat) (hq : q < tasks.length), mayMade made tasks[q] = mayS made tasks q := fun q hq => by unfold mayS; rw [taskAt_get hq]
    have hmr : ∀ (k : Int), ∀ j ∈ mayS made tasks k, 0 ≤ j ∧ j < made.length := fun k j hj => (mayS_made j hj).2
    have hml : ∀ k : Int, (mayS made tasks k).length ≤ 10 := fun k => Nat.le_trans (List.length_filter_le _ _) (mayList_len _)
    generalize mayS made tasks = may at *
    replace hc1 := Lib.hid hc1
    replace hc2 := Lib.hid hc2
    replace hsf := Lib.hid hsf
    replace hmay := Lib.hid hmay
    replace hmr := Lib.hid hmr
    replace hml := Lib.hid hml
    replace hlen := Lib.hid hlen
    clear hok hs hnod hb
    obtain ⟨ii, hi1, hi2, hi3, hi4⟩ := info_parts boolTy'.hi
    replace hi1 := Lib.hid hi1
    replace hi2 := Lib.hid hi2
    replace hi3 := Lib.hid hi3
    replace hi4 := Lib.hid hi4
    go_enter Try.func76, Try.ntmps76
    go_wp2_with fail
    refine (hc1.out _ (below_al (Below.refl _ _) _)).mono ?_
    rintro e w1 ⟨rfl, h1⟩
    have x0 : w1.cell? ⟨w.heap.size, 0, none⟩ = some (.slice Am made.length cm) := (h1.cell (p := ⟨w.heap.size, 0, none⟩) (by simp)).trans (by simp)
    have x1 : w1.cell? ⟨w.heap.size, 1, none⟩ = some (.slice At tasks.length ct) := (h1.cell (p := ⟨w.heap.size, 1, none⟩) (by simp)).trans (by simp)
    have b1 : Below w.heap.size w w1 := below_from h1
    have s1 : w.heap.size < w1.heap.size := by have := h1.size; simp at this; omega
    replace b1 := Lib.hid b1
    clear h1 hc1
    go_wp2_with (at_make; go_loud (with_reducible refine wpList_make_full _ (by rfl) _ _ 22 (by rfl) w.heap.size 4 ii (.bool false) 1 Try.underlying22 hi1.out hi2.out hi3.out .i64 .i64 made.length made.length made.length (by with_unfolding_all rfl) (by with_unfolding_all rfl) rfl rfl ?_ ?_ ?_ ?_))
    · rw [hi4.out]; omega
    · simp [maxLen]; omega
    · omega
    intro w2 hmk hgrow
    have hR : RowBlk vB 4 w2 w1.heap.size ((keysN made.length).map (fun _ => false)) := by
      rw [← keysN_rep]; exact made_row (z := false) (by simpa using hmk) rfl
    have hb12 : Below w1.heap.size w1 w2 := ⟨hgrow.os, hgrow.tape, hgrow.output, hgrow.size, fun k hk => hgrow.block k hk (by simp)⟩
    have b2 : Below w.heap.size w w2 := b1.out.trans (hb12.mono b1.out.size)
    have y0 := kept_cell hb12 (by omega) x0
    have y1 := kept_cell hb12 (by omega) x1
    obtain ⟨bd, hbd⟩ : ∃ bd, bd = w1.heap.size := ⟨_, rfl⟩
    rw [← hbd] at hR s1 ⊢
    replace b2 := Lib.hid b2
    replace hR := Lib.hid hR
    clear hb12 hgrow hmk x0 x1 hi1 hi2 hi3 hi4 b1 hbd
    go_wp2_with fail
    go_loopw [4, 5, 6, 7, 8] (fun i _ _ _ _ wr => ∃ (a : Nat) (d : Int → Bool), a ≤ made.length + 1 ∧ i = .int .i64 a ∧ wr.cell? ⟨w.heap.size, 0, none⟩ = some (.slice Am made.length cm) ∧ wr.cell? ⟨w.heap.size, 1, none⟩ = some (.slice At tasks.length ct) ∧ Hid (RowBlk vB 4 wr bd ((keysN made.length).map d)) ∧ Hid (Below w.heap.size w wr) ∧ Hid (passN may made.length (made.length + 1 - a) d = passN may made.length (made.length + 1) (fun _ => false))) (fun i _ _ _ _ _ => made.length + 1 - (intOf i).toNat)
    case atStart => exact ⟨0, fun _ => false, by omega, rfl, y0, y1, hR, b2, Lib.hid rfl⟩
    case round =>
      obtain ⟨a, d, ha, rfl, y0, y1, hR, hw, hp⟩ := hrel
      by_cases hlt : a ≤ made.length
      · have hp2 := hp.out
        rw [show made.length + 1 - a = (made.length + 1 - (a + 1)) + 1 by omega, passN] at hp2
        replace hp2 := Lib.hid hp2
        clear hp
        go_wp2_with fail
        obtain ⟨w9, hw9⟩ : ∃ w9, w9 = wr := ⟨_, rfl⟩
        subst hw9
        go_loopw [5, 6, 7, 8] (fun i _ _ _ wr => ∃ (q : Nat) (d' : Int → Bool), q ≤ made.length ∧ i = .int .i64 q ∧ wr.cell? ⟨w.heap.size, 0, none⟩ = some (.slice Am made.length cm) ∧ wr.cell? ⟨w.heap.size, 1, none⟩ = some (.slice At tasks.length ct) ∧ Hid (RowBlk vB 4 wr bd ((keysN made.length).map d')) ∧ Hid (Below w.heap.size w wr) ∧ Hid (passKs may ((keysN made.length).drop q) d' = passKs may (keysN made.length) d)) (fun i _ _ _ _ => made.length - (intOf i).toNat)
        case atStart => exact ⟨0, d, by omega, rfl, y0, y1, hR, hw, Lib.hid rfl⟩
        case round =>
          obtain ⟨q, d', hq, rfl, y0, y1, hR, hw, hp⟩ := hrel
          by_cases hlt2 : q < made.length
          · have hqt : q < tasks.length := by have := hlen.out; omega
            have hp3 := hp.out
            rw [keysN_drop hlt2, passKs] at hp3
            have hcall := hc2.out wr hw.out q hqt (by omega) hten
            rw [hmay.out q hqt] at hcall
            have hmr' := hmr.out q
            have hml' := hml.out q
            generalize may q = L at *
            replace hp3 := Lib.hid hp3
            replace hcall := Lib.hid hcall
            replace hmr' := Lib.hid hmr'
            clear hp
            go_wp2_with fail
            refine hcall.out.mono ?_
            rintro e w3 ⟨v, rfl, hownL, h3⟩
            obtain ⟨AL, cL, rfl, hl1, hl2, hl3⟩ := ownsRow_ints hownL
            have hbz := hR.out.lt
            have y0' := kept_cell h3 (by have := hw.out.size; omega) y0
            have y1' := kept_cell h3 (by have := hw.out.size; omega) y1
            have hR3 : RowBlk vB 4 w3 bd ((keysN made.length).map d') := hR.out.turn (h3.block _ hbz)
            have b3 : Below w.heap.size w w3 := below_up hw.out h3
            replace hR3 := Lib.hid hR3
            replace b3 := Lib.hid b3
            replace hl3 := Lib.hid hl3
            clear h3 hownL y0 y1 hR hw hcall
            unfold maxLen at hl2
            go_wp2_with fail
            go_loopw [6, 8] (fun f i wr => ∃ (j : Nat) (fr : Bool), j ≤ L.length ∧ i = .int .i64 j ∧ f = .bool fr ∧ wr = w3 ∧ Hid (fr = (L.take j).all d')) (fun _ i _ => L.length - (intOf i).toNat)
            case atStart => exact ⟨0, true, by omega, rfl, rfl, rfl, Lib.hid rfl⟩
            case round =>
              obtain ⟨j, fr, hj, rfl, rfl, rfl, hfr⟩ := hrel
              by_cases hlt3 : j < L.length
              · obtain ⟨bL, oL, eL, hbL, y⟩ := hl3.out j hlt3
                subst eL
                obtain ⟨r0, r1⟩ := hmr'.out L[j] (List.getElem_mem _)
                obtain ⟨kq, hkq⟩ := Int.eq_ofNat_of_zero_le r0
                have hkl : kq < made.length := by omega
                have z := hR3.out.cell (i := kq) (by simpa [keysN] using hkl)
                simp only [List.getElem_map, keysN_get] at z
                have htk : (L.take (j + 1)).all d' = (fr && d' kq) := by
                  rw [hfr.out, List.take_succ_eq_append_getElem hlt3, List.all_append, hkq]; simp
                rw [hkq] at y
                obtain ⟨dv, hdv⟩ : ∃ dv, d' kq = dv := ⟨_, rfl⟩
                rw [hdv] at z htk
                replace htk := Lib.hid htk
                replace hkq := Lib.hid hkq
                replace hdv := Lib.hid hdv
                have hb9 : kq ≤ 10 := by omega
                clear r0 r1
                cases fr with
                | false =>
                  go_wp2_with fail
                  go_roundw
                  case rel => exact ⟨j + 1, false, by omega, by go_num, by first | rfl | trivial, by first | rfl | trivial, Lib.hid (by rw [htk.out]; rfl)⟩
                  case measure => simp [intOf]; omega
                | true =>
                  go_wp2_with fail
                  go_roundw
                  case rel => exact ⟨j + 1, dv, by omega, by go_num, by first | rfl | trivial, by first | rfl | trivial, Lib.hid (by rw [htk.out]; rfl)⟩
                  case measure => simp [intOf]; omega
              · have hfr2 : L.all d' = fr := by rw [hfr.out, List.take_of_length_le (by omega)]
                rw [hfr2] at hp3
                have hz3 := hR3.out.lt
                have f0 := hR3.out.frozen q
                have z := hR3.out.cell (i := q) (by simpa [keysN] using hlt2)
                have hset := hR3.out.set q fr
                rw [keysN_set] at hset
                have hbs : Below w.heap.size w (wr.setCell ⟨bd, q, none⟩ (.bool fr)) := b3.out.setCell (by simp; omega) _
                have q0 : (wr.setCell ⟨bd, q, none⟩ (.bool fr)).cell? ⟨w.heap.size, 0, none⟩ = some (.slice Am made.length cm) := (World.cell?_of_block (setCell_far (show w.heap.size ≠ bd by omega))).trans y0'
                have q1 : (wr.setCell ⟨bd, q, none⟩ (.bool fr)).cell? ⟨w.heap.size, 1, none⟩ = some (.slice At tasks.length ct) := (World.cell?_of_block (setCell_far (show w.heap.size ≠ bd by omega))).trans y1'
                replace hset := Lib.hid hset
                replace hbs := Lib.hid hbs
                replace q0 := Lib.hid q0
                replace q1 := Lib.hid q1
                replace hfr2 := Lib.hid hfr2
                clear hfr
                go_wp2_with fail
                go_roundw
                case rel => exact ⟨q + 1, _, by omega, by go_num, q0.out, q1.out, hset, hbs, hp3⟩
                case measure => simp [intOf]; omega
          · have hd : (keysN made.length).drop q = [] := List.drop_eq_nil_of_le (by simp [keysN]; omega)
            have hp3 := hp.out
            rw [hd, passKs] at hp3
            have hp4 := hp2.out
            rw [← hp3] at hp4
            replace hp4 := Lib.hid hp4
            clear hp hp3 hd
            go_wp2_with fail
            go_roundw
            case rel => exact ⟨a + 1, d', by omega, by go_num, y0, y1, hR, hw, hp4⟩
            case measure => simp [intOf]; omega
      · have ha2 : a = made.length + 1 := by omega
        subst ha2
        have hp2 := hp.out
        rw [Nat.sub_self, passN] at hp2
        have hsf2 : safeP made tasks = (keysN made.length).all d := by rw [hsf.out, safeB, ← hp2]
        replace hsf2 := Lib.hid hsf2
        clear hp hp2 hsf
        go_wp2_with fail
        obtain ⟨w9, hw9⟩ : ∃ w9, w9 = wr := ⟨_, rfl⟩
        subst hw9
        go_loopw [9] (fun i wr => ∃ (q : Nat), q ≤ made.length ∧ i = .int .i64 q ∧ wr = w9 ∧ Hid (∀ k : Nat, k < q → d k = true)) (fun i _ => made.length - (intOf i).toNat)
        case atStart => exact ⟨0, by omega, rfl, rfl, Lib.hid (fun k hk => by omega)⟩
        case round =>
          obtain ⟨q, hq, rfl, rfl, hall⟩ := hrel
          by_cases hlt2 : q < made.length
          · have z := hR.out.cell (i := q) (by simpa [keysN] using hlt2)
            simp only [List.getElem_map, keysN_get] at z
            have hz3 := hR.out.lt
            cases hdq : d q with
            | false =>
              rw [hdq] at z
              have hfin : safeP made tasks = false := by
                rw [hsf2.out]
                apply Bool.eq_false_iff.2
                intro h
                have := (List.all_eq_true.1 h) q (mem_keysN.2 (by omega))
                rw [hdq] at this; cases this
              replace hfin := Lib.hid hfin
              replace hdq := Lib.hid hdq
              go_wp2_with fail
              go_ret
              exact ⟨by rw [hfin.out]; rfl, hw.out⟩
            | true =>
              rw [hdq] at z
              replace hdq := Lib.hid hdq
              go_wp2_with fail
              go_roundw
              case rel => exact ⟨q + 1, by omega, by go_num, by first | rfl | trivial, Lib.hid (fun k hk => if e : k = q then by subst e; exact hdq.out else hall.out k (by omega))⟩
              case measure => simp [intOf]; omega
          · have hfin : safeP made tasks = true := by
              rw [hsf2.out, List.all_eq_true]
              intro k hk
              obtain ⟨h0, h1⟩ := mem_keysN.1 hk
              obtain ⟨k', rfl⟩ := Int.eq_ofNat_of_zero_le h0
              exact hall.out k' (by omega)
            replace hfin := Lib.hid hfin
            go_wp2_with fail
            go_ret
            exact ⟨by rw [hfin.out]; rfl, hw.out⟩
end Go.Proofs.Ytpccgdkidnkppaa

set_option linter.unusedVariables false
set_option linter.unusedSimpArgs false
namespace Go.Proofs.Ytpccgdkidnkppaa
open Go Go.RowKit

/-! two runs side by side -/
theorem Itr.run_rel {σ τ : Type} {f : σ → Int → (Int × Bool) × σ} {g : τ → Int → (Int × Bool) × τ} {R : σ → τ → Prop}
    (h : ∀ s c k, R s c → 0 ≤ k → k ≤ 9 → (f s k).1 = (g c k).1 ∧ ((f s k).1.2 = true → R (f s k).2 (g c k).2)) : ∀ (m : Itr) (s : σ) (c : τ), m.ok → R s c → (m.run f s).1 = (m.run g c).1 ∧ ((m.run f s).1.2 = true → R (m.run f s).2 (m.run g c).2) := by
  intro m
  induction m with
  | done v => intro s c _ hR; exact ⟨rfl, fun _ => hR⟩
  | ask k ct ih =>
    intro s c hok hR
    obtain ⟨h1, h2⟩ := h s c k hR hok.1 hok.2.1
    by_cases hf : (f s k).1.2 = true
    · have hg : (g c k).1.2 = true := by rw [← h1]; exact hf
      rw [Itr.run_yes hf, Itr.run_yes hg, ← h1]
      exact ih _ _ _ (hok.2.2 _) (h2 hf)
    · have hg : ¬ (g c k).1.2 = true := by rw [← h1]; exact hf
      rw [Itr.run_no hf, Itr.run_no hg]
      exact ⟨rfl, fun h => by cases h⟩
theorem Itr.run_keeps {σ : Type} {f : σ → Int → (Int × Bool) × σ} {J : σ → Prop} (hJ : ∀ s k, J s → 0 ≤ k → k ≤ 9 → J (f s k).2) : ∀ (m : Itr) (s : σ), m.ok → J s → J (m.run f s).2 := by
  intro m
  induction m with
  | done v => intro s _ h; exact h
  | ask k ct ih =>
    intro s hok h
    have h1 := hJ s k h hok.1 hok.2.1
    by_cases hf : (f s k).1.2 = true
    · rw [Itr.run_yes hf]; exact ih _ _ (hok.2.2 _) h1
    · rw [Itr.run_no hf]; exact h1

/-! the reference's way of building keys, each once -/
structure OSt where
  vals : List Int
  done : List Int
  under : List Int
def onceP (S : Sh) : Nat → OSt → Int → (Int × Bool) × OSt
  | n, st, k =>
    if mkK S.made k = false then ((atK st.vals k, true), st)
    else if st.done.contains k = true then ((atK st.vals k, true), st)
    else if st.under.contains k = true then ((0, false), st)
    else match n with
      | 0 => ((0, false), st)
      | n + 1 =>
        if ((S.tk k).itr.run (onceP S n) ⟨st.vals, st.done, st.under ++ [k]⟩).1.2 = true
        then ((((S.tk k).itr.run (onceP S n) ⟨st.vals, st.done, st.under ++ [k]⟩).1.1, true), ⟨((S.tk k).itr.run (onceP S n) ⟨st.vals, st.done, st.under ++ [k]⟩).2.vals.set k.toNat ((S.tk k).itr.run (onceP S n) ⟨st.vals, st.done, st.under ++ [k]⟩).1.1, ((S.tk k).itr.run (onceP S n) ⟨st.vals, st.done, st.under ++ [k]⟩).2.done ++ [k], st.under⟩)
        else ((0, false), ⟨((S.tk k).itr.run (onceP S n) ⟨st.vals, st.done, st.under ++ [k]⟩).2.vals, ((S.tk k).itr.run (onceP S n) ⟨st.vals, st.done, st.under ++ [k]⟩).2.done, st.under⟩)
theorem onceP_unmade {S : Sh} {n : Nat} {st : OSt} {k : Int} (h : mkK S.made k = false) : onceP S n st k = ((atK st.vals k, true), st) := by unfold onceP; rw [if_pos h]
theorem onceP_done {S : Sh} {n : Nat} {st : OSt} {k : Int} (h : mkK S.made k = true) (hd : st.done.contains k = true) : onceP S n st k = ((atK st.vals k, true), st) := by unfold onceP; rw [if_neg (by simp [h]), if_pos hd]
theorem onceP_under {S : Sh} {n : Nat} {st : OSt} {k : Int} (h : mkK S.made k = true) (hd : st.done.contains k = false) (hu : st.under.contains k = true) : onceP S n st k = ((0, false), st) := by unfold onceP; rw [if_neg (by simp [h]), if_neg (by simp only [hd]; decide), if_pos hu]
theorem onceP_new {S : Sh} {n : Nat} {st : OSt} {k : Int} (h : mkK S.made k = true) (hd : st.done.contains k = false) (hu : st.under.contains k = false) : onceP S (n + 1) st k =
    (let r := (S.tk k).itr.run (onceP S n) ⟨st.vals, st.done, st.under ++ [k]⟩
     if r.1.2 = true then ((r.1.1, true), ⟨r.2.vals.set k.toNat r.1.1, r.2.done ++ [k], st.under⟩) else ((0, false), ⟨r.2.vals, r.2.done, st.under⟩)) := by
  rw [onceP, if_neg (by simp [h]), if_neg (by simp only [hd]; decide), if_neg (by simp only [hu]; decide)]
theorem onceP_zero (S : Sh) (n : Nat) (st : OSt) (k : Int) : (onceP S n st k).1.2 = false → (onceP S n st k).1.1 = 0 := by
  intro h
  unfold onceP at h ⊢
  split
  · rename_i h1; rw [if_pos h1] at h; cases h
  · rename_i h1
    rw [if_neg h1] at h
    split
    · rename_i h2; rw [if_pos h2] at h; cases h
    · rename_i h2
      rw [if_neg h2] at h
      split
      · rfl
      · rename_i h3
        rw [if_neg h3] at h
        cases n with
        | zero => rfl
        | succ n =>
          dsimp only at h ⊢
          split
          · rename_i h4; rw [if_pos h4] at h; cases h
          · rfl
/-- what is kept: of what a step of the reference's way -/
structure OInv (S : Sh) (n : Nat) (st : OSt) : Prop where
  vlen : st.vals.length = S.made.length
  vals : ∀ x ∈ st.vals, 0 ≤ x ∧ x ≤ 96
  done : st.done.length ≤ S.made.length
  nodup : st.done.Nodup
  range : ∀ x ∈ st.done, 0 ≤ x ∧ x < S.made.length
  under : UOk S n st.under
  apart : ∀ x ∈ st.under, x ∉ st.done
theorem OInv.at {S : Sh} {n : Nat} {st : OSt} (h : OInv S n st) (k : Int) : 0 ≤ atK st.vals k ∧ atK st.vals k ≤ 96 := by
  unfold atK
  split
  · omega
  · by_cases h1 : k.toNat < st.vals.length
    · rw [getD_at _ h1]; exact h.vals _ (List.getElem_mem _)
    · rw [getD_out _ (by omega)]; omega
theorem onceP_inv {S : Sh} (hS : S.Ok) : ∀ (n : Nat) (st : OSt) (k : Int), OInv S n st → OInv S n (onceP S n st k).2 ∧ (onceP S n st k).2.under = st.under ∧ 0 ≤ (onceP S n st k).1.1 ∧ (onceP S n st k).1.1 ≤ 96 := by
  intro n
  induction n with
  | zero =>
    intro st k hi
    cases hm : mkK S.made k with
    | false => rw [onceP_unmade hm]; exact ⟨hi, rfl, hi.at k⟩
    | true =>
      cases hd : st.done.contains k with
      | true => rw [onceP_done hm hd]; exact ⟨hi, rfl, hi.at k⟩
      | false =>
        cases hu : st.under.contains k with
        | true => rw [onceP_under hm hd hu]; exact ⟨hi, rfl, by simp, by simp⟩
        | false =>
          have : onceP S 0 st k = ((0, false), st) := by rw [onceP, if_neg (by simp [hm]), if_neg (by simp only [hd]; decide), if_neg (by simp only [hu]; decide)]
          rw [this]; exact ⟨hi, rfl, by simp, by simp⟩
  | succ n ih =>
    intro st k hi
    cases hm : mkK S.made k with
    | false => rw [onceP_unmade hm]; exact ⟨hi, rfl, hi.at k⟩
    | true =>
      cases hd : st.done.contains k with
      | true => rw [onceP_done hm hd]; exact ⟨hi, rfl, hi.at k⟩
      | false =>
        cases hu : st.under.contains k with
        | true => rw [onceP_under hm hd hu]; exact ⟨hi, rfl, by simp, by simp⟩
        | false =>
          have hkr := mkK_range (show mkK S.made k ≠ false by rw [hm]; simp)
          have hkd : k ∉ st.done := by simpa using hd
          have hku : k ∉ st.under := by simpa using hu
          rw [onceP_new hm hd hu]
          have h1 : OInv S n ⟨st.vals, st.done, st.under ++ [k]⟩ := ⟨hi.vlen, hi.vals, hi.done, hi.nodup, hi.range, hi.under.push hku hkr, fun x hx => (List.mem_append.1 hx).elim (hi.apart x) (fun e => by rw [List.mem_singleton.1 e]; exact hkd)⟩
          have hk := Itr.run_keeps (f := onceP S n) (J := fun s => OInv S n s ∧ s.under = st.under ++ [k]) (fun s j h _ _ => ⟨(ih s j h.1).1, ((ih s j h.1).2.1).trans h.2⟩) (S.tk k).itr ⟨st.vals, st.done, st.under ++ [k]⟩ (Tk.itr_ok _ (tk_ok hS k)) ⟨h1, rfl⟩
          have hv : 0 ≤ ((S.tk k).itr.run (onceP S n) ⟨st.vals, st.done, st.under ++ [k]⟩).1.1 ∧ ((S.tk k).itr.run (onceP S n) ⟨st.vals, st.done, st.under ++ [k]⟩).1.1 ≤ 96 := by
            rw [← Tk.run_itr _ (onceP_zero S n)]
            exact Tk.run_value (J := fun s => OInv S n s) (fun s j h _ _ => (ih s j h).1) (fun s j h _ _ => (ih s j h).2.2) (S.tk k) _ (tk_ok hS k) h1
          generalize (S.tk k).itr.run (onceP S n) ⟨st.vals, st.done, st.under ++ [k]⟩ = r at *
          obtain ⟨h2, h3⟩ := hk
          have hkd2 : k ∉ r.2.done := h2.apart k (by rw [h3]; simp)
          have hap : ∀ x ∈ st.under, x ∉ r.2.done := fun x hx => h2.apart x (by rw [h3]; simp [hx])
          dsimp only
          split
          · refine ⟨⟨by simpa using h2.vlen, fun x hx => ?_, ?_, ?_, fun x hx => ?_, hi.under, fun x hx hx2 => ?_⟩, rfl, hv⟩
            · rcases List.mem_or_eq_of_mem_set hx with hx | rfl
              · exact h2.vals x hx
              · exact hv
            · refine nodup_bound ?_ (fun x hx => ?_)
              · rw [List.nodup_append]
                exact ⟨h2.nodup, by simp, fun a ha b hb => by simp only [List.mem_singleton] at hb; subst hb; intro e; exact hkd2 (e ▸ ha)⟩
              · rcases List.mem_append.1 hx with hx | hx
                · exact h2.range x hx
                · rw [List.mem_singleton.1 hx]; exact hkr
            · rw [List.nodup_append]
              exact ⟨h2.nodup, by simp, fun a ha b hb => by simp only [List.mem_singleton] at hb; subst hb; intro e; exact hkd2 (e ▸ ha)⟩
            · rcases List.mem_append.1 hx with hx | hx
              · exact h2.range x hx
              · rw [List.mem_singleton.1 hx]; exact hkr
            · rcases List.mem_append.1 hx2 with hx2 | hx2
              · exact hap x hx hx2
              · rw [List.mem_singleton.1 hx2] at hx; exact hku hx
          · exact ⟨⟨h2.vlen, h2.vals, h2.done, h2.nodup, h2.range, hi.under, hap⟩, rfl, by simp, by simp⟩

/-! the same as the program's maker -/
structure ORel (S : Sh) (st : MkSt) (o : OSt) : Prop where
  done : o.done = st.order
  under : o.under = st.open_
  vlen : o.vals.length = S.made.length
  unmade : ∀ k, mkK S.made k = false → atK o.vals k = atK S.inputs k
  has : ∀ k, mkK S.made k = true → (k ∈ st.order ↔ st.known k ≠ none)
  val : ∀ k v, st.known k = some v → mkK S.made k = true ∧ atK o.vals k = v
theorem atK_set {xs : List Int} {k j : Int} {v : Int} (hk : 0 ≤ k ∧ k < xs.length) : atK (xs.set k.toNat v) j = if j = k then v else atK xs j := by
  obtain ⟨q, rfl⟩ := Int.eq_ofNat_of_zero_le hk.1
  rw [Int.toNat_natCast]
  unfold atK
  by_cases e : j = (q : Int)
  · subst e
    rw [if_pos rfl, if_neg (by omega), Int.toNat_natCast, getD_at _ (by simp; omega)]
    simp
  · rw [if_neg e]
    split
    · rfl
    · by_cases hj : j.toNat < xs.length
      · rw [getD_at _ (by simpa using hj), getD_at _ hj, List.getElem_set_ne (by omega)]
      · rw [getD_out _ (by simp; omega), getD_out _ (by omega)]
theorem once_same {S : Sh} (hS : S.Ok) : ∀ (n : Nat) (st : MkSt) (o : OSt) (k : Int), Inv S n st → ORel S st o →
    (keyP S n st k).1 = (onceP S n o k).1 ∧ ((keyP S n st k).1.2 = true → ORel S (keyP S n st k).2 (onceP S n o k).2) := by
  intro n
  induction n with
  | zero =>
    intro st o k hi hR
    cases hm : mkK S.made k with
    | false => rw [keyP_unmade hm, onceP_unmade hm]; exact ⟨by rw [hR.unmade k hm], fun _ => hR⟩
    | true =>
      cases hkn : st.known k with
      | some v =>
        have hd : o.done.contains k = true := by rw [hR.done]; simp [(hR.has k hm).2 (by rw [hkn]; simp)]
        rw [keyP_known hm hkn, onceP_done hm hd]
        exact ⟨by rw [(hR.val k v hkn).2], fun _ => hR⟩
      | none =>
        have hd : o.done.contains k = false := by
          rw [hR.done]
          cases h : st.order.contains k with
          | false => rfl
          | true => exact ((hR.has k hm).1 (by simpa using h) hkn).elim
        by_cases ho : 0 ≤ idx (fun x => k == x) st.open_
        · have hu : o.under.contains k = true := by
            rw [hR.under]
            cases h : st.open_.contains k with
            | true => rfl
            | false => exact (idx_not_mem (by simpa using h) ho).elim
          rw [keyP_opened hm hkn ho, onceP_under hm hd hu]
          exact ⟨rfl, fun h => by cases h⟩
        · have hu : o.under.contains k = false := by
            rw [hR.under]; simpa using not_open ho
          have e1 : keyP S 0 st k = ((0, false), st) := by unfold keyP; rw [if_neg (by simp [hm]), hkn]; simp only; rw [if_neg ho]
          have e2 : onceP S 0 o k = ((0, false), o) := by rw [onceP, if_neg (by simp [hm]), if_neg (by simp only [hd]; decide), if_neg (by simp only [hu]; decide)]
          rw [e1, e2]
          exact ⟨rfl, fun h => by cases h⟩
  | succ n ih =>
    intro st o k hi hR
    cases hm : mkK S.made k with
    | false => rw [keyP_unmade hm, onceP_unmade hm]; exact ⟨by rw [hR.unmade k hm], fun _ => hR⟩
    | true =>
      cases hkn : st.known k with
      | some v =>
        have hd : o.done.contains k = true := by rw [hR.done]; simp [(hR.has k hm).2 (by rw [hkn]; simp)]
        rw [keyP_known hm hkn, onceP_done hm hd]
        exact ⟨by rw [(hR.val k v hkn).2], fun _ => hR⟩
      | none =>
        have hd : o.done.contains k = false := by
          rw [hR.done]
          cases h : st.order.contains k with
          | false => rfl
          | true => exact ((hR.has k hm).1 (by simpa using h) hkn).elim
        by_cases ho : 0 ≤ idx (fun x => k == x) st.open_
        · have hu : o.under.contains k = true := by
            rw [hR.under]
            cases h : st.open_.contains k with
            | true => rfl
            | false => exact (idx_not_mem (by simpa using h) ho).elim
          rw [keyP_opened hm hkn ho, onceP_under hm hd hu]
          exact ⟨rfl, fun h => by cases h⟩
        · have hu : o.under.contains k = false := by
            rw [hR.under]; simpa using not_open ho
          have hkr := mkK_range (show mkK S.made k ≠ false by rw [hm]; simp)
          have hi1 := inv_push hi hkr hkn (not_open ho)
          have hR1 : ORel S { st with open_ := st.open_ ++ [k] } ⟨o.vals, o.done, o.under ++ [k]⟩ := ⟨hR.done, by simp only [hR.under], hR.vlen, hR.unmade, hR.has, hR.val⟩
          have hrel := Itr.run_rel (f := keyP S n) (g := onceP S n) (R := fun s c => Inv S n s ∧ ORel S s c ∧ s.open_ = st.open_ ++ [k]) (fun s c j h _ _ => by
            obtain ⟨a, b⟩ := ih s c j h.1 h.2.1
            have hv := keyP_inv hS n s j h.1
            exact ⟨a, fun hok => ⟨hv.1, b hok, (hv.2.1 hok).trans h.2.2⟩⟩) (S.tk k).itr { st with open_ := st.open_ ++ [k] } ⟨o.vals, o.done, o.under ++ [k]⟩ (Tk.itr_ok _ (tk_ok hS k)) ⟨hi1, hR1, rfl⟩
          rw [keyP_new hm hkn ho, onceP_new hm hd hu, Tk.run_itr _ (keyP_zero S n)]
          generalize (S.tk k).itr.run (keyP S n) { st with open_ := st.open_ ++ [k] } = r at *
          generalize (S.tk k).itr.run (onceP S n) ⟨o.vals, o.done, o.under ++ [k]⟩ = q at *
          obtain ⟨h1, h2⟩ := hrel
          dsimp only
          rw [← h1]
          by_cases hok : r.1.2 = true
          · obtain ⟨g1, g2, g3⟩ := h2 hok
            rw [if_pos hok, if_pos hok]
            refine ⟨rfl, fun _ => ⟨by simp only [g2.done], by simp only [g3, List.dropLast_concat]; exact hR.under, by simpa using g2.vlen, fun j hj => ?_, fun j hj => ?_, fun j v hv => ?_⟩⟩
            · rw [atK_set (by rw [g2.vlen]; exact hkr), if_neg (fun e => by rw [e, hm] at hj; cases hj)]
              exact g2.unmade j hj
            · simp only [List.mem_append, List.mem_singleton, upd]
              by_cases e : j = k
              · simp [e]
              · rw [if_neg e]
                have := g2.has j hj
                simp only [e, or_false]; exact this
            · simp only [upd] at hv
              rw [atK_set (by rw [g2.vlen]; exact hkr)]
              by_cases e : j = k
              · rw [if_pos e] at hv ⊢; cases hv; exact ⟨by rw [e]; exact hm, rfl⟩
              · rw [if_neg e] at hv ⊢; exact g2.val j v hv
          · rw [if_neg hok, if_neg hok]
            exact ⟨rfl, fun h => by cases h⟩

/-! keys, one after another -/
def suspL (S : Sh) : List Int → MkSt → List Int × Bool
  | [], st => (st.order, true)
  | k :: ks, st => if (keyP S S.made.length st k).1.2 = true then suspL S ks (keyP S S.made.length st k).2 else ([], false)
def onceL (S : Sh) : List Int → OSt → List Int × Bool
  | [], st => (st.done, true)
  | k :: ks, st => if (onceP S S.made.length st k).1.2 = true then onceL S ks (onceP S S.made.length st k).2 else ([], false)
def suspP (S : Sh) (keys : List Int) : List Int × Bool := suspL S keys st0
def ost0 (S : Sh) : OSt := ⟨S.inputs, [], []⟩
theorem orel0 {S : Sh} (hS : S.Ok) : ORel S st0 (ost0 S) := ⟨rfl, rfl, hS.ins, fun _ _ => rfl, fun k _ => by simp [st0], fun k v h => by cases h⟩
theorem oinv0 {S : Sh} (hS : S.Ok) : OInv S S.made.length (ost0 S) := ⟨hS.ins, hS.vals, by simp [ost0], List.nodup_nil, fun x hx => (by cases hx), uok0 S, fun x hx => (by cases hx)⟩
theorem suspL_same {S : Sh} (hS : S.Ok) : ∀ (ks : List Int) (st : MkSt) (o : OSt), Inv S S.made.length st → ORel S st o → suspL S ks st = onceL S ks o := by
  intro ks
  induction ks with
  | nil => intro st o _ hR; rw [suspL, onceL, hR.done]
  | cons k ks ih =>
    intro st o hi hR
    obtain ⟨h1, h2⟩ := once_same hS S.made.length st o k hi hR
    rw [suspL, onceL, ← h1]
    by_cases hok : (keyP S S.made.length st k).1.2 = true
    · rw [if_pos hok, if_pos hok]
      exact ih _ _ (keyP_inv hS _ _ _ hi).1 (h2 hok)
    · rw [if_neg hok, if_neg hok]
theorem susp_same {S : Sh} (hS : S.Ok) (keys : List Int) : suspP S keys = onceL S keys (ost0 S) := suspL_same hS keys st0 (ost0 S) (inv0 S) (orel0 hS)
theorem suspL_length {S : Sh} (hS : S.Ok) : ∀ (ks : List Int) (st : MkSt), Inv S S.made.length st → (suspL S ks st).1.length ≤ 10 := by
  intro ks
  induction ks with
  | nil => intro st hi; rw [suspL]; have := inv_order hi; have := hS.ten; simp only []; omega
  | cons k ks ih =>
    intro st hi
    rw [suspL]
    split
    · exact ih _ (keyP_inv hS _ _ _ hi).1
    · simp
/-- whether all keys are ones of a sheet of n keys -/
def keysOk (n : Nat) (keys : List Int) : Bool := keys.all fun k => decide (0 ≤ k ∧ k < n)
theorem keysOk_iff {n : Nat} {keys : List Int} : keysOk n keys = true ↔ ∀ k ∈ keys, 0 ≤ k ∧ k < n := by
  unfold keysOk
  rw [List.all_eq_true]
  simp
end Go.Proofs.Ytpccgdkidnkppaa
