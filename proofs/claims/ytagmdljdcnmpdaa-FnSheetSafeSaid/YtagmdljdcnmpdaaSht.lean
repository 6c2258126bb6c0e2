import Derived.Test.YtagmdljdcnmpdaaFit
import Derived.Test.YtagmdljdcnmpdaaInputs
set_option linter.unusedVariables false
set_option linter.unusedSimpArgs false
namespace Go.Proofs.Ytagmdljdcnmpdaa
open Go Go.RowKit

theorem boolTy : ElemTy Try.prog 23 4 (.bool false) 1 1 := ⟨Try.underlying23, by kernel_rfl, rfl, by omega⟩
theorem taskTy : ElemTy Try.prog 24 36 (.agg #[.int .i64 0, .int .i64 0, .slice none 0 0]) 3 40 := ⟨Try.underlying24, by kernel_rfl, rfl, by omega⟩

def bools (l : List Bool) : List Value := l.map fun b => Value.bool b
def cells3 (l : List (Value × Value × Value)) : List Value := l.flatMap fun t => [t.1, t.2.1, t.2.2]
theorem cells3_length (l : List (Value × Value × Value)) : (cells3 l).length = l.length * 3 := by
  induction l with
  | nil => rfl
  | cons t l ih => simp only [cells3, List.flatMap_cons, List.length_append, List.length_cons, List.length_nil] at *; omega
theorem cells3_get : ∀ (l : List (Value × Value × Value)) (i : Nat) (h : i < l.length), (cells3 l)[i * 3]? = some l[i].1 ∧ (cells3 l)[i * 3 + 1]? = some l[i].2.1 ∧ (cells3 l)[i * 3 + 2]? = some l[i].2.2 := by
  intro l
  induction l with
  | nil => intro i h; simp at h
  | cons t l ih =>
    intro i h
    cases i with
    | zero => exact ⟨rfl, rfl, rfl⟩
    | succ i =>
      have := ih i (by simpa using h)
      rw [show (i + 1) * 3 = i * 3 + 3 by omega, show i * 3 + 3 + 1 = i * 3 + 1 + 3 by omega, show i * 3 + 3 + 2 = i * 3 + 2 + 3 by omega]
      exact this

/-- a drawn sheet: two rows, and the rows of parts that G tells of, in blocks from lo on -/
structure Sht (g B lo : Nat) (G : Rows) (made : List Bool) (ts : List (Value × Value × Value)) (vm vt : Value) (w : World) : Prop where
  om : w.ownsRow lo 4 1 vm made.length (bools made)
  ot : w.ownsRow lo 36 3 vt ts.length (cells3 ts)
  ty : TyH g B G w
  tv : ∀ t ∈ ts, TyV G 2 (.agg #[t.1, t.2.1, t.2.2])
  sep : ∀ i x, vt.ownBlock = some i → G i ≠ some x
  new : ∀ b x, G b = some x → lo ≤ b
  glo : g < lo
section
variable {g B lo : Nat} {G G2 : Rows} {made : List Bool} {ts : List (Value × Value × Value)} {vm vt : Value} {w w2 : World}
theorem Sht.mG (h : Sht g B lo G made ts vm vt w) (i : Nat) (x : Nat × Nat) (hi : vm.ownBlock = some i) : G i ≠ some x := by
  intro hx
  obtain ⟨_, _, cs, hb, _⟩ := h.ty i x.1 x.2 hx
  exact ownsRow_ne h.om hb (fun c e => by cases e) hi
theorem Sht.mt (h : Sht g B lo G made ts vm vt w) (i : Nat) (hi : vm.ownBlock = some i) : vt.ownBlock ≠ some i := by
  intro e
  have hlt := (h.ot.lt i e).2
  obtain ⟨ob, hob⟩ : ∃ ob, w.heap[i]? = some ob := ⟨w.heap[i], by simp [hlt]⟩
  by_cases hc : ∃ c, ob = .cells c 4 (0, 0)
  · obtain ⟨c, rfl⟩ := hc
    exact ownsRow_ne h.ot hob (fun c' e' => by cases e') e
  · exact ownsRow_ne h.om hob (fun c' e' => hc ⟨c', e'⟩) hi
theorem Sht.move (h : Sht g B lo G made ts vm vt w) {F F' : Nat → Prop} (t : Turn F F' w w2) (hF : ∀ i, F i → i = g ∨ dom G i) (he : Ext G G2 w.heap.size) (ty : TyH g B G2 w2) (hlo : lo ≤ w.heap.size) : Sht g B lo G2 made ts vm vt w2 :=
  ⟨ownsRow_block h.om (fun i hi => t.block i (h.om.lt i hi).2 (fun hf => (hF i hf).elim (fun e => by have := (h.om.lt i hi).1; have := h.glo; omega) (fun ⟨x, hx⟩ => h.mG i x hi hx))),
   ownsRow_block h.ot (fun i hi => t.block i (h.ot.lt i hi).2 (fun hf => (hF i hf).elim (fun e => by have := (h.ot.lt i hi).1; have := h.glo; omega) (fun ⟨x, hx⟩ => h.sep i x hi hx))),
   ty, fun t ht => (h.tv t ht).ext he (Nat.le_refl _), fun i x hi hx => (he.new i x hx).elim (h.sep i x hi) (fun hn => by have := (h.ot.lt i hi).2; omega),
   fun b x hx => (he.new b x hx).elim (h.new b x) (fun hn => by omega), h.glo⟩
theorem Sht.pick (h : Sht g B lo G made ts vm vt w) {F' : Nat → Prop} (t : Turn (· = g) F' w w2) (hlo : lo ≤ w.heap.size) : Sht g B lo G made ts vm vt w2 :=
  h.move t (fun i e => .inl e) (Ext.refl _ _) (h.ty.turng t) hlo
theorem Sht.set (h : Sht g B lo G made ts vm vt w) {b : Nat} (o : Nat) (v : Value) (h1 : vm.ownBlock ≠ some b) (h2 : vt.ownBlock ≠ some b) (h3 : ∀ x, G b ≠ some x) : Sht g B lo G made ts vm vt (w.setCell ⟨b, o, none⟩ v) :=
  ⟨ownsRow_block h.om (fun i hi => setCell_far (own_far hi h1)), ownsRow_block h.ot (fun i hi => setCell_far (own_far hi h2)), h.ty.set v h3, h.tv, h.sep, h.new, h.glo⟩
theorem Sht.app_made (h : Sht g B lo G made ts vm vt w) {v' : Value} {x : Bool} (hg : w.grownBy w2 vm.ownBlock) (ho : w2.ownsRow lo 4 1 v' (made.length + 1) (bools made ++ [.bool x])) : Sht g B lo G (made ++ [x]) ts v' vt w2 :=
  ⟨by simpa [bools] using ho, ownsRow_block h.ot (fun i hi => hg.block i (h.ot.lt i hi).2 (fun e => h.mt i e.symm hi)),
   fun b r m hb => by
     obtain ⟨h1, h2, cs, h3, h4⟩ := h.ty b r m hb
     exact ⟨h1, h2, cs, (hg.block b (block_lt h3) (fun e => h.mG b _ e.symm hb)).trans h3, h4⟩,
   h.tv, h.sep, h.new, h.glo⟩
theorem Sht.app_task (h : Sht g B lo G made ts vm vt w) {v' : Value} {x y z : Value} (hg : w.grownBy w2 vt.ownBlock) (ho : w2.ownsRow lo 36 3 v' (ts.length + 1) (cells3 ts ++ [x, y, z])) (hv : TyV G 2 (.agg #[x, y, z]))
    (hat : ∀ i, v'.ownBlock = some i → vt.ownBlock = some i ∨ i = w.heap.size) : Sht g B lo G made (ts ++ [(x, y, z)]) vm v' w2 :=
  ⟨ownsRow_block h.om (fun i hi => hg.block i (h.om.lt i hi).2 (fun e => h.mt i hi e.symm)), by simpa [cells3] using ho,
   fun b r m hb => by
     obtain ⟨h1, h2, cs, h3, h4⟩ := h.ty b r m hb
     exact ⟨h1, h2, cs, (hg.block b (block_lt h3) (fun e => h.sep b _ e.symm hb)).trans h3, h4⟩,
   fun t ht => (List.mem_append.1 ht).elim (h.tv t) (fun e => by rw [List.mem_singleton.1 e]; exact hv),
   fun i x hi hx => (hat i hi).elim (fun e => h.sep i x e hx) (fun e => by have := h.ty.lt hx; omega), h.new, h.glo⟩
theorem ownsRow_cells {base : Nat} {e : TypeId} {size : Nat} {v : Value} {n : Nat} {xs : List Value} (h : w.ownsRow base e size v n xs) : ∃ A c, v = .slice A n c ∧ n ≤ c ∧ c ≤ maxLen ∧ ∀ i (hi : i < xs.length), ∃ b, A = some ⟨b, 0, none⟩ ∧ b < w.heap.size ∧ w.cell? ⟨b, i, none⟩ = some xs[i] := by
  obtain ⟨h1, ⟨rfl, rfl⟩ | ⟨g, cap, cur, rfl, hb, hg, hn, hc, hs, ht⟩⟩ := h
  · exact ⟨none, 0, rfl, Nat.le_refl _, by simp [maxLen], fun i hi => by simp at h1; simp [h1] at hi⟩
  · refine ⟨_, cap, rfl, hn, hc, fun i hi => ⟨g, rfl, block_lt hg, ?_⟩⟩
    rw [cellm hg]
    have hxi : xs[i]? = some xs[i] := by simp
    rw [← hxi, ← ht, List.getElem?_take_of_lt (by omega)]
    simp
/-- .. read as a sheet -/
theorem Sht.reads (h : Sht g B lo G made ts vm vt w) : ∃ Am cm At ct tasks, vm = .slice Am made.length cm ∧ vt = .slice At tasks.length ct ∧ tasks.length = ts.length ∧ SheetAt w.heap.size w Am cm At ct made tasks ∧ ∀ T ∈ tasks, nodes T ≤ nb 2 := by
  obtain ⟨Am, cm, rfl, hm1, hm2, hm⟩ := ownsRow_cells h.om
  obtain ⟨At, ct, rfl, ht1, ht2, ht⟩ := ownsRow_cells h.ot
  have h1 : ∀ i, ∃ T, ∀ (hi : i < ts.length), TaskIs w.heap.size w (.agg #[ts[i].1, ts[i].2.1, ts[i].2.2]) T ∧ nodes T ≤ nb 2 := by
    intro i
    by_cases hi : i < ts.length
    · obtain ⟨T, hT⟩ := TyV.reads h.ty 2 _ (h.tv ts[i] (List.getElem_mem _))
      exact ⟨T, fun _ => hT⟩
    · exact ⟨default, fun hh => (hi hh).elim⟩
  obtain ⟨f, hf⟩ := Classical.axiomOfChoice h1
  have hl := cells3_length ts
  refine ⟨Am, cm, At, ct, (List.range ts.length).map f, rfl, by simp, by simp, ⟨hm1, hm2, by simpa using ht1, ht2, fun i hi => ?_, PartsIs.of_get (fun i hi => ?_)⟩, fun T hT => ?_⟩
  · obtain ⟨b, e, hb, hc⟩ := hm i (by simpa [bools] using hi)
    exact ⟨b, 0, e, hb, by rw [Nat.zero_add, hc]; simp [bools]⟩
  · have hi' : i < ts.length := by simpa using hi
    obtain ⟨k0, k1, k2⟩ := cells3_get ts i hi'
    obtain ⟨b, e, hb, c0⟩ := ht (i * 3) (by omega)
    obtain ⟨b1, e1, _, c1⟩ := ht (i * 3 + 1) (by omega)
    obtain ⟨b2, e2, _, c2⟩ := ht (i * 3 + 2) (by omega)
    subst e
    cases e1; cases e2
    refine ⟨b, 0, _, _, _, rfl, hb, ?_, ?_, ?_, by simpa using (hf i hi').1⟩
    · rw [Nat.zero_add, Nat.zero_add, c0, ← k0]; simp
    · rw [Nat.zero_add, Nat.zero_add, c1, ← k1]; simp
    · rw [Nat.zero_add, Nat.zero_add, c2, ← k2]; simp
  · obtain ⟨i, hi, rfl⟩ := List.mem_map.1 hT
    exact (hf i (by simpa using hi)).2
end
end Go.Proofs.Ytagmdljdcnmpdaa
