import Derived.Test.YtagmdljdcnmpdaaProg
import Derived.Test.YtagmdljdcnmpdaaBase
import Derived.Maps.OwnSet
import Derived.Deep.AppendLies
import Derived.WalkSpells
import Derived.Deep.RegionLaw
set_option linter.unusedVariables false
set_option linter.unusedSimpArgs false
namespace Go.Proofs.Ytagmdljdcnmpdaa
open Go Go.RowKit

/-! rows that a call owns -/
def ints (xs : List Int) : List Value := xs.map fun x => Value.int .i64 x
theorem ints_length (xs : List Int) : (ints xs).length = xs.length := by simp [ints]
theorem ints_append (xs ys : List Int) : ints (xs ++ ys) = ints xs ++ ints ys := by simp [ints]

/-- what is known of an element's type -/
structure ElemTy (P : Program) (t e : TypeId) (z : Value) (size bytes : Nat) : Prop where
  ht : P.underlying t = some (.slice e)
  hi : (P.info? e).map (fun i => (i.zero, i.size, i.bytes)) = some (some z, size, bytes)
  hz : z.cells.size = size
  hs : 0 < size

/-- 'append(s, x)' of one element that was laid into block N -/
theorem wpList_app1 {P : Program} {w : World} {ops : Array Oper} {rest : List Oper} {o : Oper} {a : Act} {Q : Exit → Act → World → Prop} (hgd : o.guard = none) (s x : Operand) (t : TypeId)
    (ho : o.op = .call { callee := .builtin .append, args := #[s, x], argTypes := #[t, t] })
    {e : TypeId} {z : Value} {size bytes : Nat} (hE : ElemTy P t e z size bytes) (base : Nat)
    (v : Value) (n : Nat) (xs : List Value) (hs : a.eval s = v) (hown : w.ownsRow base e size v n xs)
    (N c : Nat) (news : List Value) (hx : a.eval x = .slice (some ⟨N, 0, none⟩) 1 c) (hl : news.length = size) (hnews : ∃ cs fr, w.heap[N]? = some (.cells cs e fr) ∧ cs.toList = news) (h1 : ∀ u ∈ news, u.oneCell' = true)
    (h63 : n + 1 ≤ maxLen) (hbytes : (n + 1) * bytes ≤ 140737488355328) (hbase : base ≤ w.heap.size)
    (h : ∀ g cap w', w'.ownsRow base e size (.slice (some ⟨g, 0, none⟩) (n + 1) cap) (n + 1) (xs ++ news) → w.grownBy w' v.ownBlock → (v.ownBlock = some g ∨ g = w.heap.size) → wpList P ops Q rest (a.put o.dst (.slice (some ⟨g, 0, none⟩) (n + 1) cap)) w') : wpList P ops Q (o :: rest) a w := by
  obtain ⟨i, hi, hz0, hz1, hz2⟩ := info_parts hE.hi
  obtain ⟨cs, fr, hN, rfl⟩ := hnews
  exact wpList_append_lies w hgd s x t ho base e i z size bytes hE.ht hi hz0 hz1 hz2 hE.hz hE.hs v n xs hs hown ⟨N, 0, none⟩ 1 c cs.toList hx (by simpa using hl) (World.news_of_block hN) h1 (by omega) h63 hbytes hbase _ rfl
    (fun g cap w' h2 h3 h4 _ => h g cap w' h2 h3 h4)

/-- 'append(s, x...)' -/
theorem wpList_appN {P : Program} {w : World} {ops : Array Oper} {rest : List Oper} {o : Oper} {a : Act} {Q : Exit → Act → World → Prop} (hgd : o.guard = none) (s x : Operand) (t : TypeId)
    (ho : o.op = .call { callee := .builtin .append, args := #[s, x], argTypes := #[t, t] })
    {e : TypeId} {z : Value} {size bytes : Nat} (hE : ElemTy P t e z size bytes) (base : Nat)
    (v : Value) (n : Nat) (xs : List Value) (hs : a.eval s = v) (hown : w.ownsRow base e size v n xs)
    (ad : Addr) (m c : Nat) (news : List Value) (hx : a.eval x = .slice (some ad) m c) (hl : news.length = m * size) (hnews : ∀ j u, news[j]? = some u → w.cell? (ad.add j) = some u) (h1 : ∀ u ∈ news, u.oneCell' = true)
    (h63 : n + m ≤ maxLen) (hbytes : (n + m) * bytes ≤ 140737488355328) (hbase : base ≤ w.heap.size)
    (h : ∀ v' w', w'.ownsRow base e size v' (n + m) (xs ++ news) → w.grownBy w' v.ownBlock → (v'.ownBlock = v.ownBlock ∨ v'.ownBlock = some w.heap.size) → wpList P ops Q rest (a.put o.dst v') w') : wpList P ops Q (o :: rest) a w := by
  obtain ⟨i, hi, hz0, hz1, hz2⟩ := info_parts hE.hi
  exact wpList_append_own_at w hgd s x t ho base e i z size bytes hE.ht hi hz0 hz1 hz2 hE.hz hE.hs v n xs hs hown ad m c news hx hl hnews h1 h63 hbytes hbase
    (fun v' w' h2 h3 _ h4 => h v' w' h2 h3 h4)

/-- .. at a step of a region that draws its order -/
theorem step_app1 {P : Program} {w : World} {ops : Array Oper} {o : Oper} {a : Act} {K : Act → World → Prop} {Q : Exit → Act → World → Prop} {X : Prop} (hgd : o.guard = none) (s x : Operand) (t : TypeId)
    (ho : o.op = .call { callee := .builtin .append, args := #[s, x], argTypes := #[t, t] })
    {e : TypeId} {z : Value} {size bytes : Nat} (hE : ElemTy P t e z size bytes) (base : Nat)
    (v : Value) (n : Nat) (xs : List Value) (hs : a.eval s = v) (hown : w.ownsRow base e size v n xs)
    (N c : Nat) (news : List Value) (hx : a.eval x = .slice (some ⟨N, 0, none⟩) 1 c) (hl : news.length = size) (hnews : ∃ cs fr, w.heap[N]? = some (.cells cs e fr) ∧ cs.toList = news) (h1 : ∀ u ∈ news, u.oneCell' = true)
    (h63 : n + 1 ≤ maxLen) (hbytes : (n + 1) * bytes ≤ 140737488355328) (hbase : base ≤ w.heap.size)
    (h : ∀ g cap w', w'.ownsRow base e size (.slice (some ⟨g, 0, none⟩) (n + 1) cap) (n + 1) (xs ++ news) → w.grownBy w' v.ownBlock → (v.ownBlock = some g ∨ g = w.heap.size) → K (a.put o.dst (.slice (some ⟨g, 0, none⟩) (n + 1) cap)) w') :
    if Region.wanted o (yielded ops a.tmps) = true then Oper.wp P o a w K Q else X := by
  obtain ⟨i, hi, hz0, hz1, hz2⟩ := info_parts hE.hi
  obtain ⟨cs, fr, hN, rfl⟩ := hnews
  exact step_append_lies w hgd s x t ho base e i z size bytes hE.ht hi hz0 hz1 hz2 hE.hz hE.hs v n xs hs hown ⟨N, 0, none⟩ 1 c cs.toList hx (by simpa using hl) (World.news_of_block hN) h1 (by omega) h63 hbytes hbase _ rfl
    (fun g cap w' h2 h3 h4 _ => h g cap w' h2 h3 h4)
theorem one_int (k : IntKind) (q : Int) : ∀ u ∈ [Value.int k q], u.oneCell' = true := by
  intro u hu
  simp only [List.mem_singleton] at hu
  subst hu; rfl
theorem one_ints (xs : List Int) : ∀ u ∈ ints xs, u.oneCell' = true := by
  intro u hu
  simp only [ints, List.mem_map] at hu
  obtain ⟨x, _, rfl⟩ := hu
  rfl
theorem ownsRow_block {w w' : World} {base : Nat} {e : TypeId} {size : Nat} {v : Value} {n : Nat} {xs : List Value} (h : w.ownsRow base e size v n xs) (hk : ∀ i, v.ownBlock = some i → w'.heap[i]? = w.heap[i]?) : w'.ownsRow base e size v n xs := by
  refine ⟨h.1, ?_⟩
  rcases h.2 with hn | ⟨g, cap, cur, rfl, hb, hgg, rest⟩
  · exact .inl hn
  · exact .inr ⟨g, cap, cur, rfl, hb, by rw [hk g rfl]; exact hgg, rest⟩
/-- a row of elements of one type lies in no block of another kind -/
theorem ownsRow_ne {w : World} {base : Nat} {e : TypeId} {size : Nat} {v : Value} {n : Nat} {xs : List Value} (h : w.ownsRow base e size v n xs) {i : Nat} {ob : Obj} (hi : w.heap[i]? = some ob) (hne : ∀ c, ob ≠ .cells c e (0, 0)) : v.ownBlock ≠ some i := by
  intro hv
  rcases h.2 with ⟨rfl, _⟩ | ⟨g, cap, cur, rfl, hb, hgg, rest⟩
  · cases hv
  · cases hv; rw [hi] at hgg; cases hgg; exact hne cur rfl
/-- an owned row of numbers is a slice to read -/
theorem ownsRow_ints {w : World} {base : Nat} {e : TypeId} {v : Value} {xs : List Int} (h : w.ownsRow base e 1 v xs.length (ints xs)) : ∃ A c, v = .slice A xs.length c ∧ xs.length ≤ c ∧ c ≤ maxLen ∧ IntsAt w.heap.size w A xs := by
  have hlt := h.lt
  rcases h.2 with ⟨rfl, h0⟩ | ⟨g, cap, cur, rfl, hb, hgg, hc, hm, hsz, htake⟩
  · obtain rfl := List.eq_nil_of_length_eq_zero h0
    exact ⟨none, 0, rfl, Nat.le_refl _, by simp [maxLen], RowAt.nil _ _ _ _⟩
  · refine ⟨_, _, rfl, hc, hm, fun i hi => ⟨g, 0, rfl, (hlt g rfl).2, ?_⟩⟩
    have := h.cells (g := g) rfl i (.int .i64 xs[i]) (by simp [ints, hi])
    rw [Addr.add_lit] at this
    exact this

/-! maps from int to int -/
def MapIs (P : Program) (tk te : TypeId) (w : World) (b n : Nat) (f : Int → Option Int) : Prop :=
  ∃ D, w.ownsMap (H := Unit) P tk (plainElem P te) b n D ∧ ∀ k : Int, (Lit.int .i64 k).wf = true → Maps.has D (.int .i64 k) = (f k).isSome ∧ D.atKey (.int .i64 k) (.lit (.int .i64 0)) = .lit (.int .i64 ((f k).getD 0))
structure MapTy (P : Program) (t tk te : TypeId) : Prop where
  ht : P.underlying t = some (.map tk te)
  hk : P.underlying tk = some (.int .i64)
  he : P.underlying te = some (.int .i64)
  hz : ∀ w, (zeroValue te).run P w = .ok (.int .i64 0) w
theorem MapIs.new (P : Program) (tk te : TypeId) (w : World) : MapIs P tk te (w.alloc (.map #[] 0)) w.heap.size 0 (fun _ => none) :=
  ⟨.map [], World.ownsMap_made _ _ _ _, fun k _ => ⟨rfl, rfl⟩⟩
theorem MapIs.block {P : Program} {tk te : TypeId} {w w' : World} {b n : Nat} {f : Int → Option Int} (h : MapIs P tk te w b n f) (hb : w'.heap[b]? = w.heap[b]?) : MapIs P tk te w' b n f := by
  obtain ⟨D, ⟨es, clock, h1, h2⟩, h3⟩ := h
  exact ⟨D, ⟨es, clock, hb.trans h1, h2⟩, h3⟩
theorem MapIs.isMap {P : Program} {tk te : TypeId} {w : World} {b n : Nat} {f : Int → Option Int} (h : MapIs P tk te w b n f) : ∃ es c, w.heap[b]? = some (.map es c) := by
  obtain ⟨D, ⟨es, clock, h1, h2⟩, h3⟩ := h
  exact ⟨_, _, h1⟩
theorem wpList_mapget {P : Program} {w : World} {ops : Array Oper} {rest : List Oper} {o : Oper} {a : Act} {Q : Exit → Act → World → Prop} (hgd : o.guard = none) (m x : Operand) (t : TypeId) (ho : o.op = Op.lookup t m x true)
    {tk te : TypeId} (hT : MapTy P t tk te) (b n : Nat) (f : Int → Option Int) (hm : a.eval m = .map (some b)) (hM : MapIs P tk te w b n f) (k : Int) (hx : a.eval x = .int .i64 k) (hw : (Lit.int .i64 k).wf = true)
    (h : wpList P ops Q rest (a.put o.dst (.tuple #[.int .i64 ((f k).getD 0), .bool (f k).isSome])) w) : wpList P ops Q (o :: rest) a w := by
  obtain ⟨D, hD, hf⟩ := hM
  refine wpList_lookup_own_ok_int (H := Unit) w hgd m x t ho tk te .i64 (Maps.int_keyed hT.hk) hT.ht hT.he (hT.hz w) b n D hm hD _ _ hx (Maps.keyOf_int_mk hT.hk hw) ?_
  intro c hc _
  rw [(hf k hw).2] at hc
  injection hc with hc; injection hc with _ hc
  rw [(hf k hw).1, ← hc]
  exact h
theorem wpList_mapput {P : Program} {w : World} {ops : Array Oper} {rest : List Oper} {o : Oper} {a : Act} {Q : Exit → Act → World → Prop} (hgd : o.guard = none) (m x v : Operand) (t : TypeId) (ho : o.op = Op.mapUpdate t m x v)
    {tk te : TypeId} (hT : MapTy P t tk te) (b n : Nat) (f : Int → Option Int) (hm : a.eval m = .map (some b)) (hM : MapIs P tk te w b n f) (hn : n < maxLen) (k y : Int) (hx : a.eval x = .int .i64 k) (hv : a.eval v = .int .i64 y) (hw : (Lit.int .i64 k).wf = true) (hwy : (Lit.int .i64 y).wf = true)
    (h : ∀ w', MapIs P tk te w' b (n + 1) (fun j => if j = k then some y else f j) → w.grownBy w' (some b) → wpList P ops Q rest (a.put o.dst undef) w') : wpList P ops Q (o :: rest) a w := by
  obtain ⟨D, hD, hf⟩ := hM
  have hI := hD.isMap
  have hkey := Maps.keyOf_int_mk hT.hk hw
  refine wpList_mapUpdate_own (H := Unit) w hgd m x v t ho tk te (Maps.int_keyed hT.hk) hT.ht _ b n D hm hD hn _ _ _ hx hv hkey _ [] (plainElem_int hT.he hwy) ?_
  intro w' h1 h2
  refine h w' ⟨_, h1, fun j hj => ?_⟩ h2
  have hik : WideAt.IsKeyLit (Lit.int .i64 k) := by simp [WideAt.IsKeyLit]
  by_cases e : j = k
  · subst e
    simp [Maps.has_put_same hI hik, Maps.atKey_put_same hI hik]
  · have hne : (Lit.int .i64 j) ≠ (Lit.int .i64 k) := by simp [e]
    rw [Maps.has_put_other hne, Maps.atKey_put_other hne]
    simpa [e] using hf j hj
theorem setCell_turn {F : Nat → Prop} {w : World} {a : Addr} (h : F a.block) (v : Value) : Turn F F w (w.setCell a v) :=
  ⟨rfl, rfl, rfl, by simp [World.setCell], fun i _ hF => Below.heap_setCell _ _ _ _ (fun e => hF (e ▸ h)), fun _ h => .inl h⟩
theorem grown_turn {F F' : Nat → Prop} {w w' : World} {row : Option Nat} (h : w.grownBy w' row) (hr : ∀ k, row = some k → F k) (hF : ∀ i, F' i → F i ∨ w.heap.size ≤ i) : Turn F F' w w' :=
  ⟨h.os, h.tape, h.output, h.size, fun i hi hn => h.block i hi (fun e => hn (hr i e.symm)), hF⟩
theorem below_turn {F : Nat → Prop} {w w' : World} (h : Below w.heap.size w w') : Turn F F w w' := ⟨h.os, h.tape, h.output, h.size, fun i hi _ => h.block i hi, fun _ h => .inl h⟩
theorem heap_new {w : World} {o : Obj} {n : Nat} (h : n = w.heap.size) : (w.alloc o).heap[n]? = some o := h ▸ heap_alloc_new w o
theorem heap_old {w : World} {o : Obj} {n : Nat} (h : n < w.heap.size) : (w.alloc o).heap[n]? = w.heap[n]? := Below.heap_alloc w o n h
theorem cellm {w : World} {m : Nat} {cs : Array Value} {t : TypeId} {fr : Nat × Nat} (h : w.heap[m]? = some (.cells cs t fr)) (j : Nat) : w.cell? ⟨m, j, none⟩ = cs[j]? := cell_of_row w m j cs t fr h
theorem frozenm {w : World} {m : Nat} {cs : Array Value} {t : TypeId} (h : w.heap[m]? = some (.cells cs t (0, 0))) (j : Nat) : w.frozen? ⟨m, j, none⟩ = false := by
  simp [World.frozen?, h]
theorem setCell_block {w : World} {m : Nat} {cs : Array Value} {t : TypeId} {fr : Nat × Nat} (h : w.heap[m]? = some (.cells cs t fr)) (j : Nat) (v : Value) : (w.setCell ⟨m, j, none⟩ v).heap[m]? = some (.cells (cs.setIfInBounds j v) t fr) := by
  simp [World.setCell, Array.getElem?_modify, h]
theorem setCell_far {w : World} {m j : Nat} {v : Value} {k : Nat} (h : k ≠ m) : (w.setCell ⟨m, j, none⟩ v).heap[k]? = w.heap[k]? := Below.heap_setCell _ _ _ _ h
theorem own_far {v : Value} {i m : Nat} (h : v.ownBlock = some i) (hn : v.ownBlock ≠ some m) : i ≠ m := fun e => hn (e ▸ h)
theorem block_lt {w : World} {m : Nat} {ob : Obj} (h : w.heap[m]? = some ob) : m < w.heap.size := (Array.getElem?_eq_some_iff.1 h).1
/-- a block that an append to another row leaves as it was, the new element laid ahead -/
theorem far_grown {w w' : World} {o : Obj} {m : Nat} {row : Option Nat} (h : (w.alloc o).grownBy w' row) (hm : m < w.heap.size) (hr : row ≠ some m) : w'.heap[m]? = w.heap[m]? :=
  (h.block m (by simp; omega) (Ne.symm hr)).trans (heap_old hm)
theorem drew_heap (w : World) : w.drew.heap = w.heap := rfl
theorem far_grown_drew {w w' : World} {o : Obj} {m : Nat} {row : Option Nat} (h : (w.alloc o).drew.grownBy w' row) (hm : m < w.heap.size) (hr : row ≠ some m) : w'.heap[m]? = w.heap[m]? :=
  (h.block m (by simp; omega) (Ne.symm hr)).trans (heap_old hm)
end Go.Proofs.Ytagmdljdcnmpdaa
