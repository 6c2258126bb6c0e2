import Derived.Test.YtagmdljdcnmpdaaMaps
set_option linter.unusedVariables false
set_option linter.unusedSimpArgs false
namespace Go.Proofs.Ytagmdljdcnmpdaa
open Go Go.RowKit

/-! an object in a block of its own, and what it owns: rows, maps, in blocks apart -/
structure Part where
  F : Nat → Prop
  P : World → Prop
structure Part.Ok (B : Nat) (p : Part) (w : World) : Prop where
  hold : p.P w
  bnd : ∀ i, p.F i → B ≤ i ∧ i < w.heap.size
  stab : ∀ w1 w2 : World, (∀ i, p.F i → w2.heap[i]? = w1.heap[i]?) → p.P w1 → p.P w2
def Foot (m : Nat) (ps : List Part) (i : Nat) : Prop := i = m ∨ ∃ p ∈ ps, p.F i
structure ObjAt (B : Nat) (w0 : World) (m : Nat) (T : TypeId) (cs : Array Value) (ps : List Part) (w : World) : Prop where
  blk : w.heap[m]? = some (.cells cs T (0, 0))
  ok : ∀ p ∈ ps, p.Ok B w
  ne : ∀ i j (hi : i < ps.length) (hj : j < ps.length), i ≠ j → ∀ b, ps[i].F b → ¬ ps[j].F b
  far : ∀ p ∈ ps, ¬ p.F m
  hm : B ≤ m
  below : Below B w0 w
  size : B ≤ w.heap.size
section
variable {B : Nat} {w0 : World} {m : Nat} {T : TypeId} {cs : Array Value} {ps : List Part} {w w' : World}
theorem ObjAt.bounds (h : ObjAt B w0 m T cs ps w) : ∀ i, Foot m ps i → B ≤ i ∧ i < w.heap.size := by
  intro i hi
  rcases hi with rfl | ⟨p, hp, hf⟩
  · exact ⟨h.hm, block_lt h.blk⟩
  · exact (h.ok p hp).bnd i hf
theorem Part.Ok.kept {p : Part} (h : p.Ok B w) (hk : ∀ i, p.F i → w'.heap[i]? = w.heap[i]?) (hs : w.heap.size ≤ w'.heap.size) : p.Ok B w' :=
  ⟨h.stab w w' hk h.hold, fun i hi => ⟨(h.bnd i hi).1, Nat.lt_of_lt_of_le (h.bnd i hi).2 hs⟩, h.stab⟩
theorem ObjAt.kept (h : ObjAt B w0 m T cs ps w) (hk : ∀ i, Foot m ps i → w'.heap[i]? = w.heap[i]?) (hb : Below B w0 w') (hs : w.heap.size ≤ w'.heap.size) : ObjAt B w0 m T cs ps w' :=
  ⟨(hk m (.inl rfl)).trans h.blk, fun p hp => (h.ok p hp).kept (fun i hi => hk i (.inr ⟨p, hp, hi⟩)) hs, h.ne, h.far, h.hm, hb, Nat.le_trans h.size hs⟩
theorem ObjAt.up (h : ObjAt B w0 m T cs ps w) (hb : Below w.heap.size w w') : ObjAt B w0 m T cs ps w' :=
  h.kept (fun i hi => hb.block i (h.bounds i hi).2) (below_up' h.below h.size hb) hb.size
theorem ObjAt.alloc (h : ObjAt B w0 m T cs ps w) (o : Obj) : ObjAt B w0 m T cs ps (w.alloc o) := h.up (below_al (Below.refl _ _) o)
theorem ObjAt.drew (h : ObjAt B w0 m T cs ps w) : ObjAt B w0 m T cs ps w.drew := h.up (Below.refl _ _).drew
/-- what else turned is apart from it -/
theorem ObjAt.aside (h : ObjAt B w0 m T cs ps w) {F F' : Nat → Prop} (t : Turn F F' w w') (hF : ∀ i, F i → B ≤ i ∧ ¬ Foot m ps i) : ObjAt B w0 m T cs ps w' :=
  h.kept (fun i hi => t.block i (h.bounds i hi).2 (fun hf => (hF i hf).2 hi)) (h.below.trans (t.below h.size (fun i hi => (hF i hi).1))) t.size
/-- a part turns into another one -/
theorem ObjAt.turn (h : ObjAt B w0 m T cs ps w) (i : Nat) (hi : i < ps.length) (p' : Part) (hp' : p'.P w') (hst : ∀ w1 w2 : World, (∀ i, p'.F i → w2.heap[i]? = w1.heap[i]?) → p'.P w1 → p'.P w2) (hlt : ∀ i, p'.F i → i < w'.heap.size) (t : Turn ps[i].F p'.F w w') :
    ObjAt B w0 m T cs (ps.set i p') w' ∧ Turn (Foot m ps) (Foot m (ps.set i p')) w w' := by
  have hin := List.getElem_mem hi
  have hfar : ∀ b, b < w.heap.size → ¬ ps[i].F b → w'.heap[b]? = w.heap[b]? := fun b hb hn => t.block b hb hn
  have hfr : ∀ b, p'.F b → ps[i].F b ∨ w.heap.size ≤ b := t.fresh
  refine ⟨⟨(hfar m (block_lt h.blk) (h.far _ hin)).trans h.blk, fun p hp => ?_, fun a b ha hb hab q hq => ?_, fun p hp => ?_, h.hm, h.below.trans (t.below h.size (fun b hb => ((h.ok _ hin).bnd b hb).1)), Nat.le_trans h.size t.size⟩, ?_⟩
  · obtain ⟨j, hj, rfl⟩ := List.getElem_of_mem hp
    simp only [List.length_set] at hj
    rw [List.getElem_set]
    by_cases e : i = j
    · rw [if_pos e]
      exact ⟨hp', fun b hb => ⟨(hfr b hb).elim (fun hf => ((h.ok _ hin).bnd b hf).1) (fun hge => Nat.le_trans h.size hge), hlt b hb⟩, hst⟩
    · rw [if_neg e]
      have hok := h.ok _ (List.getElem_mem hj)
      exact hok.kept (fun b hb => hfar b (hok.bnd b hb).2 (h.ne j i hj hi (fun e' => e e'.symm) b hb)) t.size
  · simp only [List.length_set] at ha hb
    rw [List.getElem_set] at hq ⊢
    by_cases ea : i = a
    · rw [if_pos ea] at hq
      by_cases eb : i = b
      · exact (hab (ea.symm.trans eb)).elim
      · rw [if_neg eb]
        rcases hfr q hq with hf | hge
        · exact h.ne i b hi hb eb q hf
        · intro hf2
          have := ((h.ok _ (List.getElem_mem hb)).bnd q hf2).2
          omega
    · rw [if_neg ea] at hq
      by_cases eb : i = b
      · rw [if_pos eb]
        intro hf2
        rcases hfr q hf2 with hf | hge
        · exact h.ne a i ha hi (fun e => ea e.symm) q hq hf
        · have := ((h.ok _ (List.getElem_mem ha)).bnd q hq).2
          omega
      · rw [if_neg eb]; exact h.ne a b ha hb hab q hq
  · obtain ⟨j, hj, rfl⟩ := List.getElem_of_mem hp
    simp only [List.length_set] at hj
    rw [List.getElem_set]
    by_cases e : i = j
    · rw [if_pos e]
      intro hf
      rcases hfr m hf with hf | hge
      · exact h.far _ hin hf
      · have := block_lt h.blk; omega
    · rw [if_neg e]; exact h.far _ (List.getElem_mem hj)
  · refine ⟨t.os, t.tape, t.output, t.size, fun b hb hn => hfar b hb (fun hf => hn (.inr ⟨_, hin, hf⟩)), fun b hb => ?_⟩
    rcases hb with rfl | ⟨p, hp, hf⟩
    · exact .inl (.inl rfl)
    · obtain ⟨j, hj, rfl⟩ := List.getElem_of_mem hp
      simp only [List.length_set] at hj
      rw [List.getElem_set] at hf
      by_cases e : i = j
      · rw [if_pos e] at hf
        exact (hfr b hf).imp (fun hf => .inr ⟨_, hin, hf⟩) id
      · rw [if_neg e] at hf
        exact .inl (.inr ⟨_, List.getElem_mem hj, hf⟩)
/-- a field is stored -/
theorem ObjAt.store (h : ObjAt B w0 m T cs ps w) (j : Nat) (v : Value) : ObjAt B w0 m T (cs.setIfInBounds j v) ps (w.setCell ⟨m, j, none⟩ v) ∧ Turn (Foot m ps) (Foot m ps) w (w.setCell ⟨m, j, none⟩ v) := by
  have t := setCell_turn (F := Foot m ps) (w := w) (a := ⟨m, j, none⟩) (.inl rfl) v
  exact ⟨⟨setCell_block h.blk j v, fun p hp => (h.ok p hp).kept (fun i hi => setCell_far (fun e => h.far p hp (e ▸ hi))) t.size, h.ne, h.far, h.hm, h.below.trans (t.below h.size (fun i hi => (h.bounds i hi).1)), Nat.le_trans h.size t.size⟩, t⟩
theorem ObjAt.cell (h : ObjAt B w0 m T cs ps w) (j : Nat) : w.cell? ⟨m, j, none⟩ = cs[j]? := cellm h.blk j
theorem ObjAt.frozen (h : ObjAt B w0 m T cs ps w) (j : Nat) : w.frozen? ⟨m, j, none⟩ = false := frozenm h.blk j
theorem ObjAt.lt (h : ObjAt B w0 m T cs ps w) : m < w.heap.size := block_lt h.blk
end

/-! rows and maps as parts -/
def rowP (B : Nat) (e : TypeId) (size : Nat) (v : Value) (n : Nat) (xs : List Value) : Part := ⟨fun i => v.ownBlock = some i, fun w => w.ownsRow B e size v n xs⟩
theorem rowP_stab {B : Nat} {e : TypeId} {size : Nat} {v : Value} {n : Nat} {xs : List Value} : ∀ w1 w2 : World, (∀ i, (rowP B e size v n xs).F i → w2.heap[i]? = w1.heap[i]?) → (rowP B e size v n xs).P w1 → (rowP B e size v n xs).P w2 := fun w1 w2 hk h => ownsRow_block h hk
theorem rowP_ok {B : Nat} {e : TypeId} {size : Nat} {v : Value} {n : Nat} {xs : List Value} {w : World} (h : w.ownsRow B e size v n xs) : (rowP B e size v n xs).Ok B w := ⟨h, fun i hi => h.lt i hi, rowP_stab⟩
def mapP (P : Program) (tk : TypeId) (b : Nat) (f : Int → Option Value) (c : Nat) : Part := ⟨(· = b), fun w => VMap P tk w b f c⟩
theorem mapP_stab {P : Program} {tk : TypeId} {b : Nat} {f : Int → Option Value} {c : Nat} : ∀ w1 w2 : World, (∀ i, (mapP P tk b f c).F i → w2.heap[i]? = w1.heap[i]?) → (mapP P tk b f c).P w1 → (mapP P tk b f c).P w2 := fun w1 w2 hk h => VMap.block h (hk b rfl)
theorem mapP_ok {P : Program} {tk : TypeId} {B b : Nat} {f : Int → Option Value} {c : Nat} {w : World} (h : VMap P tk w b f c) (hb : B ≤ b) : (mapP P tk b f c).Ok B w := ⟨h, fun i hi => by cases hi; exact ⟨hb, h.lt⟩, mapP_stab⟩
section
variable {B : Nat} {w0 : World} {m : Nat} {T : TypeId} {cs : Array Value} {ps : List Part} {w w' : World}
theorem ObjAt.row (h : ObjAt B w0 m T cs ps w) (i : Nat) {e : TypeId} {size : Nat} {v : Value} {n : Nat} {xs : List Value} (hi : ps[i]? = some (rowP B e size v n xs)) : w.ownsRow B e size v n xs := by
  have := (h.ok _ (List.mem_of_getElem? hi)).hold
  exact this
theorem ObjAt.map (h : ObjAt B w0 m T cs ps w) (i : Nat) {P : Program} {tk : TypeId} {b : Nat} {f : Int → Option Value} {c : Nat} (hi : ps[i]? = some (mapP P tk b f c)) : VMap P tk w b f c := by
  have := (h.ok _ (List.mem_of_getElem? hi)).hold
  exact this
/-- a row has grown, and is stored in its field -/
theorem ObjAt.set_row (h : ObjAt B w0 m T cs ps w) (i j : Nat) {e : TypeId} {size : Nat} {v : Value} {n : Nat} {xs : List Value} (hi : ps[i]? = some (rowP B e size v n xs)) {v' : Value} {n' : Nat} {xs' : List Value} (hg : w.grownBy w' v.ownBlock) (ho : w'.ownsRow B e size v' n' xs') (hv : ∀ b, v'.ownBlock = some b → v.ownBlock = some b ∨ w.heap.size ≤ b) :
    ObjAt B w0 m T (cs.setIfInBounds j v') (ps.set i (rowP B e size v' n' xs')) (w'.setCell ⟨m, j, none⟩ v') ∧ Turn (Foot m ps) (Foot m (ps.set i (rowP B e size v' n' xs'))) w (w'.setCell ⟨m, j, none⟩ v') := by
  obtain ⟨hlt, hge⟩ := List.getElem?_eq_some_iff.1 hi
  have t : Turn ps[i].F (rowP B e size v' n' xs').F w w' := by
    rw [hge]
    exact ⟨hg.os, hg.tape, hg.output, hg.size, fun b hb hn => hg.block b hb (fun e => hn e.symm), hv⟩
  obtain ⟨h1, t1⟩ := h.turn i hlt (rowP B e size v' n' xs') ho rowP_stab (fun b hb => (ho.lt b hb).2) t
  obtain ⟨h2, t2⟩ := h1.store j v'
  exact ⟨h2, t1.trans t2⟩
/-- an element of a row is stored in its place -/
theorem ObjAt.put_row (h : ObjAt B w0 m T cs ps w) (i q : Nat) {e : TypeId} {g cap n : Nat} {xs : List Value} (hi : ps[i]? = some (rowP B e 1 (.slice (some ⟨g, 0, none⟩) n cap) n xs)) (x : Value) (hq : q < n) :
    ObjAt B w0 m T cs (ps.set i (rowP B e 1 (.slice (some ⟨g, 0, none⟩) n cap) n (xs.set q x))) (w.setCell ⟨g, q, none⟩ x) ∧ Turn (Foot m ps) (Foot m (ps.set i (rowP B e 1 (.slice (some ⟨g, 0, none⟩) n cap) n (xs.set q x)))) w (w.setCell ⟨g, q, none⟩ x) := by
  obtain ⟨hlt, hge⟩ := List.getElem?_eq_some_iff.1 hi
  have ho := ownsRow_set (h.row i hi) q x hq
  refine h.turn i hlt _ ho rowP_stab (fun b hb => (ho.lt b hb).2) ?_
  rw [hge]
  exact setCell_turn (F := (rowP B e 1 (.slice (some ⟨g, 0, none⟩) n cap) n xs).F) (a := ⟨g, q, none⟩) rfl x
/-- a map has a key more -/
theorem ObjAt.put_map (h : ObjAt B w0 m T cs ps w) (i : Nat) {P : Program} {tk : TypeId} {b : Nat} {f f' : Int → Option Value} {c c' : Nat} (hi : ps[i]? = some (mapP P tk b f c)) (hM : VMap P tk w' b f' c') (hg : w.grownBy w' (some b)) :
    ObjAt B w0 m T cs (ps.set i (mapP P tk b f' c')) w' ∧ Turn (Foot m ps) (Foot m (ps.set i (mapP P tk b f' c'))) w w' := by
  obtain ⟨hlt, hge⟩ := List.getElem?_eq_some_iff.1 hi
  refine h.turn i hlt _ hM mapP_stab (fun q hq => by cases hq; exact hM.lt) ?_
  rw [hge]
  exact ⟨hg.os, hg.tape, hg.output, hg.size, fun q hq hn => hg.block q hq (fun e => hn (by cases e; rfl)), fun q hq => .inl hq⟩
end
end Go.Proofs.Ytagmdljdcnmpdaa
