import Derived.Test.YtpccgdkidnkppaaPk1FnExactRowNew
import Derived.Test.YtpccgdkidnkppaaPk7FnExactRowNew
import Derived.Test.YtpccgdkidnkppaaPk8FnExactRowNew
import Derived.Test.YtpccgdkidnkppaaPk11FnExactRowNew
import Derived.Test.YtpccgdkidnkppaaPk13FnExactRowNew
set_option linter.unusedVariables false
set_option linter.unusedSimpArgs false
namespace Go.Proofs.Ytpccgdkidnkppaa
open Go Go.RowKit

/-! an object in a block of its own, and what it owns: rows, maps, in blocks apart -/
structure Part where
  F : Nat → Prop
  P : World → Prop
structure Part.Ok (B : Nat) (p : Part) (w : World) : Prop where
  hold : p.P w
  bnd : ∀ i, p.F i → B ≤ i ∧ i < w.heap.size
  stab : ∀ w1 w2 : World, (∀ i, p.F i → w2.heap[i]? = w1.heap[i]?) → p.P w1 → p.P w2
def Foot (m : Nat) (ps : List Part) (i : Nat) : Prop := i = m ∨ ∃ p ∈ ps, p.F i
structure ObjAt (B : Nat) (w0 : World) (m : Nat) (T : TypeId) (cs : Array Value) (ps : List Part) (w : World) : Prop where
  blk : w.heap[m]? = some (.cells cs T (0, 0))
  ok : ∀ p ∈ ps, p.Ok B w
  ne : ∀ i j (hi : i < ps.length) (hj : j < ps.length), i ≠ j → ∀ b, ps[i].F b → ¬ ps[j].F b
  far : ∀ p ∈ ps, ¬ p.F m
  hm : B ≤ m
  below : Below B w0 w
  size : B ≤ w.heap.size
section
variable {B : Nat} {w0 : World} {m : Nat} {T : TypeId} {cs : Array Value} {ps : List Part} {w w' : World}
theorem ObjAt.bounds (h : ObjAt B w0 m T cs ps w) : ∀ i, Foot m ps i → B ≤ i ∧ i < w.heap.size := by
  intro i hi
  rcases hi with rfl | ⟨p, hp, hf⟩
  · exact ⟨h.hm, block_lt h.blk⟩
  · exact (h.ok p hp).bnd i hf
theorem Part.Ok.kept {p : Part} (h : p.Ok B w) (hk : ∀ i, p.F i → w'.heap[i]? = w.heap[i]?) (hs : w.heap.size ≤ w'.heap.size) : p.Ok B w' :=
  ⟨h.stab w w' hk h.hold, fun i hi => ⟨(h.bnd i hi).1, Nat.lt_of_lt_of_le (h.bnd i hi).2 hs⟩, h.stab⟩
theorem ObjAt.kept (h : ObjAt B w0 m T cs ps w) (hk : ∀ i, Foot m ps i → w'.heap[i]? = w.heap[i]?) (hb : Below B w0 w') (hs : w.heap.size ≤ w'.heap.size) : ObjAt B w0 m T cs ps w' :=
  ⟨(hk m (.inl rfl)).trans h.blk, fun p hp => (h.ok p hp).kept (fun i hi => hk i (.inr ⟨p, hp, hi⟩)) hs, h.ne, h.far, h.hm, hb, Nat.le_trans h.size hs⟩
theorem ObjAt.up (h : ObjAt B w0 m T cs ps w) (hb : Below w.heap.size w w') : ObjAt B w0 m T cs ps w' :=
  h.kept (fun i hi => hb.block i (h.bounds i hi).2) (below_up' h.below h.size hb) hb.size
theorem ObjAt.alloc (h : ObjAt B w0 m T cs ps w) (o : Obj) : ObjAt B w0 m T cs ps (w.alloc o) := h.up (below_al (Below.refl _ _) o)
theorem ObjAt.drew (h : ObjAt B w0 m T cs ps w) : ObjAt B w0 m T cs ps w.drew := h.up (Below.refl _ _).drew
/-- what else turned is apart from it -/
theorem ObjAt.aside (h : ObjAt B w0 m T cs ps w) {F F' : Nat → Prop} (t : Turn F F' w w') (hF : ∀ i, F i → B ≤ i ∧ ¬ Foot m ps i) : ObjAt B w0 m T cs ps w' :=
  h.kept (fun i hi => t.block i (h.bounds i hi).2 (fun hf => (hF i hf).2 hi)) (h.below.trans (t.below h.size (fun i hi => (hF i hi).1))) t.size
/-- a part turns into another one -/
theorem ObjAt.turn (h : ObjAt B w0 m T cs ps w) (i : Nat) (hi : i < ps.length) (p' : Part) (hp' : p'.P w') (hst : ∀ w1 w2 : World, (∀ i, p'.F i → w2.heap[i]? = w1.heap[i]?) → p'.P w1 → p'.P w2) (hlt : ∀ i, p'.F i → i < w'.heap.size) (t : Turn ps[i].F p'.F w w') :
    ObjAt B w0 m T cs (ps.set i p') w' ∧ Turn (Foot m ps) (Foot m (ps.set i p')) w w' := by
  have hin := List.getElem_mem hi
  have hfar : ∀ b, b < w.heap.size → ¬ ps[i].F b → w'.heap[b]? = w.heap[b]? := fun b hb hn => t.block b hb hn
  have hfr : ∀ b, p'.F b → ps[i].F b ∨ w.heap.size ≤ b := t.fresh
  refine ⟨⟨(hfar m (block_lt h.blk) (h.far _ hin)).trans h.blk, fun p hp => ?_, fun a b ha hb hab q hq => ?_, fun p hp => ?_, h.hm, h.below.trans (t.below h.size (fun b hb => ((h.ok _ hin).bnd b hb).1)), Nat.le_trans h.size t.size⟩, ?_⟩
  · obtain ⟨j, hj, rfl⟩ := List.getElem_of_mem hp
    simp only [List.length_set] at hj
    rw [List.getElem_set]
    by_cases e : i = j
    · rw [if_pos e]
      exact ⟨hp', fun b hb => ⟨(hfr b hb).elim (fun hf => ((h.ok _ hin).bnd b hf).1) (fun hge => Nat.le_trans h.size hge), hlt b hb⟩, hst⟩
    · rw [if_neg e]
      have hok := h.ok _ (List.getElem_mem hj)
      exact hok.kept (fun b hb => hfar b (hok.bnd b hb).2 (h.ne j i hj hi (fun e' => e e'.symm) b hb)) t.size
  · simp only [List.length_set] at ha hb
    rw [List.getElem_set] at hq ⊢
    by_cases ea : i = a
    · rw [if_pos ea] at hq
      by_cases eb : i = b
      · exact (hab (ea.symm.trans eb)).elim
      · rw [if_neg eb]
        rcases hfr q hq with hf | hge
        · exact h.ne i b hi hb eb q hf
        · intro hf2
          have := ((h.ok _ (List.getElem_mem hb)).bnd q hf2).2
          omega
    · rw [if_neg ea] at hq
      by_cases eb : i = b
      · rw [if_pos eb]
        intro hf2
        rcases hfr q hf2 with hf | hge
        · exact h.ne a i ha hi (fun e => ea e.symm) q hq hf
        · have := ((h.ok _ (List.getElem_mem ha)).bnd q hq).2
          omega
      · rw [if_neg eb]; exact h.ne a b ha hb hab q hq
  · obtain ⟨j, hj, rfl⟩ := List.getElem_of_mem hp
    simp only [List.length_set] at hj
    rw [List.getElem_set]
    by_cases e : i = j
    · rw [if_pos e]
      intro hf
      rcases hfr m hf with hf | hge
      · exact h.far _ hin hf
      · have := block_lt h.blk; omega
    · rw [if_neg e]; exact h.far _ (List.getElem_mem hj)
  · refine ⟨t.os, t.tape, t.output, t.size, fun b hb hn => hfar b hb (fun hf => hn (.inr ⟨_, hin, hf⟩)), fun b hb => ?_⟩
    rcases hb with rfl | ⟨p, hp, hf⟩
    · exact .inl (.inl rfl)
    · obtain ⟨j, hj, rfl⟩ := List.getElem_of_mem hp
      simp only [List.length_set] at hj
      rw [List.getElem_set] at hf
      by_cases e : i = j
      · rw [if_pos e] at hf
        exact (hfr b hf).imp (fun hf => .inr ⟨_, hin, hf⟩) id
      · rw [if_neg e] at hf
        exact .inl (.inr ⟨_, List.getElem_mem hj, hf⟩)
/-- a field is stored -/
theorem ObjAt.store (h : ObjAt B w0 m T cs ps w) (j : Nat) (v : Value) : ObjAt B w0 m T (cs.setIfInBounds j v) ps (w.setCell ⟨m, j, none⟩ v) ∧ Turn (Foot m ps) (Foot m ps) w (w.setCell ⟨m, j, none⟩ v) := by
  have t := setCell_turn (F := Foot m ps) (w := w) (a := ⟨m, j, none⟩) (.inl rfl) v
  exact ⟨⟨setCell_block h.blk j v, fun p hp => (h.ok p hp).kept (fun i hi => setCell_far (fun e => h.far p hp (e ▸ hi))) t.size, h.ne, h.far, h.hm, h.below.trans (t.below h.size (fun i hi => (h.bounds i hi).1)), Nat.le_trans h.size t.size⟩, t⟩
theorem ObjAt.cell (h : ObjAt B w0 m T cs ps w) (j : Nat) : w.cell? ⟨m, j, none⟩ = cs[j]? := cellm h.blk j
theorem ObjAt.frozen (h : ObjAt B w0 m T cs ps w) (j : Nat) : w.frozen? ⟨m, j, none⟩ = false := frozenm h.blk j
theorem ObjAt.lt (h : ObjAt B w0 m T cs ps w) : m < w.heap.size := block_lt h.blk
end

/-! rows and maps as parts -/
def rowP (B : Nat) (e : TypeId) (size : Nat) (v : Value) (n : Nat) (xs : List Value) : Part := ⟨fun i => v.ownBlock = some i, fun w => w.ownsRow B e size v n xs⟩
theorem rowP_stab {B : Nat} {e : TypeId} {size : Nat} {v : Value} {n : Nat} {xs : List Value} : ∀ w1 w2 : World, (∀ i, (rowP B e size v n xs).F i → w2.heap[i]? = w1.heap[i]?) → (rowP B e size v n xs).P w1 → (rowP B e size v n xs).P w2 := fun w1 w2 hk h => ownsRow_block h hk
theorem rowP_ok {B : Nat} {e : TypeId} {size : Nat} {v : Value} {n : Nat} {xs : List Value} {w : World} (h : w.ownsRow B e size v n xs) : (rowP B e size v n xs).Ok B w := ⟨h, fun i hi => h.lt i hi, rowP_stab⟩
def mapP (P : Program) (tk : TypeId) (b : Nat) (f : Int → Option Value) (c : Nat) : Part := ⟨(· = b), fun w => VMap P tk w b f c⟩
theorem mapP_stab {P : Program} {tk : TypeId} {b : Nat} {f : Int → Option Value} {c : Nat} : ∀ w1 w2 : World, (∀ i, (mapP P tk b f c).F i → w2.heap[i]? = w1.heap[i]?) → (mapP P tk b f c).P w1 → (mapP P tk b f c).P w2 := fun w1 w2 hk h => VMap.block h (hk b rfl)
theorem mapP_ok {P : Program} {tk : TypeId} {B b : Nat} {f : Int → Option Value} {c : Nat} {w : World} (h : VMap P tk w b f c) (hb : B ≤ b) : (mapP P tk b f c).Ok B w := ⟨h, fun i hi => by cases hi; exact ⟨hb, h.lt⟩, mapP_stab⟩
section
variable {B : Nat} {w0 : World} {m : Nat} {T : TypeId} {cs : Array Value} {ps : List Part} {w w' : World}
theorem ObjAt.row (h : ObjAt B w0 m T cs ps w) (i : Nat) {e : TypeId} {size : Nat} {v : Value} {n : Nat} {xs : List Value} (hi : ps[i]? = some (rowP B e size v n xs)) : w.ownsRow B e size v n xs := by
  have := (h.ok _ (List.mem_of_getElem? hi)).hold
  exact this
theorem ObjAt.map (h : ObjAt B w0 m T cs ps w) (i : Nat) {P : Program} {tk : TypeId} {b : Nat} {f : Int → Option Value} {c : Nat} (hi : ps[i]? = some (mapP P tk b f c)) : VMap P tk w b f c := by
  have := (h.ok _ (List.mem_of_getElem? hi)).hold
  exact this
/-- a row has grown, and is stored in its field -/
theorem ObjAt.set_row (h : ObjAt B w0 m T cs ps w) (i j : Nat) {e : TypeId} {size : Nat} {v : Value} {n : Nat} {xs : List Value} (hi : ps[i]? = some (rowP B e size v n xs)) {v' : Value} {n' : Nat} {xs' : List Value} (hg : w.grownBy w' v.ownBlock) (ho : w'.ownsRow B e size v' n' xs') (hv : ∀ b, v'.ownBlock = some b → v.ownBlock = some b ∨ w.heap.size ≤ b) :
    ObjAt B w0 m T (cs.setIfInBounds j v') (ps.set i (rowP B e size v' n' xs')) (w'.setCell ⟨m, j, none⟩ v') ∧ Turn (Foot m ps) (Foot m (ps.set i (rowP B e size v' n' xs'))) w (w'.setCell ⟨m, j, none⟩ v') := by
  obtain ⟨hlt, hge⟩ := List.getElem?_eq_some_iff.1 hi
  have t : Turn ps[i].F (rowP B e size v' n' xs').F w w' := by
    rw [hge]
    exact ⟨hg.os, hg.tape, hg.output, hg.size, fun b hb hn => hg.block b hb (fun e => hn e.symm), hv⟩
  obtain ⟨h1, t1⟩ := h.turn i hlt (rowP B e size v' n' xs') ho rowP_stab (fun b hb => (ho.lt b hb).2) t
  obtain ⟨h2, t2⟩ := h1.store j v'
  exact ⟨h2, t1.trans t2⟩
/-- an element of a row is stored in its place -/
theorem ObjAt.put_row (h : ObjAt B w0 m T cs ps w) (i q : Nat) {e : TypeId} {g cap n : Nat} {xs : List Value} (hi : ps[i]? = some (rowP B e 1 (.slice (some ⟨g, 0, none⟩) n cap) n xs)) (x : Value) (hq : q < n) :
    ObjAt B w0 m T cs (ps.set i (rowP B e 1 (.slice (some ⟨g, 0, none⟩) n cap) n (xs.set q x))) (w.setCell ⟨g, q, none⟩ x) ∧ Turn (Foot m ps) (Foot m (ps.set i (rowP B e 1 (.slice (some ⟨g, 0, none⟩) n cap) n (xs.set q x)))) w (w.setCell ⟨g, q, none⟩ x) := by
  obtain ⟨hlt, hge⟩ := List.getElem?_eq_some_iff.1 hi
  have ho := ownsRow_set (h.row i hi) q x hq
  refine h.turn i hlt _ ho rowP_stab (fun b hb => (ho.lt b hb).2) ?_
  rw [hge]
  exact setCell_turn (F := (rowP B e 1 (.slice (some ⟨g, 0, none⟩) n cap) n xs).F) (a := ⟨g, q, none⟩) rfl x
/-- a map has a key more -/
theorem ObjAt.put_map (h : ObjAt B w0 m T cs ps w) (i : Nat) {P : Program} {tk : TypeId} {b : Nat} {f f' : Int → Option Value} {c c' : Nat} (hi : ps[i]? = some (mapP P tk b f c)) (hM : VMap P tk w' b f' c') (hg : w.grownBy w' (some b)) :
    ObjAt B w0 m T cs (ps.set i (mapP P tk b f' c')) w' ∧ Turn (Foot m ps) (Foot m (ps.set i (mapP P tk b f' c'))) w w' := by
  obtain ⟨hlt, hge⟩ := List.getElem?_eq_some_iff.1 hi
  refine h.turn i hlt _ hM mapP_stab (fun q hq => by cases hq; exact hM.lt) ?_
  rw [hge]
  exact ⟨hg.os, hg.tape, hg.output, hg.size, fun q hq hn => hg.block q hq (fun e => hn (by cases e; rfl)), fun q hq => .inl hq⟩
end
end Go.Proofs.Ytpccgdkidnkppaa

set_option linter.unusedVariables false
set_option linter.unusedSimpArgs false
namespace Go.Proofs.Ytpccgdkidnkppaa
open Go Go.RowKit

/-- the last one is taken off a row -/
theorem ObjAt.pop_row {B : Nat} {w0 : World} {m : Nat} {T : TypeId} {cs : Array Value} {ps : List Part} {w : World} (h : ObjAt B w0 m T cs ps w) (i j : Nat) {e : TypeId} {v : Value} {u : List Int} {k : Int} (hi : ps[i]? = some (rowP B e 1 v (u ++ [k]).length (ints (u ++ [k])))) :
    ∃ g co, v = .slice (some ⟨g, 0, none⟩) (u.length + 1) co ∧ u.length + 1 ≤ co ∧ co ≤ maxLen ∧ g < w.heap.size ∧ B ≤ g ∧
      ObjAt B w0 m T (cs.setIfInBounds j (.slice (some ⟨g, 0, none⟩) u.length co)) (ps.set i (rowP B e 1 (.slice (some ⟨g, 0, none⟩) u.length co) u.length (ints u))) (w.setCell ⟨m, j, none⟩ (.slice (some ⟨g, 0, none⟩) u.length co)) ∧
        Turn (Foot m ps) (Foot m (ps.set i (rowP B e 1 (.slice (some ⟨g, 0, none⟩) u.length co) u.length (ints u)))) w (w.setCell ⟨m, j, none⟩ (.slice (some ⟨g, 0, none⟩) u.length co)) := by
  have hoo := h.row i hi
  have e1 : (u ++ [k]).length = u.length + 1 := by simp
  rw [ints_append, e1] at hoo
  obtain ⟨g, co, hvo, hBg, hgl⟩ := hoo.form (by omega)
  subst hvo
  have hm : u.length + 1 ≤ co ∧ co ≤ maxLen := by
    rcases hoo.2 with ⟨e, _⟩ | ⟨_, _, _, e, _, _, hc, hm, _⟩
    · cases e
    · cases e; exact ⟨hc, hm⟩
  have hpop := ownsRow_pop (by simp [ints]) hoo
  rw [ints_append, e1] at hi
  obtain ⟨h1, h2⟩ := h.set_row i j hi (World.grownBy.refl _ _) hpop (fun b hb => .inl hb)
  exact ⟨g, co, rfl, hm.1, hm.2, hgl, hBg, h1, h2⟩

/-- between two fetches of a task: an object that is worked on, and a row of what was got -/
structure LpO (B : Nat) (w0 : World) (m : Nat) (T : TypeId) (cs : Array Value) (ps : List Part) (w : World) (F : Nat → Prop) (got : List Int) (vg : Value) (wr : World) : Prop where
  ob : ObjAt B w0 m T cs ps wr
  own : wr.ownsRow w.heap.size 3 1 vg got.length (ints got)
  far : ∀ i, vg.ownBlock = some i → ¬ Foot m ps i
  vals : ∀ x ∈ got, 0 ≤ x ∧ x ≤ 96
  turn : Turn F (Foot m ps) w wr
  low : B ≤ w.heap.size
section
variable {B : Nat} {w0 : World} {m : Nat} {T : TypeId} {cs cs2 : Array Value} {ps ps2 : List Part} {w wr w2 : World} {F : Nat → Prop} {got : List Int} {vg v' : Value}
theorem LpO.up (h : LpO B w0 m T cs ps w F got vg wr) (hb : Below wr.heap.size wr w2) : LpO B w0 m T cs ps w F got vg w2 :=
  ⟨h.ob.up hb, ownsRow_block h.own (fun i hi => hb.block i (h.own.lt i hi).2), h.far, h.vals, h.turn.trans (below_turn hb), h.low⟩
theorem LpO.key (h : LpO B w0 m T cs ps w F got vg wr) (hs : ObjAt B w0 m T cs2 ps2 w2) (t : Turn (Foot m ps) (Foot m ps2) wr w2) : LpO B w0 m T cs2 ps2 w F got vg w2 :=
  ⟨hs, ownsRow_block h.own (fun i hi => t.block i (h.own.lt i hi).2 (h.far i hi)), fun i hi hf => (t.fresh i hf).elim (h.far i hi) (fun e => by have := (h.own.lt i hi).2; omega), h.vals, h.turn.trans t, h.low⟩
theorem LpO.app (h : LpO B w0 m T cs ps w F got vg wr) {o : Obj} {x : Int} (hg : (wr.alloc o).grownBy w2 vg.ownBlock) (ho : w2.ownsRow w.heap.size 3 1 v' (got.length + 1) (ints got ++ [.int .i64 x])) (hx : 0 ≤ x ∧ x ≤ 96)
    (hat : ∀ i, v'.ownBlock = some i → vg.ownBlock = some i ∨ wr.heap.size ≤ i) : LpO B w0 m T cs ps w F (got ++ [x]) v' w2 := by
  have ha := h.ob.alloc o
  have t : Turn (fun i => vg.ownBlock = some i) (fun i => vg.ownBlock = some i) (wr.alloc o) w2 := grown_turn hg (fun k hk => hk) (fun i hi => .inl hi)
  exact ⟨ha.aside t (fun i hi => ⟨Nat.le_trans h.low (h.own.lt i hi).1, h.far i hi⟩), by simpa [ints_append, ints] using ho, fun i hi hf => (hat i hi).elim (fun e => h.far i e hf) (fun e => by have := (h.ob.bounds i hf).2; omega),
    fun y hy => (List.mem_append.1 hy).elim (h.vals y) (fun e => by rw [List.mem_singleton.1 e]; exact hx), (h.turn.alloc o).grown_new hg (fun i hi => (h.own.lt i hi).1), h.low⟩
theorem LpO.start (h : ObjAt B w0 m T cs ps wr) (t : Turn F (Foot m ps) w wr) (hl : B ≤ w.heap.size) : LpO B w0 m T cs ps w F [] (.slice (some ⟨wr.heap.size, 0, none⟩) 0 0) (wr.alloc (.cells #[] 3 (0, 0))) :=
  ⟨h.alloc _, by simpa [ints] using World.ownsRow_made (base := w.heap.size) wr #[] 0 t.size (by simp [maxLen]) rfl, fun i hi hf => (by cases hi; exact Nat.lt_irrefl _ (h.bounds _ hf).2), fun x hx => (by cases hx), t.alloc _, hl⟩
end

set_option maxHeartbeats 1000000 in
theorem l2Has_calls (A : Option Addr) (c : Nat) (xs : List Int) (x : Int) (B : Nat) (w0 w : World) (hb : Below B w0 w) (hB : B ≤ w.heap.size) (hl : xs.length ≤ maxLen) (hx : IntsAt B w0 A xs) :
    Calls Try.prog 56 #[.slice A xs.length c, .int .i64 x] w fun e w' => e = .returned (.bool (xs.contains x)) ∧ w = w' := by
  unfold maxLen at hl
  replace hx := Lib.hid hx
  replace hb := Lib.hid hb
  go_enter Try.func56, Try.ntmps56
  go_wp2_with fail
  go_loopw [5] (fun i wr => ∃ (j : Nat), j ≤ xs.length ∧ i = .int .i64 j ∧ wr = w ∧ Hid (x ∉ xs.take j)) (fun i _ => xs.length - (intOf i).toNat)
  case atStart => exact ⟨0, Nat.zero_le _, rfl, rfl, Lib.hid (by simp)⟩
  case round =>
    obtain ⟨j, hj, rfl, rfl, hno⟩ := hrel
    by_cases hlt : j < xs.length
    · obtain ⟨b, o, rfl, hbl, y⟩ := hx.out.at hb.out hB j hlt
      by_cases e : xs[j] = x
      · have e' : (xs[j] == x) = true := by simp [e]
        have hr : xs.contains x = true := by rw [← e]; simp
        replace e := Lib.hid e
        replace hr := Lib.hid hr
        go_wp2_with fail
        go_ret
        exact ⟨by rw [hr.out]; rfl, rfl⟩
      · have e' : (xs[j] == x) = false := by simp [e]
        have hno2 : x ∉ xs.take (j + 1) := by
          rw [List.take_succ_eq_append_getElem hlt, List.mem_append, List.mem_singleton]
          exact fun h => h.elim hno.out (fun h => e h.symm)
        replace e := Lib.hid e
        replace hno2 := Lib.hid hno2
        go_wp2_with fail
        go_roundw
        case rel => exact ⟨j + 1, by omega, by go_num, by first | rfl | trivial, hno2⟩
        case measure => simp [intOf]; omega
    · have hr : xs.contains x = false := by
        have := hno.out
        rw [List.take_of_length_le (by omega)] at this
        simpa using this
      replace hr := Lib.hid hr
      go_wp2_with fail
      go_ret
      exact ⟨by rw [hr.out]; rfl, rfl⟩
end Go.Proofs.Ytpccgdkidnkppaa

set_option linter.unusedVariables false
set_option linter.unusedSimpArgs false
namespace Go.Proofs.Ytpccgdkidnkppaa
open Go Go.RowKit

/-! l4Once in memory -/
abbrev onCs (E : MkEnv) (S : Sh) (vv vd vu : Value) : Array Value := #[.slice E.Am S.made.length E.cm, .slice E.At S.tks.length E.ct, vv, vd, vu]
abbrev onPs (E : MkEnv) (vv vd vu : Value) (st : OSt) : List Part := [rowP E.B 3 1 vv st.vals.length (ints st.vals), rowP E.B 3 1 vd st.done.length (ints st.done), rowP E.B 3 1 vu st.under.length (ints st.under)]
theorem ints_set (xs : List Int) (q : Nat) (x : Int) : (ints xs).set q (.int .i64 x) = ints (xs.set q x) := (List.map_set).symm
theorem onPs_under (E : MkEnv) (vv vd vu v : Value) (st : OSt) (k : Int) : (onPs E vv vd vu st).set 2 (rowP E.B 3 1 v (st.under.length + 1) (ints (st.under ++ [k]))) = onPs E vv vd v ⟨st.vals, st.done, st.under ++ [k]⟩ := by
  simp only [onPs, List.set, List.length_append, List.length_singleton]
theorem onPs_done (E : MkEnv) (vv vd vu v : Value) (st : OSt) (k : Int) : (onPs E vv vd vu st).set 1 (rowP E.B 3 1 v (st.done.length + 1) (ints (st.done ++ [k]))) = onPs E vv v vu ⟨st.vals, st.done ++ [k], st.under⟩ := by
  simp only [onPs, List.set, List.length_append, List.length_singleton]
theorem onPs_val (E : MkEnv) (vv vd vu : Value) (st : OSt) (q : Nat) (x : Int) : (onPs E vv vd vu st).set 0 (rowP E.B 3 1 vv st.vals.length ((ints st.vals).set q (.int .i64 x))) = onPs E vv vd vu ⟨st.vals.set q x, st.done, st.under⟩ := by
  simp only [onPs, List.set, List.length_set, ints_set]
abbrev OnAt (E : MkEnv) (S : Sh) (m : Nat) (vv vd vu : Value) (st : OSt) (w : World) : Prop := ObjAt E.B E.w0 m 104 (onCs E S vv vd vu) (onPs E vv vd vu st) w
def OnI (E : MkEnv) (S : Sh) (m : Nat) (st : OSt) (w : World) (F : Nat → Prop) : Prop := ∃ vv vd vu, OnAt E S m vv vd vu st w ∧ F = Foot m (onPs E vv vd vu st)
section
variable {E : MkEnv} {S : Sh} {m : Nat} {vv vd vu : Value} {st : OSt} {w w' : World}
theorem OnAt.cells (h : OnAt E S m vv vd vu st w) : w.cell? ⟨m, 0, none⟩ = some (.slice E.Am S.made.length E.cm) ∧ w.cell? ⟨m, 1, none⟩ = some (.slice E.At S.tks.length E.ct) ∧ w.cell? ⟨m, 2, none⟩ = some vv ∧
    w.cell? ⟨m, 3, none⟩ = some vd ∧ w.cell? ⟨m, 4, none⟩ = some vu ∧ w.frozen? ⟨m, 3, none⟩ = false ∧ w.frozen? ⟨m, 4, none⟩ = false ∧ m < w.heap.size :=
  ⟨h.cell 0, h.cell 1, h.cell 2, h.cell 3, h.cell 4, h.frozen 3, h.frozen 4, h.lt⟩
theorem OnAt.vals (h : OnAt E S m vv vd vu st w) : w.ownsRow E.B 3 1 vv st.vals.length (ints st.vals) := ObjAt.row h 0 rfl
theorem OnAt.done (h : OnAt E S m vv vd vu st w) : w.ownsRow E.B 3 1 vd st.done.length (ints st.done) := ObjAt.row h 1 rfl
theorem OnAt.und (h : OnAt E S m vv vd vu st w) : w.ownsRow E.B 3 1 vu st.under.length (ints st.under) := ObjAt.row h 2 rfl
theorem OnAt.val_at (h : OnAt E S m vv vd vu st w) {q : Nat} (hq : q < st.vals.length) : ∃ g c, vv = .slice (some ⟨g, 0, none⟩) st.vals.length c ∧ w.cell? ⟨g, q, none⟩ = some (.int .i64 st.vals[q]) ∧ w.frozen? ⟨g, q, none⟩ = false ∧ g < w.heap.size ∧ st.vals.length ≤ c ∧ c ≤ maxLen := by
  have ho := h.vals
  obtain ⟨A, c, rfl, h1, h2, h3⟩ := ownsRow_ints ho
  obtain ⟨b, o, e, hb, hc⟩ := h3 q hq
  subst e
  obtain ⟨g, co, e, hg, hgl⟩ := ho.form (by omega)
  cases e
  refine ⟨b, c, rfl, by simpa using hc, ?_, hgl, h1, h2⟩
  obtain ⟨_, ⟨h2, _⟩ | ⟨g', cap', cur, h2, h3, h4, _⟩⟩ := ho
  · cases h2
  · cases h2; exact frozenm h4 q
end

set_option maxHeartbeats 2000000 in
theorem okey_unmade (E : MkEnv) (S : Sh) (hE : E.Good S) (m n : Nat) (st : OSt) (k : Int) (w : World) (F : Nat → Prop) (hk0 : 0 ≤ k) (hk9 : k ≤ 9) (hi : OInv S n st) (h : OnI E S m st w F) (hmk : mkK S.made k = false) :
    Calls Try.prog 85 #[.pointer (some ⟨m, 0, none⟩), .int .i64 k] w (Gives (OnI E S m) F w (onceP S n st k)) := by
  rw [onceP_unmade hmk]
  obtain ⟨vv, vd, vu, hM, rfl⟩ := h
  obtain ⟨x0, x1, x2, x3, x4, f3, f4, hz⟩ := hM.cells
  obtain ⟨q, rfl⟩ := Int.eq_ofNat_of_zero_le hk0
  have hten := hE.ok.ten
  have hav := hi.at q
  by_cases hq : q < S.made.length
  · have hqv : q < st.vals.length := by have := hi.vlen; omega
    have hmq : S.made[q] = false := by
      unfold mkK at hmk
      rw [if_neg (by omega), Int.toNat_natCast, getD_at _ hq] at hmk
      exact hmk
    have hat : atK st.vals q = st.vals[q] := atK_in hqv
    obtain ⟨bm, om, em, hbm, cm⟩ := hE.sheet.made.at hM.below hM.size q hq
    obtain ⟨g, c, rfl, cv, -, hgl, hcl, hcm⟩ := hM.val_at hqv
    rw [em] at x0
    simp only [hmq] at cm
    rw [hat] at hav ⊢
    unfold maxLen at hcm
    replace hM := Lib.hid hM
    replace hE := Lib.hid hE
    replace hi := Lib.hid hi
    clear hat hmq hmk x3 x4 f3 f4
    go_enter Try.func85, Try.ntmps85
    go_wp2_with fail
    go_ret2
    exact ⟨rfl, hav.1, hav.2, _, ⟨_, vd, vu, hM.out, rfl⟩, Turn.refl _ _⟩
  · have hat : atK st.vals q = 0 := atK_out (by have := hi.vlen; omega)
    rw [hat]
    replace hM := Lib.hid hM
    clear hE hmk hat hav hi
    go_enter Try.func85, Try.ntmps85
    go_wp2_with fail
    go_ret2
    exact ⟨rfl, by simp, by simp, _, ⟨vv, vd, vu, hM.out, rfl⟩, Turn.refl _ _⟩

set_option maxHeartbeats 2000000 in
theorem okey_made (E : MkEnv) (S : Sh) (hE : E.Good S) (m n : Nat) (st : OSt) (k : Int) (w : World) (F : Nat → Prop) (hk0 : 0 ≤ k) (hk9 : k ≤ 9) (hi : OInv S n st) (h : OnI E S m st w F) (hmk : mkK S.made k = true) (hsome : st.done.contains k = true ∨ st.under.contains k = true) :
    Calls Try.prog 85 #[.pointer (some ⟨m, 0, none⟩), .int .i64 k] w (Gives (OnI E S m) F w (onceP S n st k)) := by
  obtain ⟨vv, vd, vu, hM, rfl⟩ := h
  obtain ⟨x0, x1, x2, x3, x4, f3, f4, hz⟩ := hM.cells
  obtain ⟨q, rfl⟩ := Int.eq_ofNat_of_zero_le hk0
  have hten := hE.ok.ten
  have hav := hi.at q
  obtain ⟨hq, hmq⟩ := made_at hmk
  have hqv : q < st.vals.length := by have := hi.vlen; omega
  have hat : atK st.vals q = st.vals[q] := atK_in hqv
  obtain ⟨bm, om, em, hbm, cm⟩ := hE.sheet.made.at hM.below hM.size q hq
  obtain ⟨g, c, rfl, cv, -, hgl, hcl, hcm⟩ := hM.val_at hqv
  obtain ⟨Ad, cd, rfl, hd1, hd2, hd3⟩ := ownsRow_ints hM.done
  obtain ⟨Au, cu, rfl, hu1, hu2, hu3⟩ := ownsRow_ints hM.und
  have hcd := l2Has_calls Ad cd st.done q w.heap.size w w (Below.refl _ _) (Nat.le_refl _) (Nat.le_trans hd1 hd2) hd3
  have hcu := l2Has_calls Au cu st.under q w.heap.size w w (Below.refl _ _) (Nat.le_refl _) (Nat.le_trans hu1 hu2) hu3
  rw [em] at x0
  simp only [hmq] at cm
  unfold maxLen at hcm
  cases hd : st.done.contains (q : Int) with
  | true =>
    rw [onceP_done hmk hd]
    rw [hd] at hcd
    rw [hat] at hav ⊢
    replace hM := Lib.hid hM
    replace hE := Lib.hid hE
    replace hi := Lib.hid hi
    replace hd := Lib.hid hd
    replace hcd := Lib.hid hcd
    clear hat hmq hmk f3 f4 hcu hsome hd3 hu3
    go_enter Try.func85, Try.ntmps85
    go_wp2_with fail
    refine hcd.out.mono ?_
    rintro e w1 ⟨rfl, rfl⟩
    go_wp2_with fail
    go_ret2
    exact ⟨rfl, hav.1, hav.2, _, ⟨_, _, _, hM.out, rfl⟩, Turn.refl _ _⟩
  | false =>
    have hu : st.under.contains (q : Int) = true := hsome.resolve_left (by rw [hd]; simp)
    rw [onceP_under hmk hd hu]
    rw [hd] at hcd
    rw [hu] at hcu
    replace hM := Lib.hid hM
    replace hE := Lib.hid hE
    replace hi := Lib.hid hi
    replace hd := Lib.hid hd
    replace hu := Lib.hid hu
    replace hcd := Lib.hid hcd
    replace hcu := Lib.hid hcu
    clear hat hmq hmk f3 f4 hsome hd3 hu3 hav
    go_enter Try.func85, Try.ntmps85
    go_wp2_with fail
    refine hcd.out.mono ?_
    rintro e w1 ⟨rfl, rfl⟩
    go_wp2_with fail
    refine hcu.out.mono ?_
    rintro e w1 ⟨rfl, rfl⟩
    go_wp2_with fail
    go_ret2
    exact ⟨rfl, by simp, by simp, _, ⟨_, _, _, hM.out, rfl⟩, Turn.refl _ _⟩

set_option maxRecDepth 5000 in
set_option maxHeartbeats 8000000 in
theorem okey_new (E : MkEnv) (S : Sh) (hE : E.Good S) (m n : Nat)
    (ih : ∀ (st : OSt) (k : Int) (w : World) (F : Nat → Prop), 0 ≤ k → k ≤ 9 → OInv S n st → OnI E S m st w F →
      Calls Try.prog 85 #[.pointer (some ⟨m, 0, none⟩), .int .i64 k] w (Gives (OnI E S m) F w (onceP S n st k)))
    (st : OSt) (k : Int) (w : World) (F : Nat → Prop) (hk0 : 0 ≤ k) (hk9 : k ≤ 9) (hi : OInv S (n + 1) st) (h : OnI E S m st w F) (hmk : mkK S.made k = true) (hd : st.done.contains k = false) (hu : st.under.contains k = false) :
    Calls Try.prog 85 #[.pointer (some ⟨m, 0, none⟩), .int .i64 k] w (Gives (OnI E S m) F w (onceP S (n + 1) st k)) := by
  have hinv1 := onceP_inv hE.ok (n + 1) st k hi
  have hP := onceP_new (n := n) hmk hd hu
  obtain ⟨vv, vd, vu, hM, rfl⟩ := h
  obtain ⟨x0, x1, x2, x3, x4, f3, f4, hz⟩ := hM.cells
  obtain ⟨q, rfl⟩ := Int.eq_ofNat_of_zero_le hk0
  have hten := hE.ok.ten
  obtain ⟨hq, hmq⟩ := made_at hmk
  have hku : (q : Int) ∉ st.under := by simpa using hu
  have hkd : (q : Int) ∉ st.done := by simpa using hd
  have hi1 : OInv S n ⟨st.vals, st.done, st.under ++ [(q : Int)]⟩ := ⟨hi.vlen, hi.vals, hi.done, hi.nodup, hi.range, hi.under.push hku (mkK_range (show mkK S.made q ≠ false by rw [hmk]; simp)), fun x hx => (List.mem_append.1 hx).elim (hi.apart x) (fun e => by rw [List.mem_singleton.1 e]; exact hkd)⟩
  have hql : q < S.tks.length := by have := hE.ok.len; omega
  have hul := hi.under.len
  rw [tk_at hql] at hP
  have hok := hE.ok.tks S.tks[q] (List.getElem_mem _)
  have hfs : S.tks[q].fets ≤ 100 := fets_small (hE.ok.okT hql)
  obtain ⟨Q, hQ⟩ : ∃ Q, S.tks[q].itr.run (onceP S n) ⟨st.vals, st.done, st.under ++ [(q : Int)]⟩ = Q := ⟨_, rfl⟩
  rw [hQ] at hP
  have hQi := Itr.run_keeps (f := onceP S n) (J := fun s => OInv S n s ∧ s.under = st.under ++ [(q : Int)]) (fun s j h _ _ => ⟨(onceP_inv hE.ok n s j h.1).1, ((onceP_inv hE.ok n s j h.1).2.1).trans h.2⟩) S.tks[q].itr _ (Tk.itr_ok _ hok) ⟨hi1, rfl⟩
  rw [hQ] at hQi
  have hstep := fun (s : OSt) (j : Int) (hs : OInv S n s ∧ s.under = st.under ++ [(q : Int)]) => (⟨(onceP_inv hE.ok n s j hs.1).1, ((onceP_inv hE.ok n s j hs.1).2.1).trans hs.2⟩ : OInv S n (onceP S n s j).2 ∧ (onceP S n s j).2.under = st.under ++ [(q : Int)])
  obtain ⟨bm, om, em, hbm, cm⟩ := hE.sheet.made.at hM.below hM.size q hq
  rw [em] at x0
  simp only [hmq] at cm
  obtain ⟨Ad, cd, evd, hd1, hd2, hd3⟩ := ownsRow_ints hM.done
  obtain ⟨Au, cu, evu, hu1, hu2, hu3⟩ := ownsRow_ints hM.und
  subst evd evu
  have hcd := l2Has_calls Ad cd st.done q w.heap.size w w (Below.refl _ _) (Nat.le_refl _) (Nat.le_trans hd1 hd2) hd3
  have hcu := l2Has_calls Au cu st.under q w.heap.size w w (Below.refl _ _) (Nat.le_refl _) (Nat.le_trans hu1 hu2) hu3
  rw [hd] at hcd
  rw [hu] at hcu
  unfold maxLen at hu2 hd2
  have hsz := hM.size
  have hdl := hi.done
  have hvl := hi.vlen
  replace hM := Lib.hid hM
  replace hE := Lib.hid hE
  replace ih := Lib.hid ih
  replace hi1 := Lib.hid hi1
  replace hi := Lib.hid hi
  replace hQ := Lib.hid hQ
  replace hQi := Lib.hid hQi
  replace hstep := Lib.hid hstep
  replace hP := Lib.hid hP
  replace hok := Lib.hid hok
  replace hcd := Lib.hid hcd
  replace hcu := Lib.hid hcu
  replace em := Lib.hid em
  replace hinv1 := Lib.hid hinv1
  replace hvl := Lib.hid hvl
  clear hmk hmq hd hu hku hkd hd3 hu3
  go_enter Try.func85, Try.ntmps85
  go_wp2_with fail
  refine hcd.out.mono ?_
  rintro e w1 ⟨rfl, rfl⟩
  go_wp2_with fail
  refine hcu.out.mono ?_
  rintro e w1 ⟨rfl, rfl⟩
  go_wp2_with (at_builtin; go_loud (with_reducible refine wpList_app1 (by rfl) (.tmp 54) (.tmp 56) 26 (by rfl) intTy E.B (.slice Au st.under.length cu) st.under.length (ints st.under) (by with_unfolding_all rfl) (hM.out.und.alloc _) w.heap.size 1 [.int .i64 q] (by with_unfolding_all rfl) (by with_unfolding_all rfl) ⟨_, _, heap_alloc_new w _, rfl⟩ (one_int _ _) ?_ ?_ ?_ ?_))
  · unfold maxLen; omega
  · omega
  · simp; omega
  intro g cap w2 hown hgrow hat
  have hMa := hM.out.alloc (.cells #[.int .i64 q] 3 (0, 0))
  have hblk2 := (hgrow.block m (block_lt hMa.blk) (fun e => hMa.far _ (List.mem_of_getElem? (i := 2) rfl) e.symm)).trans hMa.blk
  have z4 : w2.cell? ⟨m, 4, none⟩ = some (.slice Au st.under.length cu) := (cellm hblk2 4).trans rfl
  have fz4 : w2.frozen? ⟨m, 4, none⟩ = false := frozenm hblk2 4
  have hset := hMa.set_row 2 4 rfl (xs' := ints (st.under ++ [(q : Int)])) hgrow (by simpa [ints_append, ints] using hown) (fun i hi => by cases hi; exact hat.imp id (fun e => by simp at e ⊢; omega))
  have hM3 : OnAt E S m vv (.slice Ad st.done.length cd) (.slice (some ⟨g, 0, none⟩) (st.under.length + 1) cap) ⟨st.vals, st.done, st.under ++ [(q : Int)]⟩ (w2.setCell ⟨m, 4, none⟩ (.slice (some ⟨g, 0, none⟩) (st.under.length + 1) cap)) := by
    have := hset.1
    rw [onPs_under] at this
    exact this
  have t3 := (below_turn (F := Foot m (onPs E vv (.slice Ad st.done.length cd) (.slice Au st.under.length cu) st)) (below_al (Below.refl w.heap.size w) (.cells #[.int .i64 q] 3 (0, 0)))).trans hset.2
  rw [onPs_under] at t3
  have hzm2 := block_lt hblk2
  replace hM3 := Lib.hid hM3
  replace t3 := Lib.hid t3
  clear hown hgrow hat hMa hblk2 hset x0 x1 x2 x3 x4 f3 f4 cm hcd hcu
  obtain ⟨bt, ot, At', ct', et, hbt, ht0, ht1, ht2, htc, htm, htp⟩ := hE.out.sheet.tasks.at hM3.out.below q (by simpa using hql)
  simp only [List.getElem_map] at ht0 ht1 ht2 htc htp
  have hbt3 := Nat.lt_of_lt_of_le hbt hM3.out.size
  obtain ⟨y0, y1, y2, y3, y4, e3, e4, hzm⟩ := hM3.out.cells
  rw [et] at y1
  replace htp := Lib.hid htp
  generalize hw3 : w2.setCell ⟨m, 4, none⟩ (.slice (some ⟨g, 0, none⟩) (st.under.length + 1) cap) = w3 at *
  have hst0 := LpO.start hM3.out t3.out hsz
  have hnx := l2Next_calls S.tks[q] At' ct' [] (some ⟨w3.heap.size, 0, none⟩) 0 E.B E.w0 _ hst0.ob.below hst0.ob.size hok.out htc htp.out (RowAt.nil _ _ _ _) (fun x hx => (by cases hx)) (by simp)
  replace hnx := Lib.hid hnx
  replace hst0 := Lib.hid hst0
  go_wp2_with fail
  refine hnx.out.mono ?_
  rintro e w4 ⟨rfl, v0, v1, hb4⟩
  have hst4 := hst0.out.up hb4
  have hvv : 0 ≤ (nextP S.tks[q].itr []).1 ∧ (nextP S.tks[q].itr []).1 ≤ 96 := ⟨v0, v1⟩
  replace hst4 := Lib.hid hst4
  replace hvv := Lib.hid hvv
  clear hnx hst0 hb4 v0 v1 y0 y1 y2 y3 y4 e3 e4 hzm ht0 ht1 ht2 hbt3 hM3 t3 hw3 z4 fz4 hzm2
  go_wp2_with fail
  go_loopw [6, 7, 8, 9] (fun a v ky o ws => ∃ (got : List Int) (s1 : OSt) (vv1 vd1 vu1 : Value), got.length ≤ S.tks[q].fets ∧ v = .int .i64 (nextP S.tks[q].itr got).1 ∧ ky = .int .i64 (nextP S.tks[q].itr got).2.1 ∧ o = .bool (nextP S.tks[q].itr got).2.2 ∧
    Hid (LpO E.B E.w0 m 104 (onCs E S vv1 vd1 vu1) (onPs E vv1 vd1 vu1 s1) w (Foot m (onPs E vv (.slice Ad st.done.length cd) (.slice Au st.under.length cu) st)) got a ws) ∧ Hid (OInv S n s1 ∧ s1.under = st.under ++ [(q : Int)]) ∧
    Hid (Q = (S.tks[q].itr.walk got).run (onceP S n) s1) ∧ Hid (0 ≤ (nextP S.tks[q].itr got).1 ∧ (nextP S.tks[q].itr got).1 ≤ 96) ∧ lenOf a = got.length) (fun a _ _ _ _ => S.tks[q].fets - lenOf a)
  case atStart => exact ⟨[], _, _, _, _, Nat.zero_le _, rfl, rfl, rfl, hst4, Lib.hid ⟨hi1.out, rfl⟩, Lib.hid (by rw [← hQ.out, Itr.walk_nil]), hvv, rfl⟩
  case round =>
    obtain ⟨got, s1, vv1, vd1, vu1, hgl, rfl, rfl, rfl, hL, hI1, hEq, hvv, hla⟩ := hrel
    cases hw : S.tks[q].itr.walk got with
    | done x =>
      obtain ⟨n1, n2⟩ := nextP_done hw
      have he := hEq.out
      rw [hw] at he
      have he2 : Q = ((x, true), s1) := he
      have hx := hvv.out
      rw [n1] at hx
      rw [n1, n2]
      have hP2 := hP.out
      rw [he2] at hP2
      have hob := hL.out.ob
      have hun := hI1.out.2
      rw [he2] at hQi
      have hqi := hQi.out.1
      have hps : (onPs E vv1 vd1 vu1 s1)[2]? = some (rowP E.B 3 1 vu1 (st.under ++ [(q : Int)]).length (ints (st.under ++ [(q : Int)]))) := by rw [← hun]; rfl
      obtain ⟨gp, cp, evu, hcp, hcpm, hgp, hBp, hpop1, hpop2⟩ := hob.pop_row 2 4 hps
      subst evu
      obtain ⟨x0, x1, x2, x3, x4, f3, f4, hz⟩ := OnAt.cells hob
      unfold maxLen at hcpm
      have hqv : q < s1.vals.length := Nat.lt_of_lt_of_eq hq hqi.vlen.symm
      have hO1 : OnAt E S m vv1 vd1 (.slice (some ⟨gp, 0, none⟩) st.under.length cp) ⟨s1.vals, s1.done, st.under⟩ (wr.setCell ⟨m, 4, none⟩ (.slice (some ⟨gp, 0, none⟩) st.under.length cp)).drew := by
        have := hpop1.drew
        simpa [onPs] using this
      have t1 : Turn (Foot m (onPs E vv1 vd1 (.slice (some ⟨gp, 0, none⟩) (st.under.length + 1) cp) s1)) (Foot m (onPs E vv1 vd1 (.slice (some ⟨gp, 0, none⟩) st.under.length cp) ⟨s1.vals, s1.done, st.under⟩)) wr (wr.setCell ⟨m, 4, none⟩ (.slice (some ⟨gp, 0, none⟩) st.under.length cp)).drew := by
        have := hpop2.drew
        simpa [onPs] using this
      have t1' := hL.out.turn.trans t1
      have hxx := hx
      have hsd : s1.done.length ≤ 10 := Nat.le_trans hqi.done hten
      replace hx := Lib.hid hx
      replace hP2 := Lib.hid hP2
      replace hO1 := Lib.hid hO1
      replace t1' := Lib.hid t1'
      replace hvx := Lib.hid hxx
      clear hw n1 n2 he he2 hEq hvv hL hst4 htp hob hun hqi hps hpop1 hpop2 hI1 t1 hQi x0 x1 x2 x3 f3 hxx hQ
      go_wp2_with fail
      go_region
      generalize hW1 : (wr.setCell ⟨m, 4, none⟩ (.slice (some ⟨gp, 0, none⟩) st.under.length cp)).drew = W1 at *
      obtain ⟨x0, x1, x2, x3, x4', f3, f4', hz'⟩ := OnAt.cells hO1.out
      obtain ⟨gv, cv, ev, c1, f1, hgv, hcv, hcvm⟩ := OnAt.val_at hO1.out hqv
      subst ev
      unfold maxLen at hcvm
      obtain ⟨p1, p2⟩ := hO1.out.put_row 0 q rfl (.int .i64 x) hqv
      have hO2 : OnAt E S m (.slice (some ⟨gv, 0, none⟩) s1.vals.length cv) vd1 (.slice (some ⟨gp, 0, none⟩) st.under.length cp) ⟨s1.vals.set q x, s1.done, st.under⟩ (W1.setCell ⟨gv, q, none⟩ (.int .i64 x)) := by
        rw [onPs_val] at p1
        exact p1
      have t2 : Turn (Foot m (onPs E (.slice (some ⟨gv, 0, none⟩) s1.vals.length cv) vd1 (.slice (some ⟨gp, 0, none⟩) st.under.length cp) ⟨s1.vals, s1.done, st.under⟩)) (Foot m (onPs E (.slice (some ⟨gv, 0, none⟩) s1.vals.length cv) vd1 (.slice (some ⟨gp, 0, none⟩) st.under.length cp) ⟨s1.vals.set q x, s1.done, st.under⟩)) W1 (W1.setCell ⟨gv, q, none⟩ (.int .i64 x)) := by
        rw [onPs_val] at p2
        exact p2
      have t2' := t1'.out.trans t2
      obtain ⟨z0, z1, z2, z3, z4, g3, g4, hz2⟩ := OnAt.cells hO2
      obtain ⟨A1, cd1, ed1, k1, k2, -⟩ := ownsRow_ints hO2.done
      subst ed1
      have hszB := hO2.size
      replace hO2 := Lib.hid hO2
      replace t2' := Lib.hid t2'
      clear p1 p2 t2 t1' hO1 hW1 x4 f4 hz
      clear z0 z1 z2 z4 g4
      go_wp2_with (at_builtin; go_loud (with_reducible refine wpList_app1 (by rfl) (.tmp 130) (.tmp 132) 26 (by rfl) intTy E.B (.slice A1 s1.done.length cd1) s1.done.length (ints s1.done) (by with_unfolding_all rfl) ((OnAt.done hO2.out).alloc _) W1.heap.size 1 [.int .i64 q] (by with_unfolding_all rfl) (by with_unfolding_all rfl) ⟨_, _, heap_new (by rw [World.size_setCell]), rfl⟩ (one_int _ _) ?_ ?_ ?_ ?_))
      · unfold maxLen; omega
      · omega
      · first | omega | (simp; omega) | (simp at hszB ⊢; omega)
      intro g7 cap7 w7 hown7 hgrow7 hat7
      have hMb := hO2.out.alloc (.cells #[.int .i64 q] 3 (0, 0))
      have hblk7 := (hgrow7.block m (block_lt hMb.blk) (fun e => hMb.far _ (List.mem_of_getElem? (i := 1) rfl) e.symm)).trans hMb.blk
      have z5 : w7.cell? ⟨m, 3, none⟩ = some (.slice A1 s1.done.length cd1) := (cellm hblk7 3).trans rfl
      have fz5 : w7.frozen? ⟨m, 3, none⟩ = false := frozenm hblk7 3
      have hset7 := hMb.set_row 1 3 rfl (xs' := ints (s1.done ++ [(q : Int)])) hgrow7 (by simpa [ints_append, ints] using hown7) (fun i hi => by cases hi; exact hat7.imp id (fun e => by simp at e ⊢; omega))
      have hO3 : OnAt E S m (.slice (some ⟨gv, 0, none⟩) s1.vals.length cv) (.slice (some ⟨g7, 0, none⟩) (s1.done.length + 1) cap7) (.slice (some ⟨gp, 0, none⟩) st.under.length cp) ⟨s1.vals.set q x, s1.done ++ [(q : Int)], st.under⟩ (w7.setCell ⟨m, 3, none⟩ (.slice (some ⟨g7, 0, none⟩) (s1.done.length + 1) cap7)) := by
        have := hset7.1
        rw [onPs_done] at this
        exact this
      have t3 : Turn (Foot m (onPs E vv (.slice Ad st.done.length cd) (.slice Au st.under.length cu) st)) (Foot m (onPs E (.slice (some ⟨gv, 0, none⟩) s1.vals.length cv) (.slice (some ⟨g7, 0, none⟩) (s1.done.length + 1) cap7) (.slice (some ⟨gp, 0, none⟩) st.under.length cp) ⟨s1.vals.set q x, s1.done ++ [(q : Int)], st.under⟩)) w (w7.setCell ⟨m, 3, none⟩ (.slice (some ⟨g7, 0, none⟩) (s1.done.length + 1) cap7)) := by
        have := (t2'.out.alloc (.cells #[.int .i64 q] 3 (0, 0))).trans hset7.2
        rw [onPs_done] at this
        exact this
      replace hO3 := Lib.hid hO3
      replace t3 := Lib.hid t3
      clear hown7 hgrow7 hat7 hMb hblk7 hset7 hO2 t2'
      go_wp2_with fail
      go_ret2
      rw [hP2.out]
      dsimp only
      rw [if_pos trivial, Int.toNat_natCast]
      exact ⟨rfl, hvx.out.1, hvx.out.2, _, ⟨_, _, _, hO3.out, rfl⟩, t3.out⟩
    | ask ky ct =>
      have hnp := nextP_ask hw
      have hkr := Itr.walk_ok got _ (Tk.itr_ok _ hok.out)
      rw [hw] at hkr
      obtain ⟨hk0', hk9', -⟩ := hkr
      have hglt := Itr.walk_le got _ _ (Tk.itr_le S.tks[q]) ky ct hw
      rw [hnp]
      have hcall := ih.out s1 ky wr _ hk0' hk9' hI1.out.1 ⟨vv1, vd1, vu1, hL.out.ob, rfl⟩
      have he := hEq.out
      rw [hw] at he
      have hI2 := hstep.out s1 ky hI1.out
      obtain ⟨X, hX⟩ : ∃ X, onceP S n s1 ky = X := ⟨_, rfl⟩
      rw [hX] at hcall hI2
      replace hcall := Lib.hid hcall
      replace he := Lib.hid he
      replace hX := Lib.hid hX
      replace hnp := Lib.hid hnp
      replace hw := Lib.hid hw
      replace hI2 := Lib.hid hI2
      clear hEq hvv hst4
      go_wp2_with fail
      refine hcall.out.mono ?_
      rintro e w5 ⟨rfl, p0, p1, F5, ⟨vv5, vd5, vu5, hs5, rfl⟩, t5⟩
      have hL5 := hL.out.key hs5 t5
      replace hL5 := Lib.hid hL5
      clear hcall hs5 t5 hL
      cases hfin : X.1.2 with
      | false =>
        have he2 : Q = ((0, false), X.2) := by rw [he.out, Itr.run_no (by rw [hX.out, hfin]; simp), hX.out]
        have hP2 := hP.out
        rw [he2] at hP2
        have hob := hL5.out.ob
        have hps : (onPs E vv5 vd5 vu5 X.2)[2]? = some (rowP E.B 3 1 vu5 (st.under ++ [(q : Int)]).length (ints (st.under ++ [(q : Int)]))) := by rw [← hI2.out.2]; rfl
        obtain ⟨gp, cp, evu, hcp, hcpm, hgp, hBp, hpop1, hpop2⟩ := hob.pop_row 2 4 hps
        subst evu
        obtain ⟨x0, x1, x2, x3, x4, f3, f4, hz⟩ := OnAt.cells hob
        unfold maxLen at hcpm
        have hO1 : OnAt E S m vv5 vd5 (.slice (some ⟨gp, 0, none⟩) st.under.length cp) ⟨X.2.vals, X.2.done, st.under⟩ (w5.setCell ⟨m, 4, none⟩ (.slice (some ⟨gp, 0, none⟩) st.under.length cp)).drew := by
          have := hpop1.drew
          simpa [onPs] using this
        have t1 : Turn (Foot m (onPs E vv5 vd5 (.slice (some ⟨gp, 0, none⟩) (st.under.length + 1) cp) X.2)) (Foot m (onPs E vv5 vd5 (.slice (some ⟨gp, 0, none⟩) st.under.length cp) ⟨X.2.vals, X.2.done, st.under⟩)) w5 (w5.setCell ⟨m, 4, none⟩ (.slice (some ⟨gp, 0, none⟩) st.under.length cp)).drew := by
          have := hpop2.drew
          simpa [onPs] using this
        have t1' := hL5.out.turn.trans t1
        replace hP2 := Lib.hid hP2
        replace hO1 := Lib.hid hO1
        replace t1' := Lib.hid t1'
        clear he2 hL5 he hX htp hob hps hpop1 hpop2 t1 x0 x1 x2 x3 f3 hQi
        go_wp2_with fail
        go_region
        go_wp2_with fail
        go_ret2
        rw [hP2.out]
        exact ⟨rfl, by simp, by simp, _, ⟨_, _, _, hO1.out, rfl⟩, t1'.out⟩
      | true =>
        have he2 : Q = ((S.tks[q].itr.walk (got ++ [X.1.1])).run (onceP S n) X.2) := by
          rw [he.out, Itr.run_yes (by rw [hX.out, hfin]), hX.out, Itr.walk_append, hw.out, Itr.walk, Itr.walk_nil]
        obtain ⟨Ag, cg, evg, hlg, hmg, hig⟩ := ownsRow_ints hL5.out.own
        subst evg
        replace he2 := Lib.hid he2
        have hL5a := hL5.out.up (below_al (Below.refl _ _) (.cells #[.int .i64 X.1.1] 3 (0, 0)))
        have hsz5 := hL5a.turn.size
        replace hL5a := Lib.hid hL5a
        clear hig he hX
        go_wp2_with (at_builtin; go_loud (with_reducible refine wpList_app1 (by rfl) (.tmp 85) (.tmp 87) 26 (by rfl) intTy w.heap.size (.slice Ag got.length cg) got.length (ints got) (by with_unfolding_all rfl) hL5a.out.own w5.heap.size 1 [.int .i64 X.1.1] (by with_unfolding_all rfl) (by with_unfolding_all rfl) ⟨_, _, heap_alloc_new w5 _, rfl⟩ (one_int _ _) ?_ ?_ ?_ ?_))
        · unfold maxLen; omega
        · omega
        · exact hsz5
        intro g6 cap6 w6 hown6 hgrow6 hat6
        have hL6 := hL5.out.app (x := X.1.1) (v' := .slice (some ⟨g6, 0, none⟩) (got.length + 1) cap6) hgrow6 hown6 ⟨p0, p1⟩ (fun i hi => by cases hi; exact hat6.imp id (fun e => by simp at e ⊢; omega))
        obtain ⟨y0, y1, y2, y3, y4, e3, e4, hzm⟩ := OnAt.cells hL6.ob
        obtain ⟨bt, ot, At', ct', et2, hbt, ht0, ht1, ht2, htc, htm, htp⟩ := hE.out.sheet.tasks.at hL6.ob.below q (by simpa using hql)
        simp only [List.getElem_map] at ht0 ht1 ht2 htc htp
        have hbt3 := Nat.lt_of_lt_of_le hbt hL6.ob.size
        rw [et2] at y1
        obtain ⟨Ah, ch, eh, hlh, hmh, hih⟩ := ownsRow_ints hL6.own
        have hlen6 : (got ++ [X.1.1]).length = got.length + 1 := by simp
        have eh2 := eh
        rw [hlen6] at eh2
        simp only [Value.slice.injEq, true_and] at eh2
        obtain ⟨rfl, rfl⟩ := eh2
        have hnx := l2Next_calls S.tks[q] At' ct' (got ++ [X.1.1]) (some ⟨g6, 0, none⟩) cap6 E.B E.w0 w6 hL6.ob.below hL6.ob.size hok.out htc htp hih hL6.vals (by simp; omega)
        rw [hlen6] at hnx
        replace hnx := Lib.hid hnx
        replace hL6 := Lib.hid hL6
        replace hlen6 := Lib.hid hlen6
        replace htp := Lib.hid htp
        clear hown6 hgrow6 hat6 hL5 hL5a eh hih
        go_wp2_with fail
        refine hnx.out.mono ?_
        rintro e w7 ⟨rfl, v0, v1, hb7⟩
        have hL7 := hL6.out.up hb7
        replace hL7 := Lib.hid hL7
        clear hnx hL6 hb7 y0 y1 y2 y3 y4 e3 e4 hzm ht0 ht1 ht2
        go_wp2_with fail
        go_roundw
        case rel => exact ⟨got ++ [X.1.1], X.2, _, _, _, by rw [hlen6.out]; omega, rfl, rfl, rfl, hL7, hI2, he2, Lib.hid ⟨v0, v1⟩, by rw [hlen6.out]; rfl⟩
        case measure => simp only [lenOf]; omega
end Go.Proofs.Ytpccgdkidnkppaa

set_option linter.unusedVariables false
set_option linter.unusedSimpArgs false
namespace Go.Proofs.Ytpccgdkidnkppaa
open Go Go.RowKit

theorem okey_calls (E : MkEnv) (S : Sh) (hE : E.Good S) (m : Nat) : ∀ (n : Nat) (st : OSt) (k : Int) (w : World) (F : Nat → Prop), 0 ≤ k → k ≤ 9 → OInv S n st → OnI E S m st w F →
    Calls Try.prog 85 #[.pointer (some ⟨m, 0, none⟩), .int .i64 k] w (Gives (OnI E S m) F w (onceP S n st k)) := by
  intro n
  induction n with
  | zero =>
    intro st k w F hk0 hk9 hi h
    cases hmk : mkK S.made k with
    | false => exact okey_unmade E S hE m 0 st k w F hk0 hk9 hi h hmk
    | true =>
      cases hd : st.done.contains k with
      | true => exact okey_made E S hE m 0 st k w F hk0 hk9 hi h hmk (.inl hd)
      | false =>
        cases hu : st.under.contains k with
        | true => exact okey_made E S hE m 0 st k w F hk0 hk9 hi h hmk (.inr hu)
        | false =>
          exfalso
          have hkr := mkK_range (show mkK S.made k ≠ false by rw [hmk]; simp)
          have h1 : (k :: st.under).Nodup := List.nodup_cons.2 ⟨by simpa using hu, hi.under.nodup⟩
          have h2 := nodup_bound (n := S.made.length) h1 (fun x hx => by
            rcases List.mem_cons.1 hx with rfl | hx
            · exact hkr
            · exact hi.under.range x hx)
          have h3 := hi.under.fuel
          simp at h2
          omega
  | succ n ih =>
    intro st k w F hk0 hk9 hi h
    cases hmk : mkK S.made k with
    | false => exact okey_unmade E S hE m (n + 1) st k w F hk0 hk9 hi h hmk
    | true =>
      cases hd : st.done.contains k with
      | true => exact okey_made E S hE m (n + 1) st k w F hk0 hk9 hi h hmk (.inl hd)
      | false =>
        cases hu : st.under.contains k with
        | true => exact okey_made E S hE m (n + 1) st k w F hk0 hk9 hi h hmk (.inr hu)
        | false => exact okey_new E S hE m n ih st k w F hk0 hk9 hi h hmk hd hu

theorem keysOk_drop {n : Nat} {keys : List Int} {j : Nat} (h : j < keys.length) : keysOk n (keys.drop j) = (decide (0 ≤ keys[j] ∧ keys[j] < n) && keysOk n (keys.drop (j + 1))) := by
  unfold keysOk
  rw [List.drop_eq_getElem_cons h, List.all_cons]
set_option maxHeartbeats 1000000 in
theorem l4Keys_calls (Am At Ak : Option Addr) (cm ct ck : Nat) (made : List Bool) (tasks : List Task) (keys : List Int) (B : Nat) (w0 w : World) (hb : Below B w0 w) (hB : B ≤ w.heap.size) (hs : SheetAt B w0 Am cm At ct made tasks) (hnod : ∀ T ∈ tasks, nodes T ≤ 1000000000) (hml : (made.length : Int) ≤ 9223372036854775807) (hm : keys.length ≤ maxLen) (hx : IntsAt B w0 Ak keys) :
    Calls Try.prog 55 #[.agg #[.slice Am made.length cm, .slice At tasks.length ct], .slice Ak keys.length ck] w fun e w' => e = .returned (.bool (keysOk made.length keys && sheetOk made tasks)) ∧ Below w.heap.size w w' := by
  have hc1 := fun w1 (hw : Below w.heap.size w w1) => specSheetOk_calls Am At cm ct made tasks B w0 w1 (below_up' hb hB hw) (Nat.le_trans hB hw.size) hs hnod
  have hc2 := fun k w1 => l6In_calls k 0 ((made.length : Int) - 1) w1
  have hwr : IntKind.i64.wrap ((made.length : Int) - 1) = (made.length : Int) - 1 := by simp [IntKind.wrap, IntKind.bits, IntKind.signed]; omega
  generalize hsk : sheetOk made tasks = sk at *
  replace hc1 := Lib.hid hc1
  replace hc2 := Lib.hid hc2
  replace hx := Lib.hid hx
  replace hb := Lib.hid hb
  replace hsk := Lib.hid hsk
  unfold maxLen at hm
  clear hs hnod
  go_enter Try.func55, Try.ntmps55
  go_wp2_with fail
  go_loopw [5] (fun i wr => ∃ (j : Nat), j ≤ keys.length ∧ i = .int .i64 j ∧ Hid (Below w.heap.size w wr) ∧ w.heap.size < wr.heap.size ∧ wr.cell? ⟨w.heap.size, 0, none⟩ = some (.slice Am made.length cm) ∧ wr.cell? ⟨w.heap.size, 1, none⟩ = some (.slice At tasks.length ct) ∧
    Hid (keysOk made.length keys = keysOk made.length (keys.drop j))) (fun i _ => keys.length - (intOf i).toNat)
  case atStart => exact ⟨0, Nat.zero_le _, rfl, Lib.hid (below_al (Below.refl _ _) _), by simp, by simp, by simp, Lib.hid rfl⟩
  case round =>
    obtain ⟨j, hj, rfl, hw, hz, x0, x1, he⟩ := hrel
    by_cases hlt : j < keys.length
    · have he2 := he.out
      rw [keysOk_drop hlt] at he2
      obtain ⟨b, o, rfl, hbb, y⟩ := hx.out.at (below_up' hb.out hB hw.out) (Nat.le_trans hB hw.out.size) j hlt
      have hcall := hc2.out keys[j]
      generalize keys[j] = k at *
      have hdd : decide (0 ≤ k ∧ k ≤ (made.length : Int) - 1) = decide (0 ≤ k ∧ k < (made.length : Int)) := by
        by_cases h1 : 0 ≤ k ∧ k < (made.length : Int)
        · rw [decide_eq_true h1, decide_eq_true (by omega)]
        · rw [decide_eq_false h1, decide_eq_false (by omega)]
      rw [hdd] at hcall
      generalize decide (0 ≤ k ∧ k < (made.length : Int)) = d at *
      replace hcall := Lib.hid hcall
      replace hdd := Lib.hid hdd
      replace he2 := Lib.hid he2
      clear he
      go_wp2_with fail
      go_region_law (go_simp; go_at_call 108; refine (hcall.out _).mono ?_; rintro e w5 ⟨rfl, rfl⟩)
      all_goals
        cases d with
        | true =>
          have he3 := he2.out
          simp only [Bool.true_and] at he3
          replace he3 := Lib.hid he3
          go_wp2_with fail
          go_roundw
          case rel => exact ⟨j + 1, by omega, by go_num, Lib.hid hw.out.drew, hz, x0, x1, he3⟩
          case measure => simp [intOf]; omega
        | false =>
          have he3 := he2.out
          simp only [Bool.false_and] at he3
          replace he3 := Lib.hid he3
          go_wp2_with fail
          go_ret
          exact ⟨by rw [he3.out]; rfl, hw.out.drew⟩
    · have hd : keys.drop j = [] := List.drop_eq_nil_of_le (by omega)
      have he2 := he.out
      rw [hd] at he2
      replace he2 := Lib.hid he2
      replace hd := Lib.hid hd
      have hcall := hc1.out wr hw.out
      replace hcall := Lib.hid hcall
      clear he
      go_wp2_with fail
      refine hcall.out.mono ?_
      rintro e w5 ⟨rfl, h5⟩
      have hw5 := below_up hw.out h5
      replace hw5 := Lib.hid hw5
      clear h5 hcall
      go_wp2_with fail
      go_ret
      exact ⟨by rw [he2.out]; simp [keysOk], hw5.out⟩
end Go.Proofs.Ytpccgdkidnkppaa
