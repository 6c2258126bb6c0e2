import Derived.Test.YtagmdljdcnmpdaaClone
import Derived.Test.YtagmdljdcnmpdaaRun
import Derived.Test.YtagmdljdcnmpdaaTaskOk
import Derived.Deep.RegionWith
set_option linter.unusedVariables false
set_option linter.unusedSimpArgs false
namespace Go.Proofs.Ytagmdljdcnmpdaa
open Go Go.RowKit

/-- what was fetched -/
def fets (l : List (Int × Int)) : List Value := l.flatMap fun x => [Value.int .i64 x.1, Value.int .i64 x.2]
theorem fets_length (l : List (Int × Int)) : (fets l).length = l.length * 2 := by
  induction l with
  | nil => rfl
  | cons x l ih => simp [fets] at ih ⊢; omega
theorem fets_append (a b : List (Int × Int)) : fets (a ++ b) = fets a ++ fets b := by simp [fets]
theorem fetTy : ElemTy Try.prog 75 110 (.agg #[.int .i64 0, .int .i64 0]) 2 16 := ⟨Try.underlying75, by kernel_rfl, rfl, by omega⟩

/-- the state of a closure that takes down what is fetched: the variable's block, the values' box -/
structure FetAt (B : Nat) (w0 : World) (xs : List Int) (Ax : Option Addr) (cx : Nat) (ob vb : Nat) (v : Value) (l : List (Int × Int)) (w : World) : Prop where
  bo : w.heap[ob]? = some (.cells #[v] 75 (0, 0))
  bv : w.heap[vb]? = some (.cells #[.slice Ax xs.length cx] 27 (0, 0))
  own : w.ownsRow B 110 2 v l.length (fets l)
  hob : B ≤ ob
  hvb : B ≤ vb
  below : Below B w0 w
  size : B ≤ w.heap.size
def fetF (xs : List Int) (s : List (Int × Int)) (k : Int) : (Int × Bool) × List (Int × Int) := ((atK xs k, true), s ++ [(k, atK xs k)])

def FFoot (ob vb : Nat) (v : Value) (i : Nat) : Prop := i = ob ∨ i = vb ∨ v.ownBlock = some i
section
variable {B : Nat} {w0 : World} {xs : List Int} {Ax : Option Addr} {cx ob vb : Nat} {v : Value} {l : List (Int × Int)} {w w' : World}
theorem FetAt.ne (h : FetAt B w0 xs Ax cx ob vb v l w) : v.ownBlock ≠ some ob ∧ v.ownBlock ≠ some vb ∧ ob ≠ vb :=
  ⟨ownsRow_ne h.own h.bo (fun c e => by cases e), ownsRow_ne h.own h.bv (fun c e => by cases e), fun e => by have h1 := h.bo; rw [e, h.bv] at h1; cases h1⟩
theorem FetAt.bounds (h : FetAt B w0 xs Ax cx ob vb v l w) : ∀ i, FFoot ob vb v i → B ≤ i ∧ i < w.heap.size := by
  intro i hi
  rcases hi with rfl | rfl | hi
  · exact ⟨h.hob, block_lt h.bo⟩
  · exact ⟨h.hvb, block_lt h.bv⟩
  · exact h.own.lt i hi
theorem FetAt.kept (h : FetAt B w0 xs Ax cx ob vb v l w) (hk : ∀ i, FFoot ob vb v i → w'.heap[i]? = w.heap[i]?) (hb : Below B w0 w') (hs : B ≤ w'.heap.size) : FetAt B w0 xs Ax cx ob vb v l w' :=
  ⟨(hk ob (.inl rfl)).trans h.bo, (hk vb (.inr (.inl rfl))).trans h.bv, ownsRow_block h.own (fun i hi => hk i (.inr (.inr hi))), h.hob, h.hvb, hb, hs⟩
theorem FetAt.alloc (h : FetAt B w0 xs Ax cx ob vb v l w) (o : Obj) : FetAt B w0 xs Ax cx ob vb v l (w.alloc o) :=
  h.kept (fun i hi => heap_old (h.bounds i hi).2) (below_al' h.below o h.size) (by have := h.size; simp; omega)
theorem FetAt.drew (h : FetAt B w0 xs Ax cx ob vb v l w) : FetAt B w0 xs Ax cx ob vb v l w.drew := ⟨h.bo, h.bv, h.own, h.hob, h.hvb, h.below.drew, h.size⟩
/-- another row is stored in the variable -/
theorem FetAt.set (h : FetAt B w0 xs Ax cx ob vb v l w) {v' : Value} {l' : List (Int × Int)} (hg : w.grownBy w' v.ownBlock) (ho : w'.ownsRow B 110 2 v' l'.length (fets l')) (hv : ∀ i, v'.ownBlock = some i → v.ownBlock = some i ∨ w.heap.size ≤ i) :
    FetAt B w0 xs Ax cx ob vb v' l' (w'.setCell ⟨ob, 0, none⟩ v') ∧ Turn (FFoot ob vb v) (FFoot ob vb v') w (w'.setCell ⟨ob, 0, none⟩ v') := by
  have hlt := h.bounds
  have hb' : ∀ i, FFoot ob vb v i → v.ownBlock ≠ some i → w'.heap[i]? = w.heap[i]? := fun i hi hne => hg.block i (hlt i hi).2 (fun e => hne e.symm)
  have hblk := (hb' ob (.inl rfl) h.ne.1).trans h.bo
  have hvm : v'.ownBlock ≠ some ob := ownsRow_ne ho hblk (fun c e => by cases e)
  have t1 : Turn (FFoot ob vb v) (FFoot ob vb v') w w' := grown_turn hg (fun k hk => .inr (.inr hk)) (fun i hi => by
    rcases hi with hi | hi | hi
    · exact .inl (.inl hi)
    · exact .inl (.inr (.inl hi))
    · exact (hv i hi).imp (fun e => .inr (.inr e)) id)
  have t2 := t1.trans (setCell_turn (F := FFoot ob vb v') (a := ⟨ob, 0, none⟩) (.inl rfl) v')
  refine ⟨⟨?_, ?_, ?_, h.hob, h.hvb, ?_, ?_⟩, t2⟩
  · exact (setCell_block hblk 0 v').trans rfl
  · exact (setCell_far (fun e => h.ne.2.2 e.symm)).trans ((hb' vb (.inr (.inl rfl)) h.ne.2.1).trans h.bv)
  · exact ownsRow_block ho (fun i hi => setCell_far (own_far hi hvm))
  · exact h.below.trans (t2.below h.size (fun i hi => (hlt i hi).1))
  · exact Nat.le_trans h.size t2.size
end
def FetI (B : Nat) (w0 : World) (xs : List Int) (Ax : Option Addr) (cx ob vb u : Nat) (l : List (Int × Int)) (w : World) (F : Nat → Prop) : Prop :=
  ∃ v, FetAt B w0 xs Ax cx ob vb v l w ∧ F = FFoot ob vb v ∧ l.length + u ≤ 1000000
theorem FetI.holds (B : Nat) (w0 : World) (xs : List Int) (Ax : Option Addr) (cx ob vb u : Nat) : Holds (FetI B w0 xs Ax cx ob vb u) B w0 where
  old := by
    rintro s w F ⟨v, h, rfl, _⟩
    exact ⟨h.below, h.size⟩
  own := by
    rintro s w F ⟨v, h, rfl, _⟩
    exact h.bounds
  alloc := by
    rintro s w F o ⟨v, h, rfl, hl⟩
    exact ⟨v, h.alloc o, rfl, hl⟩

set_option maxHeartbeats 1000000 in
theorem fetched1_calls (B : Nat) (w0 : World) (xs : List Int) (Ax : Option Addr) (cx ob vb u : Nat) (hv : ∀ x ∈ xs, 0 ≤ x ∧ x ≤ 96) (hm : xs.length ≤ maxLen) (hx : IntsAt B w0 Ax xs)
    (l : List (Int × Int)) (k : Int) (w : World) (F : Nat → Prop) (hI : FetI B w0 xs Ax cx ob vb (u + 1) l w F) :
    Calls Try.prog 81 #[.int .i64 k, .pointer (some ⟨ob, 0, none⟩), .pointer (some ⟨vb, 0, none⟩)] w (Gives (FetI B w0 xs Ax cx ob vb u) F w (fetF xs l k)) := by
  obtain ⟨v, h, rfl, hl⟩ := hI
  have o0 : w.cell? ⟨ob, 0, none⟩ = some v := (cell_of_row w ob 0 _ _ _ h.bo).trans rfl
  have v0 : w.cell? ⟨vb, 0, none⟩ = some (.slice Ax xs.length cx) := (cell_of_row w vb 0 _ _ _ h.bv).trans rfl
  have hc := fun (w1 : World) (hb1 : Below B w0 w1) (hB1 : B ≤ w1.heap.size) => at_calls Ax cx k xs B w0 w1 hb1 hB1 hm hx
  have hat96 : 0 ≤ atK xs k ∧ atK xs k ≤ 96 := by
    unfold atK
    split
    · omega
    · by_cases h1 : k.toNat < xs.length
      · rw [getD_at _ h1]; exact hv _ (List.getElem_mem _)
      · rw [getD_out _ (by omega)]; omega
  have hne := h.ne.1
  have hlt := block_lt h.bo
  replace h := Lib.hid h
  replace hc := Lib.hid hc
  replace hne := Lib.hid hne
  replace hat96 := Lib.hid hat96
  clear hx hv
  go_enter Try.func81, Try.ntmps81
  go_wp2_with fail
  go_region_law (first | ((with_reducible refine step_app1 (by rfl) (.tmp 6) (.tmp 12) 75 (by rfl) fetTy B v l.length (fets l) (by with_unfolding_all rfl) ?_ w.heap.size 1 [.int .i64 k, .int .i64 (atK xs k)] (by with_unfolding_all rfl) (by with_unfolding_all rfl) ?_ ?_ ?_ ?_ ?_ ?_); (exact (h.out.own.alloc _).drew); (exact ⟨_, _, heap_alloc_new w _, rfl⟩); (simp [Value.oneCell']); (unfold maxLen; omega); (omega); (have := h.out.size; simp; omega); intro g cap w1 hown hgrow hat; have hb1 := (far_grown_drew hgrow hlt hne.out).trans h.out.bo; have q1 : w1.cell? ⟨ob, 0, none⟩ = some v := (cellm hb1 0).trans rfl; have q2 : w1.frozen? ⟨ob, 0, none⟩ = false := frozenm hb1 0) | (go_simp; go_at_call 74; refine (hc.out _ h.out.below.drew h.out.size).mono ?_; rintro e w' ⟨rfl, rfl⟩))
  all_goals
    have hset := (h.out.alloc _).drew.set (l' := l ++ [(k, atK xs k)]) hgrow (by simpa [fets_append, fets] using hown) (fun i hi => by cases hi; exact hat.imp id (fun e => by first | omega | (simp; omega) | (simp at e; simp; omega)))
    have y0 := (cellm hset.1.bv 0).trans rfl
    have t := (((below_turn (F := FFoot ob vb v) (below_al (Below.refl w.heap.size w) _)).drew).trans hset.2)
    have hF := hset.1
    replace t := Lib.hid t
    replace hF := Lib.hid hF
    clear hown hgrow hat hb1 q1 q2 hset
    generalize hw2 : w1.setCell ⟨ob, 0, none⟩ (.slice (some ⟨g, 0, none⟩) (l.length + 1) cap) = w2 at *
    go_wp2_with (go_at_call 74; refine (hc.out _ hF.out.below hF.out.size).mono ?_; rintro e w' ⟨rfl, rfl⟩)
    go_ret2
    exact ⟨rfl, hat96.out.1, hat96.out.2, _, ⟨_, hF.out, rfl, by first | omega | (simp [fetF]; omega)⟩, t.out⟩

/-- what a task gives with values, and what it fetches -/
def fetchedP (t : Tk) (xs : List Int) : (Int × Bool) × List (Int × Int) := t.run (fetF xs) []

theorem fets_le : ∀ t : Tk, (t.fets : Int) ≤ nodes t.enc := by
  intro t
  induction t with
  | num n => simp [Tk.fets, Tk.enc, nodes, nodesL]
  | get k => simp [Tk.fets, Tk.enc, nodes, nodesL]
  | add a b iha ihb => simp only [Tk.fets, Tk.enc, nodes, nodesL]; omega
  | mul a b iha ihb => simp only [Tk.fets, Tk.enc, nodes, nodesL]; omega
  | cond a b d iha ihb ihd => simp only [Tk.fets, Tk.enc, nodes, nodesL]; omega
  | ix n a iha => simp only [Tk.fets, Tk.enc, nodes, nodesL]; omega

set_option maxHeartbeats 1000000 in
theorem fetched_calls (t : Tk) (A : Option Addr) (c : Nat) (xs : List Int) (Ax : Option Addr) (cx B : Nat) (w0 w : World) (hb : Below B w0 w) (hB : B ≤ w.heap.size) (hok : t.ok) (hf : t.fets ≤ 100) (hc : t.enc.parts.length ≤ c) (hp : PartsIs B w0 A 0 t.enc.parts)
    (hm : xs.length ≤ maxLen) (hx : IntsAt B w0 Ax xs) (hv : ∀ x ∈ xs, 0 ≤ x ∧ x ≤ 96) :
    Calls Try.prog 50 #[.agg #[.int .i64 t.enc.kind, .int .i64 t.enc.n, .slice A t.enc.parts.length c], .slice Ax xs.length cx] w fun e w' =>
      ∃ v, e = .returned (.tuple #[.int .i64 (fetchedP t xs).1.1, v]) ∧ w'.ownsRow w.heap.size 110 2 v (fetchedP t xs).2.length (fets (fetchedP t xs).2) ∧ Below w.heap.size w w' := by
  have hx' : IntsAt w.heap.size w Ax xs := hx.up hb hB
  have hp' : PartsIs w.heap.size w A 0 t.enc.parts := PartsIs.up hb hB _ _ _ hp
  have hrun := fun (ob vb : Nat) (w1 : World) (F : Nat → Prop) (hI : FetI w.heap.size w xs Ax cx ob vb (0 + t.fets) [] w1 F) =>
    run_callsN (FetI w.heap.size w xs Ax cx ob vb) (fetF xs) 81 #[] #[.pointer (some ⟨ob, 0, none⟩), .pointer (some ⟨vb, 0, none⟩)] w.heap.size w
      (enters_of Try.func81 (by kernel_rfl) rfl) (fun n => FetI.holds _ _ _ _ _ _ _ n) (fun n s w F ⟨v, h1, h2, h3⟩ => ⟨v, h1, h2, by omega⟩)
      (fun n s k w2 F h _ _ => by simpa using fetched1_calls w.heap.size w xs Ax cx ob vb n hv hm hx' s k w2 F h) t 0 A c [] w1 F hok hI hc hp'
  obtain ⟨r, hr⟩ : ∃ r, fetchedP t xs = r := ⟨_, rfl⟩
  rw [hr]
  unfold fetchedP at hr
  rw [hr] at hrun
  replace hrun := Lib.hid hrun
  replace hr := Lib.hid hr
  clear hx hp hp' hx' hv hok
  go_enter Try.func50, Try.ntmps50
  go_wp2_with fail
  refine (hrun.out (w.heap.size + 2) (w.heap.size + 1) _ _ ⟨.slice none 0 0, ⟨?_, ?_, World.ownsRow_nil _ _ _ _, ?_, ?_, ?_, ?_⟩, rfl, ?_⟩).mono ?_
  · exact heap_new (by simp)
  · exact (heap_old (by simp)).trans (heap_new (by simp))
  · omega
  · omega
  · exact below_al (below_al (below_al (Below.refl _ _) _) _) _
  · simp; omega
  · simp; omega
  rintro e w1 ⟨rfl, v1, v2, F, ⟨v, hF, rfl, _⟩, t1⟩
  have o0 : w1.cell? ⟨w.heap.size + 2, 0, none⟩ = some v := (cellm hF.bo 0).trans rfl
  have hb1 := hF.below
  have hown := hF.own
  replace hb1 := Lib.hid hb1
  replace hown := Lib.hid hown
  clear hF t1
  go_wp2_with fail
  go_region
  go_wp2_with fail
  go_ret2
  exact ⟨v, rfl, hown.out, hb1.out.drew⟩
end Go.Proofs.Ytagmdljdcnmpdaa
