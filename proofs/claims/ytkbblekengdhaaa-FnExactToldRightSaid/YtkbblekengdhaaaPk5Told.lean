import Derived.Deep.RegionWith
import Derived.WalkSmall
import Derived.Test.YtkbblekengdhaaaPk1Told
import Derived.Test.YtkbblekengdhaaaPk3Told
import Derived.Test.YtkbblekengdhaaaPk4Told
set_option linter.unusedVariables false
set_option linter.unusedSimpArgs false
namespace Go.Proofs.Ytkbblekengdhaaa
open Go Go.RowKit

/-- what was fetched -/
def fets (l : List (Int × Int)) : List Value := l.flatMap fun x => [Value.int .i64 x.1, Value.int .i64 x.2]
theorem fets_length (l : List (Int × Int)) : (fets l).length = l.length * 2 := by
  induction l with
  | nil => rfl
  | cons x l ih => simp [fets] at ih ⊢; omega
theorem fets_append (a b : List (Int × Int)) : fets (a ++ b) = fets a ++ fets b := by simp [fets]
theorem fetTy : ElemTy Try.prog 89 130 (.agg #[.int .i64 0, .int .i64 0]) 2 16 := ⟨Try.underlying89, by kernel_rfl, rfl, by omega⟩

/-- the state of a closure that takes down what is fetched: the variable's block, the values' box -/
structure FetAt (B : Nat) (w0 : World) (xs : List Int) (Ax : Option Addr) (cx : Nat) (ob vb : Nat) (v : Value) (l : List (Int × Int)) (w : World) : Prop where
  bo : w.heap[ob]? = some (.cells #[v] 89 (0, 0))
  bv : w.heap[vb]? = some (.cells #[.slice Ax xs.length cx] 28 (0, 0))
  own : w.ownsRow B 130 2 v l.length (fets l)
  hob : B ≤ ob
  hvb : B ≤ vb
  below : Below B w0 w
  size : B ≤ w.heap.size
def fetF (xs : List Int) (s : List (Int × Int)) (k : Int) : (Int × Bool) × List (Int × Int) := ((atK xs k, true), s ++ [(k, atK xs k)])

def FFoot (ob vb : Nat) (v : Value) (i : Nat) : Prop := i = ob ∨ i = vb ∨ v.ownBlock = some i
section
variable {B : Nat} {w0 : World} {xs : List Int} {Ax : Option Addr} {cx ob vb : Nat} {v : Value} {l : List (Int × Int)} {w w' : World}
theorem FetAt.ne (h : FetAt B w0 xs Ax cx ob vb v l w) : v.ownBlock ≠ some ob ∧ v.ownBlock ≠ some vb ∧ ob ≠ vb :=
  ⟨ownsRow_ne h.own h.bo (fun c e => by cases e), ownsRow_ne h.own h.bv (fun c e => by cases e), fun e => by have h1 := h.bo; rw [e, h.bv] at h1; cases h1⟩
theorem FetAt.bounds (h : FetAt B w0 xs Ax cx ob vb v l w) : ∀ i, FFoot ob vb v i → B ≤ i ∧ i < w.heap.size := by
  intro i hi
  rcases hi with rfl | rfl | hi
  · exact ⟨h.hob, block_lt h.bo⟩
  · exact ⟨h.hvb, block_lt h.bv⟩
  · exact h.own.lt i hi
theorem FetAt.kept (h : FetAt B w0 xs Ax cx ob vb v l w) (hk : ∀ i, FFoot ob vb v i → w'.heap[i]? = w.heap[i]?) (hb : Below B w0 w') (hs : B ≤ w'.heap.size) : FetAt B w0 xs Ax cx ob vb v l w' :=
  ⟨(hk ob (.inl rfl)).trans h.bo, (hk vb (.inr (.inl rfl))).trans h.bv, ownsRow_block h.own (fun i hi => hk i (.inr (.inr hi))), h.hob, h.hvb, hb, hs⟩
theorem FetAt.alloc (h : FetAt B w0 xs Ax cx ob vb v l w) (o : Obj) : FetAt B w0 xs Ax cx ob vb v l (w.alloc o) :=
  h.kept (fun i hi => heap_old (h.bounds i hi).2) (below_al' h.below o h.size) (by have := h.size; simp; omega)
theorem FetAt.drew (h : FetAt B w0 xs Ax cx ob vb v l w) : FetAt B w0 xs Ax cx ob vb v l w.drew := ⟨h.bo, h.bv, h.own, h.hob, h.hvb, h.below.drew, h.size⟩
/-- another row is stored in the variable -/
theorem FetAt.set (h : FetAt B w0 xs Ax cx ob vb v l w) {v' : Value} {l' : List (Int × Int)} (hg : w.grownBy w' v.ownBlock) (ho : w'.ownsRow B 130 2 v' l'.length (fets l')) (hv : ∀ i, v'.ownBlock = some i → v.ownBlock = some i ∨ w.heap.size ≤ i) :
    FetAt B w0 xs Ax cx ob vb v' l' (w'.setCell ⟨ob, 0, none⟩ v') ∧ Turn (FFoot ob vb v) (FFoot ob vb v') w (w'.setCell ⟨ob, 0, none⟩ v') := by
  have hlt := h.bounds
  have hb' : ∀ i, FFoot ob vb v i → v.ownBlock ≠ some i → w'.heap[i]? = w.heap[i]? := fun i hi hne => hg.block i (hlt i hi).2 (fun e => hne e.symm)
  have hblk := (hb' ob (.inl rfl) h.ne.1).trans h.bo
  have hvm : v'.ownBlock ≠ some ob := ownsRow_ne ho hblk (fun c e => by cases e)
  have t1 : Turn (FFoot ob vb v) (FFoot ob vb v') w w' := grown_turn hg (fun k hk => .inr (.inr hk)) (fun i hi => by
    rcases hi with hi | hi | hi
    · exact .inl (.inl hi)
    · exact .inl (.inr (.inl hi))
    · exact (hv i hi).imp (fun e => .inr (.inr e)) id)
  have t2 := t1.trans (setCell_turn (F := FFoot ob vb v') (a := ⟨ob, 0, none⟩) (.inl rfl) v')
  refine ⟨⟨?_, ?_, ?_, h.hob, h.hvb, ?_, ?_⟩, t2⟩
  · exact (setCell_block hblk 0 v').trans rfl
  · exact (setCell_far (fun e => h.ne.2.2 e.symm)).trans ((hb' vb (.inr (.inl rfl)) h.ne.2.1).trans h.bv)
  · exact ownsRow_block ho (fun i hi => setCell_far (own_far hi hvm))
  · exact h.below.trans (t2.below h.size (fun i hi => (hlt i hi).1))
  · exact Nat.le_trans h.size t2.size
end
def FetI (B : Nat) (w0 : World) (xs : List Int) (Ax : Option Addr) (cx ob vb u : Nat) (l : List (Int × Int)) (w : World) (F : Nat → Prop) : Prop :=
  ∃ v, FetAt B w0 xs Ax cx ob vb v l w ∧ F = FFoot ob vb v ∧ l.length + u ≤ 1000000
theorem FetI.holds (B : Nat) (w0 : World) (xs : List Int) (Ax : Option Addr) (cx ob vb u : Nat) : Holds (FetI B w0 xs Ax cx ob vb u) B w0 where
  old := by
    rintro s w F ⟨v, h, rfl, _⟩
    exact ⟨h.below, h.size⟩
  own := by
    rintro s w F ⟨v, h, rfl, _⟩
    exact h.bounds
  alloc := by
    rintro s w F o ⟨v, h, rfl, hl⟩
    exact ⟨v, h.alloc o, rfl, hl⟩

set_option maxHeartbeats 1000000 in
theorem fetched1_calls (B : Nat) (w0 : World) (xs : List Int) (Ax : Option Addr) (cx ob vb u : Nat) (hv : ∀ x ∈ xs, 0 ≤ x ∧ x ≤ 96) (hm : xs.length ≤ maxLen) (hx : IntsAt B w0 Ax xs)
    (l : List (Int × Int)) (k : Int) (w : World) (F : Nat → Prop) (hI : FetI B w0 xs Ax cx ob vb (u + 1) l w F) :
    Calls Try.prog 116 #[.int .i64 k, .pointer (some ⟨ob, 0, none⟩), .pointer (some ⟨vb, 0, none⟩)] w (Gives (FetI B w0 xs Ax cx ob vb u) F w (fetF xs l k)) := by
  obtain ⟨v, h, rfl, hl⟩ := hI
  have o0 : w.cell? ⟨ob, 0, none⟩ = some v := (cell_of_row w ob 0 _ _ _ h.bo).trans rfl
  have v0 : w.cell? ⟨vb, 0, none⟩ = some (.slice Ax xs.length cx) := (cell_of_row w vb 0 _ _ _ h.bv).trans rfl
  have hc := fun (w1 : World) (hb1 : Below B w0 w1) (hB1 : B ≤ w1.heap.size) => at_calls Ax cx k xs B w0 w1 hb1 hB1 hm hx
  have hat96 : 0 ≤ atK xs k ∧ atK xs k ≤ 96 := by
    unfold atK
    split
    · omega
    · by_cases h1 : k.toNat < xs.length
      · rw [getD_at _ h1]; exact hv _ (List.getElem_mem _)
      · rw [getD_out _ (by omega)]; omega
  have hne := h.ne.1
  have hlt := block_lt h.bo
  replace h := Lib.hid h
  replace hc := Lib.hid hc
  replace hne := Lib.hid hne
  replace hat96 := Lib.hid hat96
  clear hx hv
  go_enter Try.func116, Try.ntmps116
  go_wp2_with fail
  go_region_law (first | ((with_reducible refine step_app1 (by rfl) (.tmp 6) (.tmp 12) 89 (by rfl) fetTy B v l.length (fets l) (by with_unfolding_all rfl) ?_ w.heap.size 1 [.int .i64 k, .int .i64 (atK xs k)] (by with_unfolding_all rfl) (by with_unfolding_all rfl) ?_ ?_ ?_ ?_ ?_ ?_); (exact (h.out.own.alloc _).drew); (exact ⟨_, _, heap_alloc_new w _, rfl⟩); (simp [Value.oneCell']); (unfold maxLen; omega); (omega); (have := h.out.size; simp; omega); intro g cap w1 hown hgrow hat; have hb1 := (far_grown_drew hgrow hlt hne.out).trans h.out.bo; have q1 : w1.cell? ⟨ob, 0, none⟩ = some v := (cellm hb1 0).trans rfl; have q2 : w1.frozen? ⟨ob, 0, none⟩ = false := frozenm hb1 0) | (go_simp; go_at_call 117; refine (hc.out _ h.out.below.drew h.out.size).mono ?_; rintro e w' ⟨rfl, rfl⟩))
  all_goals
    have hset := (h.out.alloc _).drew.set (l' := l ++ [(k, atK xs k)]) hgrow (by simpa [fets_append, fets] using hown) (fun i hi => by cases hi; exact hat.imp id (fun e => by first | omega | (simp; omega) | (simp at e; simp; omega)))
    have y0 := (cellm hset.1.bv 0).trans rfl
    have t := (((below_turn (F := FFoot ob vb v) (below_al (Below.refl w.heap.size w) _)).drew).trans hset.2)
    have hF := hset.1
    replace t := Lib.hid t
    replace hF := Lib.hid hF
    clear hown hgrow hat hb1 q1 q2 hset
    generalize hw2 : w1.setCell ⟨ob, 0, none⟩ (.slice (some ⟨g, 0, none⟩) (l.length + 1) cap) = w2 at *
    go_wp2_with (go_at_call 117; refine (hc.out _ hF.out.below hF.out.size).mono ?_; rintro e w' ⟨rfl, rfl⟩)
    go_ret2
    exact ⟨rfl, hat96.out.1, hat96.out.2, _, ⟨_, hF.out, rfl, by first | omega | (simp [fetF]; omega)⟩, t.out⟩

/-- what a task gives with values, and what it fetches -/
def fetchedP (t : Tk) (xs : List Int) : (Int × Bool) × List (Int × Int) := t.run (fetF xs) []

theorem fets_le : ∀ t : Tk, (t.fets : Int) ≤ nodes t.enc := by
  intro t
  induction t with
  | num n => simp [Tk.fets, Tk.enc, nodes, nodesL]
  | get k => simp [Tk.fets, Tk.enc, nodes, nodesL]
  | add a b iha ihb => simp only [Tk.fets, Tk.enc, nodes, nodesL]; omega
  | mul a b iha ihb => simp only [Tk.fets, Tk.enc, nodes, nodesL]; omega
  | cond a b d iha ihb ihd => simp only [Tk.fets, Tk.enc, nodes, nodesL]; omega
  | ix n a iha => simp only [Tk.fets, Tk.enc, nodes, nodesL]; omega

set_option maxHeartbeats 1000000 in
theorem fetched_calls (t : Tk) (A : Option Addr) (c : Nat) (xs : List Int) (Ax : Option Addr) (cx B : Nat) (w0 w : World) (hb : Below B w0 w) (hB : B ≤ w.heap.size) (hok : t.ok) (hf : t.fets ≤ 100) (hc : t.enc.parts.length ≤ c) (hp : PartsIs B w0 A 0 t.enc.parts)
    (hm : xs.length ≤ maxLen) (hx : IntsAt B w0 Ax xs) (hv : ∀ x ∈ xs, 0 ≤ x ∧ x ≤ 96) :
    Calls Try.prog 83 #[.agg #[.int .i64 t.enc.kind, .int .i64 t.enc.n, .slice A t.enc.parts.length c], .slice Ax xs.length cx] w fun e w' =>
      ∃ v, e = .returned (.tuple #[.int .i64 (fetchedP t xs).1.1, v]) ∧ w'.ownsRow w.heap.size 130 2 v (fetchedP t xs).2.length (fets (fetchedP t xs).2) ∧ Below w.heap.size w w' := by
  have hx' : IntsAt w.heap.size w Ax xs := hx.up hb hB
  have hp' : PartsIs w.heap.size w A 0 t.enc.parts := PartsIs.up hb hB _ _ _ hp
  have hrun := fun (ob vb : Nat) (w1 : World) (F : Nat → Prop) (hI : FetI w.heap.size w xs Ax cx ob vb (0 + t.fets) [] w1 F) =>
    run_callsN (FetI w.heap.size w xs Ax cx ob vb) (fetF xs) 116 #[] #[.pointer (some ⟨ob, 0, none⟩), .pointer (some ⟨vb, 0, none⟩)] w.heap.size w
      (enters_of Try.func116 (by kernel_rfl) rfl) (fun n => FetI.holds _ _ _ _ _ _ _ n) (fun n s w F ⟨v, h1, h2, h3⟩ => ⟨v, h1, h2, by omega⟩)
      (fun n s k w2 F h _ _ => by simpa using fetched1_calls w.heap.size w xs Ax cx ob vb n hv hm hx' s k w2 F h) t 0 A c [] w1 F hok hI hc hp'
  obtain ⟨r, hr⟩ : ∃ r, fetchedP t xs = r := ⟨_, rfl⟩
  rw [hr]
  unfold fetchedP at hr
  rw [hr] at hrun
  replace hrun := Lib.hid hrun
  replace hr := Lib.hid hr
  clear hx hp hp' hx' hv hok
  go_enter Try.func83, Try.ntmps83
  go_wp2_with fail
  refine (hrun.out (w.heap.size + 2) (w.heap.size + 1) _ _ ⟨.slice none 0 0, ⟨?_, ?_, World.ownsRow_nil _ _ _ _, ?_, ?_, ?_, ?_⟩, rfl, ?_⟩).mono ?_
  · exact heap_new (by simp)
  · exact (heap_old (by simp)).trans (heap_new (by simp))
  · omega
  · omega
  · exact below_al (below_al (below_al (Below.refl _ _) _) _) _
  · simp; omega
  · simp; omega
  rintro e w1 ⟨rfl, v1, v2, F, ⟨v, hF, rfl, _⟩, t1⟩
  have o0 : w1.cell? ⟨w.heap.size + 2, 0, none⟩ = some v := (cellm hF.bo 0).trans rfl
  have hb1 := hF.below
  have hown := hF.own
  replace hb1 := Lib.hid hb1
  replace hown := Lib.hid hown
  clear hF t1
  go_wp2_with fail
  go_region
  go_wp2_with fail
  go_ret2
  exact ⟨v, rfl, hown.out, hb1.out.drew⟩
end Go.Proofs.Ytkbblekengdhaaa

set_option linter.unusedVariables false
set_option linter.unusedSimpArgs false
namespace Go.Proofs.Ytkbblekengdhaaa
open Go Go.RowKit

theorem fets_small {t : Tk} (h : okT t.enc = true) : t.fets ≤ 100 := by
  have h1 := fets_le t
  have h2 := (Bool.and_eq_true_iff.1 h).2
  simp only [decide_eq_true_eq] at h2
  omega

end Go.Proofs.Ytkbblekengdhaaa

set_option linter.unusedVariables false
set_option linter.unusedSimpArgs false
namespace Go.Proofs.Ytkbblekengdhaaa
open Go Go.RowKit

theorem Tk.itr_le : ∀ t : Tk, t.itr.le t.fets := by
  intro t
  induction t with
  | num n => trivial
  | get k => exact fun _ => trivial
  | add a b iha ihb => exact Itr.bind_le _ _ _ _ iha fun x => by have := Itr.bind_le b.itr (fun y => .done ((x + y) % 97)) _ 0 ihb fun y => trivial; simpa using this
  | mul a b iha ihb => exact Itr.bind_le _ _ _ _ iha fun x => by have := Itr.bind_le b.itr (fun y => .done ((x * y) % 97)) _ 0 ihb fun y => trivial; simpa using this
  | cond a b d iha ihb ihd =>
    have := Itr.bind_le a.itr (fun x => if x ≠ 0 then b.itr else d.itr) a.fets (b.fets + d.fets) iha fun x => by
      split
      · exact Itr.le_mono _ _ _ (by omega) ihb
      · exact Itr.le_mono _ _ _ (by omega) ihd
    simpa [Tk.itr, Tk.fets, Nat.add_assoc] using this
  | ix n a iha => exact Itr.bind_le _ _ _ _ iha fun x => fun _ => trivial
theorem sheetOkL_get : ∀ (made : List Bool) (tasks : List Task), made.length = tasks.length → sheetOkL made tasks = true → ∀ i (h : i < tasks.length), okT tasks[i] = true := by
  intro made
  induction made with
  | nil =>
    intro tasks hl _ i h
    cases tasks with
    | nil => simp at h
    | cons t ts => simp at hl
  | cons b bs ih =>
    intro tasks hl hs i h
    cases tasks with
    | nil => simp at h
    | cons t ts =>
      rw [sheetOkL_cons, Bool.and_eq_true, Bool.and_eq_true] at hs
      cases i with
      | zero => exact hs.1.1
      | succ i => exact ih ts (by simpa using hl) hs.2 i (by simpa using h)
theorem Sh.Ok.okT {S : Sh} (h : S.Ok) {q : Nat} (hq : q < S.tks.length) : Go.Proofs.Ytkbblekengdhaaa.okT S.tks[q].enc = true := by
  have h1 := h.sheet
  rw [sheetOk, Bool.and_eq_true, Bool.and_eq_true] at h1
  have := sheetOkL_get _ _ (by simpa using h.len) h1.2 q (by simpa using hq)
  simpa using this

/-- keys under way, with room for n more -/
structure UOk (S : Sh) (n : Nat) (u : List Int) : Prop where
  nodup : u.Nodup
  range : ∀ x ∈ u, 0 ≤ x ∧ x < S.made.length
  fuel : S.made.length ≤ u.length + n
theorem UOk.len {S : Sh} {n : Nat} {u : List Int} (h : UOk S n u) : u.length ≤ S.made.length := nodup_bound h.nodup h.range
theorem UOk.push {S : Sh} {n : Nat} {u : List Int} {k : Int} (h : UOk S (n + 1) u) (hk : k ∉ u) (hr : 0 ≤ k ∧ k < S.made.length) : UOk S n (u ++ [k]) := by
  refine ⟨?_, fun x hx => ?_, by have := h.fuel; simp; omega⟩
  · rw [List.nodup_append]
    exact ⟨h.nodup, by simp, fun a ha b hb => by simp only [List.mem_singleton] at hb; subst hb; intro e; exact hk (e ▸ ha)⟩
  · rcases List.mem_append.1 hx with hx | hx
    · exact h.range x hx
    · rw [List.mem_singleton.1 hx]; exact hr

theorem Turn.grown_new {F F' : Nat → Prop} {w w1 w2 : World} {row : Option Nat} (t : Turn F F' w w1) (hg : w1.grownBy w2 row) (hr : ∀ i, row = some i → w.heap.size ≤ i) : Turn F F' w w2 :=
  ⟨hg.os.trans t.os, hg.tape.trans t.tape, hg.output.trans t.output, Nat.le_trans t.size hg.size, fun i hi hn => (hg.block i (Nat.lt_of_lt_of_le hi t.size) (fun e => by have := hr i e.symm; omega)).trans (t.block i hi hn), t.fresh⟩

theorem SbAt.pop {E : MkEnv} {S : Sh} {m : Nat} {vu vc : Value} {u c : List Int} {k : Int} {w : World} (h : SbAt E S m vu vc (u ++ [k]) c w) :
    ∃ g co, vu = .slice (some ⟨g, 0, none⟩) (u.length + 1) co ∧ u.length + 1 ≤ co ∧ co ≤ maxLen ∧ g < w.heap.size ∧ E.B ≤ g ∧
      (SbAt E S m (.slice (some ⟨g, 0, none⟩) u.length co) vc u c (w.setCell ⟨m, 3, none⟩ (.slice (some ⟨g, 0, none⟩) u.length co)) ∧
        Turn (SFoot m vu vc) (SFoot m (.slice (some ⟨g, 0, none⟩) u.length co) vc) w (w.setCell ⟨m, 3, none⟩ (.slice (some ⟨g, 0, none⟩) u.length co))) := by
  have hoo := h.ou
  have e1 : (u ++ [k]).length = u.length + 1 := by simp
  rw [ints_append, e1] at hoo
  obtain ⟨g, co, hvo, hBg, hgl⟩ := hoo.form (by omega)
  subst hvo
  have hm : u.length + 1 ≤ co ∧ co ≤ maxLen := by
    rcases hoo.2 with ⟨e, _⟩ | ⟨_, _, _, e, _, _, hc, hm, _⟩
    · cases e
    · cases e; exact ⟨hc, hm⟩
  have hpop := ownsRow_pop (by simp [ints]) hoo
  exact ⟨g, co, rfl, hm.1, hm.2, hgl, hBg, h.set_under (World.grownBy.refl _ _) hpop (fun i hi => .inl hi)⟩

/-- between two fetches of a task -/
structure LpSt (E : MkEnv) (S : Sh) (m : Nat) (u : List Int) (w : World) (F : Nat → Prop) (vu vc : Value) (got c1 : List Int) (vg : Value) (wr : World) : Prop where
  sb : SbAt E S m vu vc u c1 wr
  own : wr.ownsRow w.heap.size 3 1 vg got.length (ints got)
  far : ∀ i, vg.ownBlock = some i → ¬ SFoot m vu vc i
  vals : ∀ x ∈ got, 0 ≤ x ∧ x ≤ 96
  turn : Turn F (SFoot m vu vc) w wr
  low : E.B ≤ w.heap.size
section
variable {E : MkEnv} {S : Sh} {m : Nat} {u : List Int} {w wr w2 : World} {F : Nat → Prop} {vu vc vu2 vc2 vg v' : Value} {got c1 c2 : List Int}
theorem LpSt.up (h : LpSt E S m u w F vu vc got c1 vg wr) (hb : Below wr.heap.size wr w2) : LpSt E S m u w F vu vc got c1 vg w2 :=
  ⟨h.sb.up hb, ownsRow_block h.own (fun i hi => hb.block i (h.own.lt i hi).2), h.far, h.vals, h.turn.trans (below_turn hb), h.low⟩
theorem LpSt.key (h : LpSt E S m u w F vu vc got c1 vg wr) (hs : SbAt E S m vu2 vc2 u c2 w2) (t : Turn (SFoot m vu vc) (SFoot m vu2 vc2) wr w2) : LpSt E S m u w F vu2 vc2 got c2 vg w2 :=
  ⟨hs, ownsRow_block h.own (fun i hi => t.block i (h.own.lt i hi).2 (h.far i hi)), fun i hi hf => (t.fresh i hf).elim (h.far i hi) (fun e => by have := (h.own.lt i hi).2; omega), h.vals, h.turn.trans t, h.low⟩
theorem LpSt.app (h : LpSt E S m u w F vu vc got c1 vg wr) {o : Obj} {x : Int} (hg : (wr.alloc o).grownBy w2 vg.ownBlock) (ho : w2.ownsRow w.heap.size 3 1 v' (got.length + 1) (ints got ++ [.int .i64 x])) (hx : 0 ≤ x ∧ x ≤ 96)
    (hat : ∀ i, v'.ownBlock = some i → vg.ownBlock = some i ∨ wr.heap.size ≤ i) : LpSt E S m u w F vu vc (got ++ [x]) c1 v' w2 :=
  ⟨(h.sb.alloc o).far hg (fun i hi => ⟨h.far i hi, Nat.le_trans h.low (h.own.lt i hi).1⟩), by simpa [ints_append, ints] using ho, fun i hi hf => (hat i hi).elim (fun e => h.far i e hf) (fun e => by have := (h.sb.bounds i hf).2; omega),
    fun y hy => (List.mem_append.1 hy).elim (h.vals y) (fun e => by rw [List.mem_singleton.1 e]; exact hx), (h.turn.alloc o).grown_new hg (fun i hi => (h.own.lt i hi).1), h.low⟩
end
theorem Itr.walk_nil (m : Itr) : m.walk [] = m := by cases m <;> rfl
def lenOf : Value → Nat
  | .slice _ n _ => n
  | _ => 0

set_option maxHeartbeats 4000000 in
theorem skey_new (E : MkEnv) (S : Sh) (hE : E.Good S) (m n : Nat)
    (ih : ∀ (u c : List Int) (k : Int) (w : World) (F : Nat → Prop), 0 ≤ k → k ≤ 9 → UOk S n u → SbI E S m u c w F →
      Calls Try.prog 126 #[.pointer (some ⟨m, 0, none⟩), .int .i64 k] w (Gives (SbI E S m u) F w (specP S n u c k)))
    (u c : List Int) (k : Int) (w : World) (F : Nat → Prop) (hk0 : 0 ≤ k) (hk9 : k ≤ 9) (hu : UOk S (n + 1) u) (h : SbI E S m u c w F) (hmk : mkK S.made k = true) (ho : ¬ 0 ≤ idx (fun x => k == x) u) :
    Calls Try.prog 126 #[.pointer (some ⟨m, 0, none⟩), .int .i64 k] w (Gives (SbI E S m u) F w (specP S (n + 1) u c k)) := by
  rw [specP_new hmk ho]
  obtain ⟨vu, vc, hM, rfl⟩ := h
  have hko := not_open ho
  have hu1 := hu.push hko (mkK_range (show mkK S.made k ≠ false by rw [hmk]; simp))
  obtain ⟨q, rfl⟩ := Int.eq_ofNat_of_zero_le hk0
  obtain ⟨hq, hmq⟩ := made_at hmk
  have hql : q < S.tks.length := by have := hE.ok.len; omega
  have hul := hu.len
  have hten := hE.ok.ten
  rw [tk_at hql]
  have hok := hE.ok.tks S.tks[q] (List.getElem_mem _)
  have hfs : S.tks[q].fets ≤ 100 := fets_small (hE.ok.okT hql)
  have hnext := fun (got : List Int) (Ag : Option Addr) (cg : Nat) (w1 : World) (hb : Below E.B E.w0 w1) (hB : E.B ≤ w1.heap.size) => hE.sheet.tasks.at hb q (by simpa using hql)
  obtain ⟨Q, hQ⟩ : ∃ Q, S.tks[q].itr.run (specP S n (u ++ [(q : Int)])) c = Q := ⟨_, rfl⟩
  rw [hQ]
  obtain ⟨x0, x1, x2, x3, x4, f3, f4, hz⟩ := hM.cells
  obtain ⟨bm, om, em, hbm, cm⟩ := hE.sheet.made.at hM.below hM.size q hq
  rw [em] at x0
  simp only [hmq] at cm
  obtain ⟨Au, cu, evu, hlu, hmu, hiu⟩ := ownsRow_ints hM.ou
  subst evu
  unfold maxLen at hmu
  have hsz := hM.size
  replace hM := Lib.hid hM
  replace hE := Lib.hid hE
  replace hko := Lib.hid hko
  replace ih := Lib.hid ih
  replace hu1 := Lib.hid hu1
  replace hu := Lib.hid hu
  replace hQ := Lib.hid hQ
  replace hok := Lib.hid hok
  replace hiu := Lib.hid hiu
  replace em := Lib.hid em
  clear hmk hmq ho hnext
  go_enter Try.func126, Try.ntmps126
  go_wp2_with fail
  go_loopw [6] (fun i wr => ∃ (j : Nat), j ≤ u.length ∧ i = .int .i64 j ∧ wr = w) (fun i _ => u.length - (intOf i).toNat)
  case atStart => exact ⟨0, Nat.zero_le _, rfl, rfl⟩
  case round =>
    obtain ⟨j, hj, rfl, rfl⟩ := hrel
    by_cases hju : j < u.length
    · obtain ⟨bu, ou, rfl, hbu, y⟩ := hiu.out j hju
      have hd' : (u[j] == (q : Int)) = false := by simp only [beq_eq_false_iff_ne]; exact fun e => hko.out (e ▸ List.getElem_mem hju)
      go_wp2_with fail
      go_roundw
      case rel => exact ⟨j + 1, by omega, by go_num, by first | rfl | trivial⟩
      case measure => simp [intOf]; omega
    · have hju' : j = u.length := by omega
      subst hju'
      obtain ⟨w9, hw9⟩ : ∃ w9, w9 = wr := ⟨_, rfl⟩
      subst hw9
      go_wp2_with (at_builtin; go_loud (with_reducible refine wpList_app1 (by rfl) (.tmp 70) (.tmp 72) 28 (by rfl) intTy E.B (.slice Au u.length cu) u.length (ints u) (by with_unfolding_all rfl) (hM.out.ou.alloc _) w9.heap.size 1 [.int .i64 q] (by with_unfolding_all rfl) (by with_unfolding_all rfl) ⟨_, _, heap_alloc_new w9 _, rfl⟩ (one_int _ _) ?_ ?_ ?_ ?_))
      · unfold maxLen; omega
      · omega
      · simp; omega
      intro g cap w2 hown hgrow hat
      have hMa := hM.out.alloc (.cells #[.int .i64 q] 3 (0, 0))
      have hblk2 := (hgrow.block m (block_lt hMa.blk) (fun e => hMa.nm.1 e.symm)).trans hMa.blk
      have z3 : w2.cell? ⟨m, 3, none⟩ = some (.slice Au u.length cu) := (cellm hblk2 3).trans rfl
      have fz3 : w2.frozen? ⟨m, 3, none⟩ = false := frozenm hblk2 3
      have hset := hMa.set_under (l := u ++ [(q : Int)]) hgrow (by simpa [ints_append, ints] using hown) (fun i hi => by cases hi; exact hat.imp id (fun e => by simp at e ⊢; omega))
      have hM3 := hset.1
      have t3 := (below_turn (F := SFoot m (.slice Au u.length cu) vc) (below_al (Below.refl w9.heap.size w9) (.cells #[.int .i64 q] 3 (0, 0)))).trans hset.2
      have hzm2 := block_lt hblk2
      replace hM3 := Lib.hid hM3
      replace t3 := Lib.hid t3
      clear hown hgrow hat hMa hblk2 hset x0 x1 x2 x3 x4 f3 f4 cm hiu
      obtain ⟨bt, ot, At', ct', et, hbt, ht0, ht1, ht2, htc, htm, htp⟩ := hE.out.sheet.tasks.at hM3.out.below q (by simpa using hql)
      simp only [List.getElem_map] at ht0 ht1 ht2 htc htp
      have hbt3 := Nat.lt_of_lt_of_le hbt hM3.out.size
      obtain ⟨y0, y1, y2, y3, y4, e3, e4, hzm⟩ := hM3.out.cells
      rw [et] at y1
      replace htp := Lib.hid htp
      generalize hw3 : w2.setCell ⟨m, 3, none⟩ (.slice (some ⟨g, 0, none⟩) (u.length + 1) cap) = w3 at *
      have hst0 : LpSt E S m (u ++ [(q : Int)]) w9 (SFoot m (.slice Au u.length cu) vc) (.slice (some ⟨g, 0, none⟩) (u.length + 1) cap) vc [] c (.slice (some ⟨w3.heap.size, 0, none⟩) 0 0) (w3.alloc (.cells #[] 3 (0, 0))) :=
        ⟨hM3.out.alloc _, by simpa [ints] using World.ownsRow_made (base := w9.heap.size) w3 #[] 0 t3.out.size (by simp [maxLen]) rfl, fun i hi hf => (by cases hi; exact Nat.lt_irrefl _ (hM3.out.bounds _ hf).2), fun x hx => (by cases hx), t3.out.alloc _, hsz⟩
      have hnx := l2Next_calls S.tks[q] At' ct' [] (some ⟨w3.heap.size, 0, none⟩) 0 E.B E.w0 _ hst0.sb.below hst0.sb.size hok.out htc htp.out (RowAt.nil _ _ _ _) (fun x hx => (by cases hx)) (by simp)
      replace hnx := Lib.hid hnx
      replace hst0 := Lib.hid hst0
      go_wp2_with fail
      refine hnx.out.mono ?_
      rintro e w4 ⟨rfl, v0, v1, hb4⟩
      have hst4 := hst0.out.up hb4
      have hvv : 0 ≤ (nextP S.tks[q].itr []).1 ∧ (nextP S.tks[q].itr []).1 ≤ 96 := ⟨v0, v1⟩
      replace hst4 := Lib.hid hst4
      replace hvv := Lib.hid hvv
      clear hnx hst0 hb4 v0 v1 y0 y1 y2 y3 y4 e3 e4 hzm ht0 ht1 ht2 hbt3 hM3 t3 hw3 z3 fz3 hzm2
      go_wp2_with fail
      go_loopw [7, 8, 9, 10] (fun a v ky o ws => ∃ (got c1 : List Int) (vu1 vc1 : Value), got.length ≤ S.tks[q].fets ∧ v = .int .i64 (nextP S.tks[q].itr got).1 ∧ ky = .int .i64 (nextP S.tks[q].itr got).2.1 ∧ o = .bool (nextP S.tks[q].itr got).2.2 ∧ Hid (LpSt E S m (u ++ [(q : Int)]) w9 (SFoot m (.slice Au u.length cu) vc) vu1 vc1 got c1 a ws) ∧ Hid (Q = (S.tks[q].itr.walk got).run (specP S n (u ++ [(q : Int)])) c1) ∧ Hid (0 ≤ (nextP S.tks[q].itr got).1 ∧ (nextP S.tks[q].itr got).1 ≤ 96) ∧ lenOf a = got.length) (fun a _ _ _ _ => S.tks[q].fets - lenOf a)
      case atStart => exact ⟨[], c, _, _, Nat.zero_le _, rfl, rfl, rfl, hst4, Lib.hid (by rw [← hQ.out, Itr.walk_nil]), hvv, rfl⟩
      case round =>
        obtain ⟨got, c1, vu1, vc1, hgl, rfl, rfl, rfl, hL, hEq, hvv, hla⟩ := hrel
        cases hw : S.tks[q].itr.walk got with
        | done x =>
          obtain ⟨n1, n2⟩ := nextP_done hw
          have he := hEq.out
          rw [hw] at he
          have he2 : Q = ((x, true), c1) := he
          have hx := hvv.out
          rw [n1] at hx
          rw [n1, n2]
          replace he2 := Lib.hid he2
          have hsb := hL.out.sb
          have htt := hL.out.turn
          replace hsb := Lib.hid hsb
          replace htt := Lib.hid htt
          clear hw n1 n2 he hEq hvv hL hst4 htp
          obtain ⟨gp, cp, evu, hcp, hcpm, hgp, hBp, hpop⟩ := hsb.out.pop
          subst evu
          obtain ⟨x0, x1, x2, x3, x4, f3, f4, hz⟩ := hsb.out.cells
          unfold maxLen at hcpm
          replace hpop := Lib.hid hpop
          clear x0 x1 x2 x4 f4
          go_wp2_with fail
          go_region
          go_wp2_with fail
          go_ret2
          exact (by rw [he2.out]; exact ⟨rfl, hx.1, hx.2, _, ⟨_, _, hpop.out.1.drew, rfl⟩, htt.out.trans hpop.out.2.drew⟩)
        | ask ky ct =>
          have hnp := nextP_ask hw
          have hkr := Itr.walk_ok got _ (Tk.itr_ok _ hok.out)
          rw [hw] at hkr
          obtain ⟨hk0', hk9', -⟩ := hkr
          have hglt := Itr.walk_le got _ _ (Tk.itr_le S.tks[q]) ky ct hw
          rw [hnp]
          have hcall := ih.out (u ++ [(q : Int)]) c1 ky wr _ hk0' hk9' hu1.out ⟨vu1, vc1, hL.out.sb, rfl⟩
          have he := hEq.out
          rw [hw] at he
          obtain ⟨X, hX⟩ : ∃ X, specP S n (u ++ [(q : Int)]) c1 ky = X := ⟨_, rfl⟩
          rw [hX] at hcall
          replace hcall := Lib.hid hcall
          replace he := Lib.hid he
          replace hX := Lib.hid hX
          replace hnp := Lib.hid hnp
          replace hw := Lib.hid hw
          clear hEq hvv hst4
          go_wp2_with fail
          refine hcall.out.mono ?_
          rintro e w5 ⟨rfl, p0, p1, F5, ⟨vu5, vc5, hs5, rfl⟩, t5⟩
          have hL5 := hL.out.key hs5 t5
          replace hL5 := Lib.hid hL5
          clear hcall hs5 t5 hL
          cases hfin : X.1.2 with
          | false =>
            have he2 : Q = ((0, false), X.2) := by rw [he.out, Itr.run_no (by rw [hX.out, hfin]; simp), hX.out]
            replace he2 := Lib.hid he2
            have hsb := hL5.out.sb
            have htt := hL5.out.turn
            replace hsb := Lib.hid hsb
            replace htt := Lib.hid htt
            clear hL5 he hX htp
            obtain ⟨gp, cp, evu, hcp, hcpm, hgp, hBp, hpop⟩ := hsb.out.pop
            subst evu
            obtain ⟨x0, x1, x2, x3, x4, f3, f4, hz⟩ := hsb.out.cells
            unfold maxLen at hcpm
            replace hpop := Lib.hid hpop
            clear x0 x1 x2 x4 f4
            go_wp2_with fail
            go_region
            go_wp2_with fail
            go_ret2
            exact (by rw [he2.out]; exact ⟨rfl, by simp, by simp, _, ⟨_, _, hpop.out.1.drew, rfl⟩, htt.out.trans hpop.out.2.drew⟩)
          | true =>
            have he2 : Q = ((S.tks[q].itr.walk (got ++ [X.1.1])).run (specP S n (u ++ [(q : Int)])) X.2) := by
              rw [he.out, Itr.run_yes (by rw [hX.out, hfin]), hX.out, Itr.walk_append, hw.out, Itr.walk, Itr.walk_nil]
            obtain ⟨Ag, cg, evg, hlg, hmg, hig⟩ := ownsRow_ints hL5.out.own
            subst evg
            replace he2 := Lib.hid he2
            have hL5a := hL5.out.up (below_al (Below.refl _ _) (.cells #[.int .i64 X.1.1] 3 (0, 0)))
            have hsz5 := hL5a.turn.size
            replace hL5a := Lib.hid hL5a
            clear hig he hX
            go_wp2_with (at_builtin; go_loud (with_reducible refine wpList_app1 (by rfl) (.tmp 101) (.tmp 103) 28 (by rfl) intTy w9.heap.size (.slice Ag got.length cg) got.length (ints got) (by with_unfolding_all rfl) hL5a.out.own w5.heap.size 1 [.int .i64 X.1.1] (by with_unfolding_all rfl) (by with_unfolding_all rfl) ⟨_, _, heap_alloc_new w5 _, rfl⟩ (one_int _ _) ?_ ?_ ?_ ?_))
            · unfold maxLen; omega
            · omega
            · exact hsz5
            intro g6 cap6 w6 hown6 hgrow6 hat6
            have hL6 := hL5.out.app (x := X.1.1) (v' := .slice (some ⟨g6, 0, none⟩) (got.length + 1) cap6) hgrow6 hown6 ⟨p0, p1⟩ (fun i hi => by cases hi; exact hat6.imp id (fun e => by simp at e ⊢; omega))
            obtain ⟨y0, y1, y2, y3, y4, e3, e4, hzm⟩ := hL6.sb.cells
            obtain ⟨bt, ot, At', ct', et2, hbt, ht0, ht1, ht2, htc, htm, htp⟩ := hE.out.sheet.tasks.at hL6.sb.below q (by simpa using hql)
            simp only [List.getElem_map] at ht0 ht1 ht2 htc htp
            have hbt3 := Nat.lt_of_lt_of_le hbt hL6.sb.size
            rw [et2] at y1
            obtain ⟨Ah, ch, eh, hlh, hmh, hih⟩ := ownsRow_ints hL6.own
            have hlen6 : (got ++ [X.1.1]).length = got.length + 1 := by simp
            have eh2 := eh
            rw [hlen6] at eh2
            simp only [Value.slice.injEq, true_and] at eh2
            obtain ⟨rfl, rfl⟩ := eh2
            have hnx := l2Next_calls S.tks[q] At' ct' (got ++ [X.1.1]) (some ⟨g6, 0, none⟩) cap6 E.B E.w0 w6 hL6.sb.below hL6.sb.size hok.out htc htp hih hL6.vals (by simp; omega)
            rw [hlen6] at hnx
            replace hnx := Lib.hid hnx
            replace hL6 := Lib.hid hL6
            replace hlen6 := Lib.hid hlen6
            replace htp := Lib.hid htp
            clear hown6 hgrow6 hat6 hL5 hL5a eh hih
            go_wp2_with fail
            refine hnx.out.mono ?_
            rintro e w7 ⟨rfl, v0, v1, hb7⟩
            have hL7 := hL6.out.up hb7
            replace hL7 := Lib.hid hL7
            clear hnx hL6 hb7 y0 y1 y2 y3 y4 e3 e4 hzm ht0 ht1 ht2
            go_wp2_with fail
            go_roundw
            case rel => exact ⟨got ++ [X.1.1], X.2, _, _, by rw [hlen6.out]; omega, rfl, rfl, rfl, hL7, he2, Lib.hid ⟨v0, v1⟩, by rw [hlen6.out]; rfl⟩
            case measure => simp only [lenOf]; omega
end Go.Proofs.Ytkbblekengdhaaa

set_option linter.unusedVariables false
set_option linter.unusedSimpArgs false
namespace Go.Proofs.Ytkbblekengdhaaa
open Go Go.RowKit

theorem keyP_unmade {S : Sh} {n : Nat} {st : MkSt} {k : Int} (h : mkK S.made k = false) : keyP S n st k = ((atK S.inputs k, true), st) := by
  cases n <;> simp [keyP, h]
theorem keyP_known {S : Sh} {n : Nat} {st : MkSt} {k v : Int} (h : mkK S.made k = true) (hk : st.known k = some v) : keyP S n st k = ((v, true), st) := by
  cases n <;> simp [keyP, h, hk]
theorem keyP_opened {S : Sh} {n : Nat} {st : MkSt} {k : Int} (h : mkK S.made k = true) (hk : st.known k = none) (ho : 0 ≤ idx (fun x => k == x) st.open_) :
    keyP S n st k = ((0, false), { st with circle := st.open_.drop (idx (fun x => k == x) st.open_).toNat }) := by
  cases n <;> simp [keyP, h, hk, ho]
theorem keyP_new {S : Sh} {n : Nat} {st : MkSt} {k : Int} (h : mkK S.made k = true) (hk : st.known k = none) (ho : ¬ 0 ≤ idx (fun x => k == x) st.open_) :
    keyP S (n + 1) st k = (let r := (S.tk k).run (keyP S n) { st with open_ := st.open_ ++ [k] }
      if r.1.2 then ((r.1.1, true), { r.2 with open_ := r.2.open_.dropLast, known := upd r.2.known k r.1.1, order := r.2.order ++ [k] }) else ((0, false), r.2)) := by
  simp [keyP, h, hk, ho]

theorem wf_small {k : Int} (h0 : -1000 ≤ k) (h1 : k ≤ 1000) : (Lit.int .i64 k).wf = true := WalkArith.wf_i64 (by omega)
theorem fitsI {k : Int} (h0 : 0 ≤ k) (h1 : k ≤ 9) : True := trivial

set_option maxHeartbeats 1000000 in
theorem key_unmade (E : MkEnv) (S : Sh) (hE : E.Good S) (m n : Nat) (st : MkSt) (k : Int) (w : World) (F : Nat → Prop) (hk0 : 0 ≤ k) (hk9 : k ≤ 9) (h : MkI E S m n st w F) (hmk : mkK S.made k = false) :
    Calls Try.prog 90 #[.pointer (some ⟨m, 0, none⟩), .int .i64 k] w (Gives (MkI E S m n) F w (keyP S n st k)) := by
  rw [keyP_unmade hmk]
  have hv := atK_value hE.ok k
  obtain ⟨⟨b, vo, vc, vr, hM, rfl⟩, hi⟩ := h
  have x0 : w.cell? ⟨m, 0, none⟩ = some (.slice E.Am S.made.length E.cm) := (cellm hM.blk 0).trans rfl
  have x1 : w.cell? ⟨m, 1, none⟩ = some (.slice E.At S.tks.length E.ct) := (cellm hM.blk 1).trans rfl
  have hc1 := fun w1 (hw : Below w.heap.size w w1) => makes_calls E.Am E.At E.cm S.tks.length E.ct k S.made E.B E.w0 w1 (below_up' hM.below hM.size hw) (Nat.le_trans hM.size hw.size) (Nat.le_trans hE.sheet.lm hE.sheet.mm) hE.sheet.made
  have hc2 := fun w1 (hw : Below w.heap.size w w1) => at_calls E.Ai E.ci k S.inputs E.B E.w0 w1 (below_up' hM.below hM.size hw) (Nat.le_trans hM.size hw.size) (Nat.le_trans hE.li hE.mi) hE.ins
  replace hc1 := Lib.hid hc1
  replace hc2 := Lib.hid hc2
  replace hM := Lib.hid hM
  replace hi := Lib.hid hi
  replace hv := Lib.hid hv
  replace hmk := Lib.hid hmk
  clear hE
  go_enter Try.func90, Try.ntmps90
  go_wp2_with fail
  refine (hc1.out _ (Below.refl _ _)).mono ?_
  rintro e w1 ⟨rfl, h3⟩
  rw [hmk.out]
  have hM1 := hM.out.up h3
  have y2 : w1.cell? ⟨m, 2, none⟩ = some (.slice E.Ai S.inputs.length E.ci) := (cellm hM1.blk 2).trans rfl
  replace hM1 := Lib.hid hM1
  replace h3 := Lib.hid h3
  clear x0 x1
  go_wp2_with fail
  refine (hc2.out _ h3.out).mono ?_
  rintro e w2 ⟨rfl, rfl⟩
  go_wp2_with fail
  go_ret2
  exact ⟨rfl, hv.out.1, hv.out.2, _, ⟨⟨b, vo, vc, vr, hM1.out, rfl⟩, hi.out⟩, below_turn h3.out⟩

set_option maxHeartbeats 1000000 in
theorem key_known (E : MkEnv) (S : Sh) (hE : E.Good S) (m n : Nat) (st : MkSt) (k v : Int) (w : World) (F : Nat → Prop) (hk0 : 0 ≤ k) (hk9 : k ≤ 9) (h : MkI E S m n st w F) (hmk : mkK S.made k = true) (hkn : st.known k = some v) :
    Calls Try.prog 90 #[.pointer (some ⟨m, 0, none⟩), .int .i64 k] w (Gives (MkI E S m n) F w (keyP S n st k)) := by
  rw [keyP_known hmk hkn]
  obtain ⟨⟨b, vo, vc, vr, hM, rfl⟩, hi⟩ := h
  have hv := hi.vals k v hkn
  have x0 : w.cell? ⟨m, 0, none⟩ = some (.slice E.Am S.made.length E.cm) := (cellm hM.blk 0).trans rfl
  have x1 : w.cell? ⟨m, 1, none⟩ = some (.slice E.At S.tks.length E.ct) := (cellm hM.blk 1).trans rfl
  have hc1 := fun w1 (hw : Below w.heap.size w w1) => makes_calls E.Am E.At E.cm S.tks.length E.ct k S.made E.B E.w0 w1 (below_up' hM.below hM.size hw) (Nat.le_trans hM.size hw.size) (Nat.le_trans hE.sheet.lm hE.sheet.mm) hE.sheet.made
  replace hc1 := Lib.hid hc1
  replace hM := Lib.hid hM
  replace hi := Lib.hid hi
  replace hv := Lib.hid hv
  replace hmk := Lib.hid hmk
  replace hkn := Lib.hid hkn
  clear hE
  go_enter Try.func90, Try.ntmps90
  go_wp2_with fail
  refine (hc1.out _ (Below.refl _ _)).mono ?_
  rintro e w1 ⟨rfl, h3⟩
  rw [hmk.out]
  have hM1 := hM.out.up h3
  have y3 : w1.cell? ⟨m, 3, none⟩ = some (.map (some b)) := (cellm hM1.blk 3).trans rfl
  replace hM1 := Lib.hid hM1
  replace h3 := Lib.hid h3
  clear x0 x1
  go_wp2_with ((with_reducible refine wpList_mapget (by rfl) (.tmp 28) (.tmp 29) 135 (by rfl) mapTy b _ _ (by with_unfolding_all rfl) hM1.out.map k (by with_unfolding_all rfl) (wf_small (by omega) (by omega)) ?_); rw [hkn.out]; simp only [Option.getD_some, Option.isSome_some])
  go_ret2
  exact ⟨rfl, hv.out.1, hv.out.2, _, ⟨⟨b, vo, vc, vr, hM1.out, rfl⟩, hi.out⟩, below_turn h3.out⟩

set_option maxHeartbeats 1000000 in
theorem key_opened (E : MkEnv) (S : Sh) (hE : E.Good S) (m n : Nat) (st : MkSt) (k : Int) (w : World) (F : Nat → Prop) (hk0 : 0 ≤ k) (hk9 : k ≤ 9) (h : MkI E S m n st w F) (hmk : mkK S.made k = true) (hkn : st.known k = none)
    (ho : 0 ≤ idx (fun x => k == x) st.open_) :
    Calls Try.prog 90 #[.pointer (some ⟨m, 0, none⟩), .int .i64 k] w (Gives (MkI E S m n) F w (keyP S n st k)) := by
  rw [keyP_opened hmk hkn ho]
  obtain ⟨⟨b, vo, vc, vr, hM, rfl⟩, hi⟩ := h
  obtain ⟨j, hj, hjl⟩ := idx_lt ho
  have hol := inv_open hi
  have hten := hE.ok.ten
  have x0 : w.cell? ⟨m, 0, none⟩ = some (.slice E.Am S.made.length E.cm) := (cellm hM.blk 0).trans rfl
  have x1 : w.cell? ⟨m, 1, none⟩ = some (.slice E.At S.tks.length E.ct) := (cellm hM.blk 1).trans rfl
  have hc1 := fun w1 (hw : Below w.heap.size w w1) => makes_calls E.Am E.At E.cm S.tks.length E.ct k S.made E.B E.w0 w1 (below_up' hM.below hM.size hw) (Nat.le_trans hM.size hw.size) (Nat.le_trans hE.sheet.lm hE.sheet.mm) hE.sheet.made
  replace hc1 := Lib.hid hc1
  obtain ⟨g, co, hvo, hBg, hgl⟩ := hM.oo.form (by omega)
  subst hvo
  replace hM := Lib.hid hM
  replace hi := Lib.hid hi
  replace hmk := Lib.hid hmk
  replace hkn := Lib.hid hkn
  clear hE ho
  have hml := block_lt hM.out.blk
  go_enter Try.func90, Try.ntmps90
  go_wp2_with fail
  refine (hc1.out _ (Below.refl _ _)).mono ?_
  rintro e w1 ⟨rfl, h3⟩
  rw [hmk.out]
  have hM1 := hM.out.up h3
  have y3 : w1.cell? ⟨m, 3, none⟩ = some (.map (some b)) := (cellm hM1.blk 3).trans rfl
  have y4 : w1.cell? ⟨m, 4, none⟩ = some (.slice (some ⟨g, 0, none⟩) st.open_.length co) := (cellm hM1.blk 4).trans rfl
  obtain ⟨A', c', e', hlo, hmo, hio⟩ := ownsRow_ints hM1.oo
  simp only [Value.slice.injEq, true_and] at e'
  obtain ⟨rfl, rfl⟩ := e'
  have hcall := index_calls _ co k st.open_ w1.heap.size w1 w1 (Below.refl _ _) (Nat.le_refl _) (Nat.le_trans hlo hmo) hio
  have hc2 := fun w2 (hw : Below w1.heap.size w1 w2) => clone_calls (some ⟨g, j, none⟩) (co - j) (st.open_.drop j) w1.heap.size w1 w2 hw hw.size (by simp; omega) (by simpa using hio.drop j)
  have hdl : (st.open_.drop j).length = st.open_.length - j := by simp
  rw [hdl] at hc2
  rw [hj] at hcall
  have hne : co ≠ j := by omega
  unfold maxLen at hmo
  replace hcall := Lib.hid hcall
  replace hc2 := Lib.hid hc2
  replace hM1 := Lib.hid hM1
  replace h3 := Lib.hid h3
  replace hj := Lib.hid hj
  replace hdl := Lib.hid hdl
  clear x0 x1 hio
  go_wp2_with (first | ((with_reducible refine wpList_mapget (by rfl) (.tmp 28) (.tmp 29) 135 (by rfl) mapTy b _ _ (by with_unfolding_all rfl) hM1.out.map k (by with_unfolding_all rfl) (wf_small (by omega) (by omega)) ?_); rw [hkn.out]; simp only [Option.getD_none, Option.isSome_none]) | (go_at_call 114; refine hcall.out.mono ?_; rintro e w2 ⟨rfl, rfl⟩))
  refine (hc2.out w1 (Below.refl _ _)).mono ?_
  rintro e w2 ⟨v, rfl, ho, hw⟩
  obtain ⟨Av, cv, rfl, _, _, _⟩ := ownsRow_ints (by rw [hdl.out]; exact ho)
  have z5 : w2.cell? ⟨m, 5, none⟩ = some vc := (cellm (hM1.out.up hw).blk 5).trans rfl
  have f5 : w2.frozen? ⟨m, 5, none⟩ = false := frozenm (hM1.out.up hw).blk 5
  have hset := hM1.out.set_circle hw (by rw [hdl.out]; exact ho)
  simp only [hdl.out] at hset
  replace hset := Lib.hid hset
  clear ho hw y3 y4
  go_wp2_with fail
  go_ret2
  rw [hj.out]
  have hi' := hi.out
  exact ⟨rfl, by simp, by simp, _, ⟨⟨b, _, _, vr, hset.out.1, rfl⟩, ⟨hi'.nodup, hi'.range, hi'.fuel, hi'.openUnknown, hi'.vals, hi'.onodup, hi'.orange, hi'.oknown⟩⟩, (below_turn h3.out).trans hset.out.2⟩

set_option maxHeartbeats 2000000 in
theorem key_new (E : MkEnv) (S : Sh) (hE : E.Good S) (m n : Nat)
    (ih : ∀ (st : MkSt) (k : Int) (w : World) (F : Nat → Prop), 0 ≤ k → k ≤ 9 → MkI E S m n st w F →
      Calls Try.prog 90 #[.pointer (some ⟨m, 0, none⟩), .int .i64 k] w (Gives (MkI E S m n) F w (keyP S n st k)))
    (st : MkSt) (k : Int) (w : World) (F : Nat → Prop) (hk0 : 0 ≤ k) (hk9 : k ≤ 9) (h : MkI E S m (n + 1) st w F) (hmk : mkK S.made k = true) (hkn : st.known k = none)
    (ho : ¬ 0 ≤ idx (fun x => k == x) st.open_) :
    Calls Try.prog 90 #[.pointer (some ⟨m, 0, none⟩), .int .i64 k] w (Gives (MkI E S m (n + 1)) F w (keyP S (n + 1) st k)) := by
  have hinv := keyP_inv hE.ok (n + 1) st k h.2
  have hP := keyP_new (n := n) hmk hkn ho
  obtain ⟨⟨b, vo, vc, vr, hM, rfl⟩, hi⟩ := h
  have hol := inv_open hi
  have hten := hE.ok.ten
  have hkr := mkK_range (show mkK S.made k ≠ false by rw [hmk]; simp)
  have hkl : k < S.tks.length := by have := hE.ok.len; omega
  obtain ⟨q, rfl⟩ := Int.eq_ofNat_of_zero_le hk0
  have hql : q < S.tks.length := by omega
  have hi1 := inv_push hi hkr hkn (not_open ho)
  have hpr := keyP_run hE.ok hi1 (hE.ok.tks S.tks[q] (List.getElem_mem _))
  obtain ⟨r, hr⟩ : ∃ r, (S.tks[q]).run (keyP S n) { st with open_ := st.open_ ++ [(q : Int)] } = r := ⟨_, rfl⟩
  rw [tk_at hql] at hP
  rw [hr] at hP hpr
  replace hi1 := Lib.hid hi1
  replace hpr := Lib.hid hpr
  replace hr := Lib.hid hr
  have x0 : w.cell? ⟨m, 0, none⟩ = some (.slice E.Am S.made.length E.cm) := (cellm hM.blk 0).trans rfl
  have x1 : w.cell? ⟨m, 1, none⟩ = some (.slice E.At S.tks.length E.ct) := (cellm hM.blk 1).trans rfl
  have hc1 := fun w1 (hw : Below w.heap.size w w1) => makes_calls E.Am E.At E.cm S.tks.length E.ct q S.made E.B E.w0 w1 (below_up' hM.below hM.size hw) (Nat.le_trans hM.size hw.size) (Nat.le_trans hE.sheet.lm hE.sheet.mm) hE.sheet.made
  replace hc1 := Lib.hid hc1
  replace hM := Lib.hid hM
  replace hi := Lib.hid hi
  replace hmk := Lib.hid hmk
  replace hkn := Lib.hid hkn
  replace hE := Lib.hid hE
  replace ho := Lib.hid ho
  replace ih := Lib.hid ih
  replace hP := Lib.hid hP
  replace hinv := Lib.hid hinv
  replace hkr := Lib.hid hkr
  go_enter Try.func90, Try.ntmps90
  go_wp2_with fail
  refine (hc1.out _ (Below.refl _ _)).mono ?_
  rintro e w1 ⟨rfl, h3⟩
  rw [hmk.out]
  have hM1 := hM.out.up h3
  have y3 : w1.cell? ⟨m, 3, none⟩ = some (.map (some b)) := (cellm hM1.blk 3).trans rfl
  have y4 : w1.cell? ⟨m, 4, none⟩ = some vo := (cellm hM1.blk 4).trans rfl
  obtain ⟨Ao, co, e', hlo, hmo, hio⟩ := ownsRow_ints hM1.oo
  subst e'
  have hcall := index_calls Ao co q st.open_ w1.heap.size w1 w1 (Below.refl _ _) (Nat.le_refl _) (Nat.le_trans hlo hmo) hio
  have hneg : ∃ j : Int, idx (fun x => (q : Int) == x) st.open_ = j ∧ j < 0 := ⟨_, rfl, by have := ho.out; omega⟩
  obtain ⟨j, hj, hj0⟩ := hneg
  rw [hj] at hcall
  have f4 : w1.frozen? ⟨m, 4, none⟩ = false := frozenm hM1.blk 4
  have hml := block_lt hM1.blk
  have hsz1 := hM1.size
  unfold maxLen at hmo
  replace hcall := Lib.hid hcall
  replace hM1 := Lib.hid hM1
  replace h3 := Lib.hid h3
  replace hj := Lib.hid hj
  clear x0 x1 hio
  go_wp2_with (first | ((with_reducible refine wpList_mapget (by rfl) (.tmp 28) (.tmp 29) 135 (by rfl) mapTy b _ _ (by with_unfolding_all rfl) hM1.out.map q (by with_unfolding_all rfl) (wf_small (by omega) (by omega)) ?_); rw [hkn.out]; simp only [Option.getD_none, Option.isSome_none]) | (go_at_call 114; refine hcall.out.mono ?_; rintro e w2 ⟨rfl, rfl⟩) | (at_builtin; go_loud (with_reducible refine wpList_app1 (by rfl) (.tmp 57) (.tmp 59) 28 (by rfl) intTy E.B (.slice Ao st.open_.length co) st.open_.length (ints st.open_) (by with_unfolding_all rfl) (hM1.out.oo.alloc _) w1.heap.size 1 [.int .i64 q] (by with_unfolding_all rfl) (by with_unfolding_all rfl) ⟨_, _, heap_alloc_new w1 _, rfl⟩ (one_int _ _) ?_ ?_ ?_ ?_)))
  · unfold maxLen; omega
  · omega
  · simp; omega
  intro g cap w2 hown hgrow hat
  have hblk2 := (hM1.out.blk_grown hM1.out.nm.1 hgrow).trans hM1.out.blk
  have z4 : w2.cell? ⟨m, 4, none⟩ = some (.slice Ao st.open_.length co) := (cellm hblk2 4).trans rfl
  have fz4 : w2.frozen? ⟨m, 4, none⟩ = false := frozenm hblk2 4
  have hset := (hM1.out.alloc _).set_open (l := st.open_ ++ [(q : Int)]) hgrow (by simpa [ints_append, ints] using hown) (fun i hi => by cases hi; exact hat.imp id (fun e => by simp; omega))
  have hM3 := hset.1
  have t3 := (below_turn (below_al (Below.refl _ _) _)).trans hset.2
  obtain ⟨bt, ot, At', ct', et, hbt, ht0, ht1, ht2, htc, htm, htp⟩ := hE.out.sheet.tasks.at hM3.below q (by simpa using hql)
  have hbt3 := Nat.lt_of_lt_of_le hbt hM3.size
  simp only [List.getElem_map] at ht0 ht1 ht2 htc htp
  have w0 : (w2.setCell ⟨m, 4, none⟩ (.slice (some ⟨g, 0, none⟩) (st.open_.length + 1) cap)).cell? ⟨m, 1, none⟩ = some (.slice (some ⟨bt, ot, none⟩) S.tks.length E.ct) := by rw [← et]; exact (cellm hM3.blk 1).trans rfl
  have hrun := run_calls (MkI E S m n) (keyP S n) 90 #[.pointer (some ⟨m, 0, none⟩)] #[] E.B E.w0 (enters_of Try.func90 (by kernel_rfl) rfl) (MakerIs.holds E S m n)
    (fun s k w F h h0 h9 => by simpa using ih.out s k w F h0 h9 h) S.tks[q] At' ct' _ _ _ (hE.out.ok.tks _ (List.getElem_mem _)) ⟨⟨b, _, vc, vr, hM3, rfl⟩, hi1.out⟩ htc htp
  rw [hr.out] at hrun
  replace hrun := Lib.hid hrun
  replace t3 := Lib.hid t3
  replace hM3 := Lib.hid hM3
  replace et := Lib.hid et
  clear hown hgrow hat hset y3 y4 hblk2 htp htc htm hcall
  have hbm : bt ≠ m := fun e => by have := hM3.out.hm; omega
  generalize hw3 : w2.setCell ⟨m, 4, none⟩ (.slice (some ⟨g, 0, none⟩) (st.open_.length + 1) cap) = w3 at *
  go_wp2_with fail
  refine hrun.out.mono ?_
  rintro e w4 ⟨rfl, v1, v2, F4, ⟨⟨b4, vo4, vc4, vr4, hM4, rfl⟩, hi4⟩, t4⟩
  have tt := ((below_turn h3.out).trans t3.out).trans t4
  replace tt := Lib.hid tt
  clear z4 fz4 ht0 ht1 ht2 w0 hbt3 f4
  cases hok : r.1.2 with
  | false =>
    have hP2 := hP.out
    simp only [hok] at hP2
    replace hP2 := Lib.hid hP2
    go_wp2_with fail
    go_ret2
    rw [hP2.out]
    exact ⟨rfl, by simp, by simp, _, ⟨⟨b4, vo4, vc4, vr4, hM4, rfl⟩, by have := hinv.out.1; rw [hP2.out] at this; exact this⟩, tt.out⟩
  | true =>
    have hP2 := hP.out
    simp only [hok, if_true] at hP2
    have hop : r.2.open_ = st.open_ ++ [(q : Int)] := hpr.out.2.1 hok
    have hlen : r.2.open_.length = st.open_.length + 1 := by rw [hop]; simp
    have hol4 := inv_open hi4
    have hor4 := inv_order hi4
    have hoo4 := hM4.oo
    have hlm := hoo4.1
    rw [hop, ints_append] at hoo4
    have e1 : (st.open_ ++ [(q : Int)]).length = st.open_.length + 1 := by simp
    rw [e1] at hoo4
    obtain ⟨g4, co4, hvo, hBg, hgl⟩ := hoo4.form (by omega)
    subst hvo
    have hmo4 : st.open_.length + 1 ≤ co4 ∧ co4 ≤ maxLen := by
      rcases hoo4.2 with ⟨e, _⟩ | ⟨_, _, _, e, _, _, hc, hm, _⟩
      · cases e
      · cases e; exact ⟨hc, hm⟩
    obtain ⟨hlo4, hmo4⟩ := hmo4
    unfold maxLen at hmo4
    have hpop := ownsRow_pop (by simp [ints]) hoo4
    have y4 : w4.cell? ⟨m, 4, none⟩ = some (.slice (some ⟨g4, 0, none⟩) (st.open_.length + 1) co4) := (cellm hM4.blk 4).trans rfl
    have f4 : w4.frozen? ⟨m, 4, none⟩ = false := frozenm hM4.blk 4
    have h5 := hM4.set_open (l := st.open_) (World.grownBy.refl _ _) hpop (fun i hi => .inl hi)
    have hM5 := h5.1.drew
    have t5 := h5.2.drew
    have x3 : (w4.setCell ⟨m, 4, none⟩ (.slice (some ⟨g4, 0, none⟩) st.open_.length co4)).drew.cell? ⟨m, 3, none⟩ = some (.map (some b4)) := (cellm hM5.blk 3).trans rfl
    replace hlen := Lib.hid hlen
    replace hP2 := Lib.hid hP2
    replace hop := Lib.hid hop
    replace hi4 := Lib.hid hi4
    replace hM4 := Lib.hid hM4
    replace hM5 := Lib.hid hM5
    replace t5 := Lib.hid t5
    replace hol4 := Lib.hid hol4
    clear hpop hoo4 hlm e1 h5
    go_wp2_with fail
    go_region
    clear y4 f4
    generalize hw5 : (w4.setCell ⟨m, 4, none⟩ (.slice (some ⟨g4, 0, none⟩) st.open_.length co4)).drew = w5 at *
    go_wp2_with ((with_reducible refine wpList_mapput (by rfl) (.tmp 96) (.tmp 97) (.tmp 98) 135 (by rfl) mapTy b4 _ _ (by with_unfolding_all rfl) hM5.out.map ?_ (q : Int) r.1.1 (by with_unfolding_all rfl) (by with_unfolding_all rfl) (wf_small (by omega) (by omega)) (wf_small (by omega) (by omega)) ?_))
    · unfold maxLen; omega
    intro w6 hm6 hg6
    have h6 := hM5.out.set_map (f := upd r.2.known q r.1.1) hm6 hg6
    have hM6 := h6.1
    have t6 := h6.2
    obtain ⟨Ar, cr, er, hlr, hmr, _⟩ := ownsRow_ints hM6.or
    subst er
    have y6 : w6.cell? ⟨m, 6, none⟩ = some (.slice Ar r.2.order.length cr) := (cellm hM6.blk 6).trans rfl
    have hml6 := block_lt hM6.blk
    have hsz6 := hM6.size
    replace hM6 := Lib.hid hM6
    replace t6 := Lib.hid t6
    clear hm6 hg6 h6 x3
    go_wp2_with ((with_reducible refine wpList_app1 (by rfl) (.tmp 103) (.tmp 105) 28 (by rfl) intTy E.B (.slice Ar r.2.order.length cr) r.2.order.length (ints r.2.order) (by with_unfolding_all rfl) (hM6.out.or.alloc _) w6.heap.size 1 [.int .i64 q] (by with_unfolding_all rfl) (by with_unfolding_all rfl) ⟨_, _, heap_alloc_new w6 _, rfl⟩ (one_int _ _) ?_ ?_ ?_ ?_))
    · unfold maxLen; omega
    · omega
    · first | omega | (simp; omega)
    intro g7 cap7 w7 hown7 hgrow7 hat7
    have hblk7 := (hM6.out.blk_grown hM6.out.nm.2.2 hgrow7).trans hM6.out.blk
    have z6 : w7.cell? ⟨m, 6, none⟩ = some (.slice Ar r.2.order.length cr) := (cellm hblk7 6).trans rfl
    have fz6 : w7.frozen? ⟨m, 6, none⟩ = false := frozenm hblk7 6
    have h7 := (hM6.out.alloc _).set_order (l := r.2.order ++ [(q : Int)]) hgrow7 (by simpa [ints_append, ints] using hown7) (fun i hi => by cases hi; exact hat7.imp id (fun e => by simp; omega))
    replace h7 := Lib.hid h7
    clear hown7 hgrow7 hat7 hblk7 y6
    go_wp2_with fail
    go_ret2
    have e2 : r.2.open_.dropLast = st.open_ := by rw [hop.out]; simp
    have hP3 := hP2.out
    rw [e2] at hP3
    rw [hP3]
    refine ⟨rfl, hpr.out.2.2.1, hpr.out.2.2.2, _, ⟨⟨b4, _, vc4, _, ?_, rfl⟩, ?_⟩, ((tt.out.trans t5.out).trans t6.out).trans ((below_turn (below_al (Below.refl _ _) _)).trans h7.out.2)⟩
    · have := h7.out.1
      simpa [upd] using this
    · have := hinv.out.1
      rw [hP3] at this
      exact this

theorem key_calls (E : MkEnv) (S : Sh) (hE : E.Good S) (m : Nat) : ∀ (n : Nat) (st : MkSt) (k : Int) (w : World) (F : Nat → Prop), 0 ≤ k → k ≤ 9 → MkI E S m n st w F →
    Calls Try.prog 90 #[.pointer (some ⟨m, 0, none⟩), .int .i64 k] w (Gives (MkI E S m n) F w (keyP S n st k)) := by
  intro n
  induction n with
  | zero =>
    intro st k w F hk0 hk9 h
    cases hmk : mkK S.made k with
    | false => exact key_unmade E S hE m 0 st k w F hk0 hk9 h hmk
    | true =>
      cases hkn : st.known k with
      | some v => exact key_known E S hE m 0 st k v w F hk0 hk9 h hmk hkn
      | none =>
        by_cases ho : 0 ≤ idx (fun x => k == x) st.open_
        · exact key_opened E S hE m 0 st k w F hk0 hk9 h hmk hkn ho
        · have hkr := mkK_range (show mkK S.made k ≠ false by rw [hmk]; simp)
          have hno := not_open ho
          have h1 : (k :: st.open_).Nodup := List.nodup_cons.2 ⟨hno, h.2.nodup⟩
          have h2 := nodup_bound (n := S.made.length) h1 (fun x hx => by
            rcases List.mem_cons.1 hx with rfl | hx
            · exact hkr
            · exact h.2.range x hx)
          have h3 := h.2.fuel
          simp at h2
          omega
  | succ n ih =>
    intro st k w F hk0 hk9 h
    cases hmk : mkK S.made k with
    | false => exact key_unmade E S hE m (n + 1) st k w F hk0 hk9 h hmk
    | true =>
      cases hkn : st.known k with
      | some v => exact key_known E S hE m (n + 1) st k v w F hk0 hk9 h hmk hkn
      | none =>
        by_cases ho : 0 ≤ idx (fun x => k == x) st.open_
        · exact key_opened E S hE m (n + 1) st k w F hk0 hk9 h hmk hkn ho
        · exact key_new E S hE m n ih st k w F hk0 hk9 h hmk hkn ho
end Go.Proofs.Ytkbblekengdhaaa
