import Derived.Test.YtpccgdkidnkppaaPk1FnExactOrderFits
import Derived.Test.YtpccgdkidnkppaaPk7FnExactOrderFits
import Derived.Test.YtpccgdkidnkppaaPk8FnExactOrderFits
import Derived.Test.YtpccgdkidnkppaaPk13FnExactOrderFits
set_option linter.unusedVariables false
set_option linter.unusedSimpArgs false
namespace Go.Proofs.Ytpccgdkidnkppaa
open Go Go.RowKit

/-- the last one is taken off a row -/
theorem ObjAt.pop_row {B : Nat} {w0 : World} {m : Nat} {T : TypeId} {cs : Array Value} {ps : List Part} {w : World} (h : ObjAt B w0 m T cs ps w) (i j : Nat) {e : TypeId} {v : Value} {u : List Int} {k : Int} (hi : ps[i]? = some (rowP B e 1 v (u ++ [k]).length (ints (u ++ [k])))) :
    ∃ g co, v = .slice (some ⟨g, 0, none⟩) (u.length + 1) co ∧ u.length + 1 ≤ co ∧ co ≤ maxLen ∧ g < w.heap.size ∧ B ≤ g ∧
      ObjAt B w0 m T (cs.setIfInBounds j (.slice (some ⟨g, 0, none⟩) u.length co)) (ps.set i (rowP B e 1 (.slice (some ⟨g, 0, none⟩) u.length co) u.length (ints u))) (w.setCell ⟨m, j, none⟩ (.slice (some ⟨g, 0, none⟩) u.length co)) ∧
        Turn (Foot m ps) (Foot m (ps.set i (rowP B e 1 (.slice (some ⟨g, 0, none⟩) u.length co) u.length (ints u)))) w (w.setCell ⟨m, j, none⟩ (.slice (some ⟨g, 0, none⟩) u.length co)) := by
  have hoo := h.row i hi
  have e1 : (u ++ [k]).length = u.length + 1 := by simp
  rw [ints_append, e1] at hoo
  obtain ⟨g, co, hvo, hBg, hgl⟩ := hoo.form (by omega)
  subst hvo
  have hm : u.length + 1 ≤ co ∧ co ≤ maxLen := by
    rcases hoo.2 with ⟨e, _⟩ | ⟨_, _, _, e, _, _, hc, hm, _⟩
    · cases e
    · cases e; exact ⟨hc, hm⟩
  have hpop := ownsRow_pop (by simp [ints]) hoo
  rw [ints_append, e1] at hi
  obtain ⟨h1, h2⟩ := h.set_row i j hi (World.grownBy.refl _ _) hpop (fun b hb => .inl hb)
  exact ⟨g, co, rfl, hm.1, hm.2, hgl, hBg, h1, h2⟩

/-- between two fetches of a task: an object that is worked on, and a row of what was got -/
structure LpO (B : Nat) (w0 : World) (m : Nat) (T : TypeId) (cs : Array Value) (ps : List Part) (w : World) (F : Nat → Prop) (got : List Int) (vg : Value) (wr : World) : Prop where
  ob : ObjAt B w0 m T cs ps wr
  own : wr.ownsRow w.heap.size 3 1 vg got.length (ints got)
  far : ∀ i, vg.ownBlock = some i → ¬ Foot m ps i
  vals : ∀ x ∈ got, 0 ≤ x ∧ x ≤ 96
  turn : Turn F (Foot m ps) w wr
  low : B ≤ w.heap.size
section
variable {B : Nat} {w0 : World} {m : Nat} {T : TypeId} {cs cs2 : Array Value} {ps ps2 : List Part} {w wr w2 : World} {F : Nat → Prop} {got : List Int} {vg v' : Value}
theorem LpO.up (h : LpO B w0 m T cs ps w F got vg wr) (hb : Below wr.heap.size wr w2) : LpO B w0 m T cs ps w F got vg w2 :=
  ⟨h.ob.up hb, ownsRow_block h.own (fun i hi => hb.block i (h.own.lt i hi).2), h.far, h.vals, h.turn.trans (below_turn hb), h.low⟩
theorem LpO.key (h : LpO B w0 m T cs ps w F got vg wr) (hs : ObjAt B w0 m T cs2 ps2 w2) (t : Turn (Foot m ps) (Foot m ps2) wr w2) : LpO B w0 m T cs2 ps2 w F got vg w2 :=
  ⟨hs, ownsRow_block h.own (fun i hi => t.block i (h.own.lt i hi).2 (h.far i hi)), fun i hi hf => (t.fresh i hf).elim (h.far i hi) (fun e => by have := (h.own.lt i hi).2; omega), h.vals, h.turn.trans t, h.low⟩
theorem LpO.app (h : LpO B w0 m T cs ps w F got vg wr) {o : Obj} {x : Int} (hg : (wr.alloc o).grownBy w2 vg.ownBlock) (ho : w2.ownsRow w.heap.size 3 1 v' (got.length + 1) (ints got ++ [.int .i64 x])) (hx : 0 ≤ x ∧ x ≤ 96)
    (hat : ∀ i, v'.ownBlock = some i → vg.ownBlock = some i ∨ wr.heap.size ≤ i) : LpO B w0 m T cs ps w F (got ++ [x]) v' w2 := by
  have ha := h.ob.alloc o
  have t : Turn (fun i => vg.ownBlock = some i) (fun i => vg.ownBlock = some i) (wr.alloc o) w2 := grown_turn hg (fun k hk => hk) (fun i hi => .inl hi)
  exact ⟨ha.aside t (fun i hi => ⟨Nat.le_trans h.low (h.own.lt i hi).1, h.far i hi⟩), by simpa [ints_append, ints] using ho, fun i hi hf => (hat i hi).elim (fun e => h.far i e hf) (fun e => by have := (h.ob.bounds i hf).2; omega),
    fun y hy => (List.mem_append.1 hy).elim (h.vals y) (fun e => by rw [List.mem_singleton.1 e]; exact hx), (h.turn.alloc o).grown_new hg (fun i hi => (h.own.lt i hi).1), h.low⟩
theorem LpO.start (h : ObjAt B w0 m T cs ps wr) (t : Turn F (Foot m ps) w wr) (hl : B ≤ w.heap.size) : LpO B w0 m T cs ps w F [] (.slice (some ⟨wr.heap.size, 0, none⟩) 0 0) (wr.alloc (.cells #[] 3 (0, 0))) :=
  ⟨h.alloc _, by simpa [ints] using World.ownsRow_made (base := w.heap.size) wr #[] 0 t.size (by simp [maxLen]) rfl, fun i hi hf => (by cases hi; exact Nat.lt_irrefl _ (h.bounds _ hf).2), fun x hx => (by cases hx), t.alloc _, hl⟩
end

set_option maxHeartbeats 1000000 in
theorem l2Has_calls (A : Option Addr) (c : Nat) (xs : List Int) (x : Int) (B : Nat) (w0 w : World) (hb : Below B w0 w) (hB : B ≤ w.heap.size) (hl : xs.length ≤ maxLen) (hx : IntsAt B w0 A xs) :
    Calls Try.prog 56 #[.slice A xs.length c, .int .i64 x] w fun e w' => e = .returned (.bool (xs.contains x)) ∧ w = w' := by
  unfold maxLen at hl
  replace hx := Lib.hid hx
  replace hb := Lib.hid hb
  go_enter Try.func56, Try.ntmps56
  go_wp2_with fail
  go_loopw [5] (fun i wr => ∃ (j : Nat), j ≤ xs.length ∧ i = .int .i64 j ∧ wr = w ∧ Hid (x ∉ xs.take j)) (fun i _ => xs.length - (intOf i).toNat)
  case atStart => exact ⟨0, Nat.zero_le _, rfl, rfl, Lib.hid (by simp)⟩
  case round =>
    obtain ⟨j, hj, rfl, rfl, hno⟩ := hrel
    by_cases hlt : j < xs.length
    · obtain ⟨b, o, rfl, hbl, y⟩ := hx.out.at hb.out hB j hlt
      by_cases e : xs[j] = x
      · have e' : (xs[j] == x) = true := by simp [e]
        have hr : xs.contains x = true := by rw [← e]; simp
        replace e := Lib.hid e
        replace hr := Lib.hid hr
        go_wp2_with fail
        go_ret
        exact ⟨by rw [hr.out]; rfl, rfl⟩
      · have e' : (xs[j] == x) = false := by simp [e]
        have hno2 : x ∉ xs.take (j + 1) := by
          rw [List.take_succ_eq_append_getElem hlt, List.mem_append, List.mem_singleton]
          exact fun h => h.elim hno.out (fun h => e h.symm)
        replace e := Lib.hid e
        replace hno2 := Lib.hid hno2
        go_wp2_with fail
        go_roundw
        case rel => exact ⟨j + 1, by omega, by go_num, by first | rfl | trivial, hno2⟩
        case measure => simp [intOf]; omega
    · have hr : xs.contains x = false := by
        have := hno.out
        rw [List.take_of_length_le (by omega)] at this
        simpa using this
      replace hr := Lib.hid hr
      go_wp2_with fail
      go_ret
      exact ⟨by rw [hr.out]; rfl, rfl⟩
end Go.Proofs.Ytpccgdkidnkppaa

set_option linter.unusedVariables false
set_option linter.unusedSimpArgs false
namespace Go.Proofs.Ytpccgdkidnkppaa
open Go Go.RowKit

theorem rows_apart {w : World} {b1 b2 : Nat} {e1 e2 : TypeId} {s1 s2 n1 n2 : Nat} {v1 v2 : Value} {x1 x2 : List Value} (h1 : w.ownsRow b1 e1 s1 v1 n1 x1) (h2 : w.ownsRow b2 e2 s2 v2 n2 x2) (hne : e1 ≠ e2) : ∀ i, v1.ownBlock = some i → v2.ownBlock ≠ some i := by
  intro i hi
  rcases h1.2 with ⟨rfl, _⟩ | ⟨g, cap, cur, rfl, _, hg, _⟩
  · cases hi
  · cases hi
    exact ownsRow_ne h2 hg (fun c e => by cases e; exact hne rfl)
theorem l2Of_calls (A : Option Addr) (c : Nat) (xs : List Int) (k : Int) (hk : 0 ≤ k) (B : Nat) (w0 w : World) (hb : Below B w0 w) (hB : B ≤ w.heap.size) (hl : xs.length ≤ maxLen) (hx : IntsAt B w0 A xs) :
    Calls Try.prog 111 #[.slice A xs.length c, .int .i64 k] w fun e w' => e = .returned (.int .i64 (atK xs k)) ∧ w = w' := by
  obtain ⟨q, rfl⟩ := Int.eq_ofNat_of_zero_le hk
  unfold maxLen at hl
  by_cases hq : q < xs.length
  · obtain ⟨b, o, rfl, hbb, y⟩ := hx.at hb hB q hq
    rw [atK_in hq]
    clear hx hb hk
    generalize xs[q] = x at *
    go_enter Try.func111, Try.ntmps111
    go_wp2_with fail
    go_ret
    exact ⟨rfl, by first | rfl | trivial⟩
  · rw [atK_out (by omega)]
    clear hx hb hk
    go_enter Try.func111, Try.ntmps111
    go_wp2_with fail
    go_ret
    exact ⟨rfl, by first | rfl | trivial⟩

/-- between two fetches of the reference's run: the task's box, what was fetched, what was got -/
structure L2R (w1 : World) (xs : List Int) (l : List (Int × Int)) (got : List Int) (vo vg : Value) (wr : World) : Prop where
  out : wr.ownsRow w1.heap.size 112 2 vo l.length (fets l)
  own : wr.ownsRow w1.heap.size 3 1 vg got.length (ints got)
  below : Below w1.heap.size w1 wr
  vals : ∀ x ∈ got, 0 ≤ x ∧ x ≤ 96
theorem L2R.up {w1 : World} {xs : List Int} {l : List (Int × Int)} {got : List Int} {vo vg : Value} {wr w2 : World} (h : L2R w1 xs l got vo vg wr) (hb : Below wr.heap.size wr w2) : L2R w1 xs l got vo vg w2 :=
  ⟨ownsRow_block h.out (fun i hi => hb.block i (h.out.lt i hi).2), ownsRow_block h.own (fun i hi => hb.block i (h.own.lt i hi).2), below_up h.below hb, h.vals⟩
theorem L2R.fet {w1 : World} {xs : List Int} {l : List (Int × Int)} {got : List Int} {vo vg v' : Value} {wr w2 : World} {o : Obj} {k x : Int} (h : L2R w1 xs l got vo vg wr) (hg : (wr.alloc o).grownBy w2 vo.ownBlock) (ho : w2.ownsRow w1.heap.size 112 2 v' (l.length + 1) (fets l ++ [.int .i64 k, .int .i64 x])) : L2R w1 xs (l ++ [(k, x)]) got v' vg w2 := by
  have hz := h.below.size
  have ha := h.own.alloc o
  refine ⟨by rw [fets_append, List.length_append, List.length_singleton]; exact ho, ownsRow_block ha (fun i hi => hg.block i (ha.lt i hi).2 (fun e => rows_apart (h.out.alloc o) ha (by decide) i e.symm hi)), (below_al' h.below o hz).grown hg (by simp; omega) (fun i hi => (h.out.lt i hi).1), h.vals⟩
theorem L2R.get {w1 : World} {xs : List Int} {l : List (Int × Int)} {got : List Int} {vo vg v' : Value} {wr w2 : World} {o : Obj} {x : Int} (h : L2R w1 xs l got vo vg wr) (hg : (wr.alloc o).grownBy w2 vg.ownBlock) (ho : w2.ownsRow w1.heap.size 3 1 v' (got.length + 1) (ints got ++ [.int .i64 x])) (hx : 0 ≤ x ∧ x ≤ 96) : L2R w1 xs l (got ++ [x]) vo v' w2 := by
  have hz := h.below.size
  have ha := h.out.alloc o
  refine ⟨ownsRow_block ha (fun i hi => hg.block i (ha.lt i hi).2 (fun e => rows_apart (h.own.alloc o) ha (by decide) i e.symm hi)), by rw [ints_append, List.length_append, List.length_singleton]; exact ho, (below_al' h.below o hz).grown hg (by simp; omega) (fun i hi => (h.own.lt i hi).1),
    fun y hy => (List.mem_append.1 hy).elim (h.vals y) (fun e => by rw [List.mem_singleton.1 e]; exact hx)⟩

set_option maxRecDepth 5000 in
set_option maxHeartbeats 4000000 in
theorem l2Run_calls (t : Tk) (A : Option Addr) (c : Nat) (xs : List Int) (Ax : Option Addr) (cx B : Nat) (w0 w : World) (hb : Below B w0 w) (hB : B ≤ w.heap.size) (hok : t.ok) (hf : t.fets ≤ 100) (hc : t.enc.parts.length ≤ c) (hp : PartsIs B w0 A 0 t.enc.parts)
    (hm : xs.length ≤ maxLen) (hx : IntsAt B w0 Ax xs) (hv : ∀ x ∈ xs, 0 ≤ x ∧ x ≤ 96) :
    Calls Try.prog 57 #[.agg #[.int .i64 t.enc.kind, .int .i64 t.enc.n, .slice A t.enc.parts.length c], .slice Ax xs.length cx] w fun e w' =>
      ∃ v, e = .returned (.tuple #[.int .i64 (fetchedP t xs).1.1, v]) ∧ w'.ownsRow w.heap.size 112 2 v (fetchedP t xs).2.length (fets (fetchedP t xs).2) ∧ Below w.heap.size w w' := by
  have hat : ∀ k : Int, 0 ≤ atK xs k ∧ atK xs k ≤ 96 := fun k => by
    unfold atK
    split
    · omega
    · by_cases h1 : k.toNat < xs.length
      · rw [getD_at _ h1]; exact hv _ (List.getElem_mem _)
      · rw [getD_out _ (by omega)]; omega
  have hnx := fun (got : List Int) (Ag : Option Addr) (cg : Nat) (w1 : World) (hw : Below w.heap.size w w1) (hg : IntsAt w1.heap.size w1 Ag got) (hgv : ∀ x ∈ got, 0 ≤ x ∧ x ≤ 96) (hl : got.length ≤ 1000000) =>
    l2Next_calls t A c got Ag cg B w0 w1 (below_up' hb hB hw) (Nat.le_trans hB hw.size) hok hc hp hg hgv hl
  have hof := fun (k : Int) (hk : 0 ≤ k) (w1 : World) (hw : Below w.heap.size w w1) => l2Of_calls Ax cx xs k hk B w0 w1 (below_up' hb hB hw) (Nat.le_trans hB hw.size) hm hx
  have hitr := fetched_itr t xs
  have hiok := Tk.itr_ok t hok
  have hile := Tk.itr_le t
  obtain ⟨Q, hQ⟩ : ∃ Q, fetchedP t xs = Q := ⟨_, rfl⟩
  rw [hQ] at hitr ⊢
  generalize t.itr = m at *
  replace hnx := Lib.hid hnx
  replace hof := Lib.hid hof
  replace hat := Lib.hid hat
  replace hitr := Lib.hid hitr
  replace hiok := Lib.hid hiok
  replace hile := Lib.hid hile
  clear hb hp hok hx hv hQ hc
  go_enter Try.func57, Try.ntmps57
  go_wp2_with fail
  obtain ⟨w1, hw1⟩ : ∃ w1, w1 = w.alloc (.cells #[.int .i64 t.enc.kind, .int .i64 t.enc.n, .slice A t.enc.parts.length c] 48 (0, 0)) := ⟨_, rfl⟩
  have hs1 : w.heap.size < w1.heap.size := by rw [hw1]; simp
  have hb1 : Below w.heap.size w w1 := by rw [hw1]; exact below_al (Below.refl _ _) _
  have x0 : w1.cell? ⟨w.heap.size, 0, none⟩ = some (.int .i64 t.enc.kind) := by rw [hw1]; simp
  have x1 : w1.cell? ⟨w.heap.size, 1, none⟩ = some (.int .i64 t.enc.n) := by rw [hw1]; simp
  have x2 : w1.cell? ⟨w.heap.size, 2, none⟩ = some (.slice A t.enc.parts.length c) := by rw [hw1]; simp
  have hL0 : L2R w1 xs [] [] (.slice (some ⟨w1.heap.size, 0, none⟩) 0 0) (.slice (some ⟨w1.heap.size + 1, 0, none⟩) 0 0) ((w1.alloc (.cells #[] 112 (0, 0))).alloc (.cells #[] 3 (0, 0))) :=
    ⟨(World.ownsRow_made (base := w1.heap.size) (size := 2) w1 #[] 0 (Nat.le_refl _) (by simp [maxLen]) rfl).alloc _, by simpa [ints] using World.ownsRow_made (base := w1.heap.size) (size := 1) (w1.alloc (.cells #[] 112 (0, 0))) #[] 0 (by simp) (by simp [maxLen]) rfl, below_al (below_al (Below.refl _ _) _) _, fun x hx => by cases hx⟩
  have hsz1 : w.heap.size + 1 = w1.heap.size := by rw [hw1]; simp
  rw [← hsz1] at hL0
  rw [← hw1]
  have hcall := hnx.out [] (some ⟨w.heap.size + 1 + 1, 0, none⟩) 0 _ (hb1.trans (hL0.below.mono (Nat.le_of_lt hs1))) (RowAt.nil _ _ _ _) (fun x hx => by cases hx) (by simp)
  replace hb1 := Lib.hid hb1
  replace x0 := Lib.hid x0
  replace x1 := Lib.hid x1
  replace x2 := Lib.hid x2
  replace hL0 := Lib.hid hL0
  replace hw1 := Lib.hid hw1
  replace hsz1 := Lib.hid hsz1
  replace hcall := Lib.hid hcall
  refine hcall.out.mono ?_
  rintro e w2 ⟨rfl, v0, v1, h2⟩
  have hL2 := hL0.out.up h2
  replace hL2 := Lib.hid hL2
  clear h2 hL0 hcall v0 v1
  go_wp2_with fail
  go_loopw [6, 7, 8, 9, 10] (fun vo vg v ky o wr => ∃ (got : List Int) (l : List (Int × Int)), Hid (got.length = l.length) ∧ l.length ≤ t.fets ∧ got.length ≤ t.fets ∧ v = .int .i64 (nextP m got).1 ∧ ky = .int .i64 (nextP m got).2.1 ∧ o = .bool (nextP m got).2.2 ∧
    Hid (L2R w1 xs l got vo vg wr) ∧ Hid (Q = (m.walk got).run (fetF xs) l)) (fun _ vg _ _ _ _ => t.fets - lenOf vg)
  case atStart => exact ⟨[], [], Lib.hid rfl, Nat.zero_le _, Nat.zero_le _, rfl, rfl, rfl, hL2, Lib.hid (by rw [hitr.out, Itr.walk_nil])⟩
  case round =>
    obtain ⟨got, l, hgl, hgf2, hgf, rfl, rfl, rfl, hL, hEq⟩ := hrel
    have hwr := hb1.out.trans (hL.out.below.mono (Nat.le_of_lt hs1))
    replace hwr := Lib.hid hwr
    cases hw : m.walk got with
    | done x =>
      obtain ⟨n1, n2⟩ := nextP_done hw
      have he := hEq.out
      rw [hw] at he
      have he2 : Q = ((x, true), l) := he
      have hfin := own_low hL.out.out (Nat.le_of_lt hs1)
      rw [n1, n2]
      replace hfin := Lib.hid hfin
      replace he2 := Lib.hid he2
      clear hw n1 n2 he hEq hL
      go_wp2_with fail
      go_ret2
      rw [he2.out]
      exact ⟨_, rfl, hfin.out, hwr.out⟩
    | ask ky ct =>
      have hnp := nextP_ask hw
      have hkr := Itr.walk_ok got _ hiok.out
      rw [hw] at hkr
      obtain ⟨hk0', hk9', -⟩ := hkr
      have hglt := Itr.walk_le got _ _ hile.out ky ct hw
      have he := hEq.out
      rw [hw, Itr.run_yes (by simp [fetF])] at he
      have he2 : Q = (m.walk (got ++ [atK xs ky])).run (fetF xs) (l ++ [(ky, atK xs ky)]) := by
        rw [he, Itr.walk_append, hw, Itr.walk, Itr.walk_nil]; rfl
      have hxx := hat.out ky
      have hof1 := hof.out ky hk0'
      rw [hnp]
      obtain ⟨Ao, co, evo, ho1, ho2, -⟩ := fets_own hL.out.out
      obtain ⟨Ag, cg, evg, hg1, hg2, -⟩ := ownsRow_ints hL.out.own
      subst evo evg
      generalize atK xs ky = x at *
      have hwz := hL.out.below.size
      unfold maxLen at ho2 hg2
      replace hof1 := Lib.hid hof1
      replace he2 := Lib.hid he2
      replace hnp := Lib.hid hnp
      replace hw := Lib.hid hw
      clear hEq he
      have hc1 := hof1.out wr hwr.out
      replace hc1 := Lib.hid hc1
      go_wp2_with fail
      refine hc1.out.mono ?_
      rintro e w3 ⟨rfl, rfl⟩
      clear hc1
      go_wp2_with (at_builtin; go_loud (with_reducible refine wpList_app1 (by rfl) (.tmp 22) (.tmp 28) 73 (by rfl) fetTy w1.heap.size (.slice Ao l.length co) l.length (fets l) (by with_unfolding_all rfl) (hL.out.out.alloc _) wr.heap.size 1 [.int .i64 ky, .int .i64 x] (by with_unfolding_all rfl) (by with_unfolding_all rfl) ⟨_, _, heap_alloc_new wr _, rfl⟩ (one_fet _ _) ?_ ?_ ?_ ?_))
      · unfold maxLen; omega
      · omega
      · simp; omega
      intro g6 cap6 w6 hown6 hgrow6 hat6
      have hL6 := hL.out.fet (xs := xs) hgrow6 hown6
      have hwr6 := hb1.out.trans (hL6.below.mono (Nat.le_of_lt hs1))
      have hwz6 := hL6.below.size
      have hc1 := hof1.out w6 hwr6
      replace hc1 := Lib.hid hc1
      replace hL6 := Lib.hid hL6
      clear hown6 hgrow6 hat6 hL hwr
      go_wp2_with fail
      refine hc1.out.mono ?_
      rintro e w3 ⟨rfl, rfl⟩
      clear hc1
      go_wp2_with (at_builtin; go_loud (with_reducible refine wpList_app1 (by rfl) (.tmp 30) (.tmp 34) 26 (by rfl) intTy w1.heap.size (.slice Ag got.length cg) got.length (ints got) (by with_unfolding_all rfl) (hL6.out.own.alloc _) w6.heap.size 1 [.int .i64 x] (by with_unfolding_all rfl) (by with_unfolding_all rfl) ⟨_, _, heap_alloc_new w6 _, rfl⟩ (one_int _ _) ?_ ?_ ?_ ?_))
      · unfold maxLen; omega
      · omega
      · simp; omega
      intro g7 cap7 w7 hown7 hgrow7 hat7
      have hL7 := hL6.out.get (xs := xs) hgrow7 hown7 hxx
      have hwr7 := hb1.out.trans (hL7.below.mono (Nat.le_of_lt hs1))
      have hwz7 := hL7.below.size
      have y0 := (hL7.below.cell (p := ⟨w.heap.size, 0, none⟩) hs1).trans x0.out
      have y1 := (hL7.below.cell (p := ⟨w.heap.size, 1, none⟩) hs1).trans x1.out
      have y2 := (hL7.below.cell (p := ⟨w.heap.size, 2, none⟩) hs1).trans x2.out
      have hzz : w.heap.size < w7.heap.size := by omega
      have hlen7 : (got ++ [x]).length = got.length + 1 := by simp
      have hi7 := hL7.own
      rw [hlen7] at hi7
      have hii : IntsAt w7.heap.size w7 (some ⟨g7, 0, none⟩) (got ++ [x]) := ownsRow_ints_of (c := cap7) (by rw [hlen7]; exact hi7)
      have hc2 := hnx.out (got ++ [x]) (some ⟨g7, 0, none⟩) cap7 w7 hwr7 hii hL7.vals (by simp; omega)
      rw [hlen7] at hc2
      replace hc2 := Lib.hid hc2
      replace hL7 := Lib.hid hL7
      replace hlen7 := Lib.hid hlen7
      clear hown7 hgrow7 hat7 hL6 hi7 hii hwr7 hwr6
      go_wp2_with fail
      refine hc2.out.mono ?_
      rintro e w8 ⟨rfl, v0, v1, h8⟩
      have hL8 := hL7.out.up h8
      replace hL8 := Lib.hid hL8
      clear hc2 hL7 h8 y0 y1 y2 hzz
      go_wp2_with fail
      go_roundw
      case rel => exact ⟨got ++ [x], l ++ [(ky, x)], Lib.hid (by simp [hgl.out]), by have := hgl.out; simp; omega, by rw [hlen7.out]; omega, rfl, rfl, rfl, hL8, he2⟩
      case measure => simp only [lenOf]; omega
end Go.Proofs.Ytpccgdkidnkppaa

set_option linter.unusedVariables false
set_option linter.unusedSimpArgs false
namespace Go.Proofs.Ytpccgdkidnkppaa
open Go Go.RowKit

/-! two runs side by side -/
theorem Itr.run_rel {σ τ : Type} {f : σ → Int → (Int × Bool) × σ} {g : τ → Int → (Int × Bool) × τ} {R : σ → τ → Prop}
    (h : ∀ s c k, R s c → 0 ≤ k → k ≤ 9 → (f s k).1 = (g c k).1 ∧ ((f s k).1.2 = true → R (f s k).2 (g c k).2)) : ∀ (m : Itr) (s : σ) (c : τ), m.ok → R s c → (m.run f s).1 = (m.run g c).1 ∧ ((m.run f s).1.2 = true → R (m.run f s).2 (m.run g c).2) := by
  intro m
  induction m with
  | done v => intro s c _ hR; exact ⟨rfl, fun _ => hR⟩
  | ask k ct ih =>
    intro s c hok hR
    obtain ⟨h1, h2⟩ := h s c k hR hok.1 hok.2.1
    by_cases hf : (f s k).1.2 = true
    · have hg : (g c k).1.2 = true := by rw [← h1]; exact hf
      rw [Itr.run_yes hf, Itr.run_yes hg, ← h1]
      exact ih _ _ _ (hok.2.2 _) (h2 hf)
    · have hg : ¬ (g c k).1.2 = true := by rw [← h1]; exact hf
      rw [Itr.run_no hf, Itr.run_no hg]
      exact ⟨rfl, fun h => by cases h⟩
theorem Itr.run_keeps {σ : Type} {f : σ → Int → (Int × Bool) × σ} {J : σ → Prop} (hJ : ∀ s k, J s → 0 ≤ k → k ≤ 9 → J (f s k).2) : ∀ (m : Itr) (s : σ), m.ok → J s → J (m.run f s).2 := by
  intro m
  induction m with
  | done v => intro s _ h; exact h
  | ask k ct ih =>
    intro s hok h
    have h1 := hJ s k h hok.1 hok.2.1
    by_cases hf : (f s k).1.2 = true
    · rw [Itr.run_yes hf]; exact ih _ _ (hok.2.2 _) h1
    · rw [Itr.run_no hf]; exact h1

/-! the reference's way of building keys, each once -/
structure OSt where
  vals : List Int
  done : List Int
  under : List Int
def onceP (S : Sh) : Nat → OSt → Int → (Int × Bool) × OSt
  | n, st, k =>
    if mkK S.made k = false then ((atK st.vals k, true), st)
    else if st.done.contains k = true then ((atK st.vals k, true), st)
    else if st.under.contains k = true then ((0, false), st)
    else match n with
      | 0 => ((0, false), st)
      | n + 1 =>
        if ((S.tk k).itr.run (onceP S n) ⟨st.vals, st.done, st.under ++ [k]⟩).1.2 = true
        then ((((S.tk k).itr.run (onceP S n) ⟨st.vals, st.done, st.under ++ [k]⟩).1.1, true), ⟨((S.tk k).itr.run (onceP S n) ⟨st.vals, st.done, st.under ++ [k]⟩).2.vals.set k.toNat ((S.tk k).itr.run (onceP S n) ⟨st.vals, st.done, st.under ++ [k]⟩).1.1, ((S.tk k).itr.run (onceP S n) ⟨st.vals, st.done, st.under ++ [k]⟩).2.done ++ [k], st.under⟩)
        else ((0, false), ⟨((S.tk k).itr.run (onceP S n) ⟨st.vals, st.done, st.under ++ [k]⟩).2.vals, ((S.tk k).itr.run (onceP S n) ⟨st.vals, st.done, st.under ++ [k]⟩).2.done, st.under⟩)
theorem onceP_unmade {S : Sh} {n : Nat} {st : OSt} {k : Int} (h : mkK S.made k = false) : onceP S n st k = ((atK st.vals k, true), st) := by unfold onceP; rw [if_pos h]
theorem onceP_done {S : Sh} {n : Nat} {st : OSt} {k : Int} (h : mkK S.made k = true) (hd : st.done.contains k = true) : onceP S n st k = ((atK st.vals k, true), st) := by unfold onceP; rw [if_neg (by simp [h]), if_pos hd]
theorem onceP_under {S : Sh} {n : Nat} {st : OSt} {k : Int} (h : mkK S.made k = true) (hd : st.done.contains k = false) (hu : st.under.contains k = true) : onceP S n st k = ((0, false), st) := by unfold onceP; rw [if_neg (by simp [h]), if_neg (by simp only [hd]; decide), if_pos hu]
theorem onceP_new {S : Sh} {n : Nat} {st : OSt} {k : Int} (h : mkK S.made k = true) (hd : st.done.contains k = false) (hu : st.under.contains k = false) : onceP S (n + 1) st k =
    (let r := (S.tk k).itr.run (onceP S n) ⟨st.vals, st.done, st.under ++ [k]⟩
     if r.1.2 = true then ((r.1.1, true), ⟨r.2.vals.set k.toNat r.1.1, r.2.done ++ [k], st.under⟩) else ((0, false), ⟨r.2.vals, r.2.done, st.under⟩)) := by
  rw [onceP, if_neg (by simp [h]), if_neg (by simp only [hd]; decide), if_neg (by simp only [hu]; decide)]
theorem onceP_zero (S : Sh) (n : Nat) (st : OSt) (k : Int) : (onceP S n st k).1.2 = false → (onceP S n st k).1.1 = 0 := by
  intro h
  unfold onceP at h ⊢
  split
  · rename_i h1; rw [if_pos h1] at h; cases h
  · rename_i h1
    rw [if_neg h1] at h
    split
    · rename_i h2; rw [if_pos h2] at h; cases h
    · rename_i h2
      rw [if_neg h2] at h
      split
      · rfl
      · rename_i h3
        rw [if_neg h3] at h
        cases n with
        | zero => rfl
        | succ n =>
          dsimp only at h ⊢
          split
          · rename_i h4; rw [if_pos h4] at h; cases h
          · rfl
/-- what is kept: of what a step of the reference's way -/
structure OInv (S : Sh) (n : Nat) (st : OSt) : Prop where
  vlen : st.vals.length = S.made.length
  vals : ∀ x ∈ st.vals, 0 ≤ x ∧ x ≤ 96
  done : st.done.length ≤ S.made.length
  nodup : st.done.Nodup
  range : ∀ x ∈ st.done, 0 ≤ x ∧ x < S.made.length
  under : UOk S n st.under
  apart : ∀ x ∈ st.under, x ∉ st.done
theorem OInv.at {S : Sh} {n : Nat} {st : OSt} (h : OInv S n st) (k : Int) : 0 ≤ atK st.vals k ∧ atK st.vals k ≤ 96 := by
  unfold atK
  split
  · omega
  · by_cases h1 : k.toNat < st.vals.length
    · rw [getD_at _ h1]; exact h.vals _ (List.getElem_mem _)
    · rw [getD_out _ (by omega)]; omega
theorem onceP_inv {S : Sh} (hS : S.Ok) : ∀ (n : Nat) (st : OSt) (k : Int), OInv S n st → OInv S n (onceP S n st k).2 ∧ (onceP S n st k).2.under = st.under ∧ 0 ≤ (onceP S n st k).1.1 ∧ (onceP S n st k).1.1 ≤ 96 := by
  intro n
  induction n with
  | zero =>
    intro st k hi
    cases hm : mkK S.made k with
    | false => rw [onceP_unmade hm]; exact ⟨hi, rfl, hi.at k⟩
    | true =>
      cases hd : st.done.contains k with
      | true => rw [onceP_done hm hd]; exact ⟨hi, rfl, hi.at k⟩
      | false =>
        cases hu : st.under.contains k with
        | true => rw [onceP_under hm hd hu]; exact ⟨hi, rfl, by simp, by simp⟩
        | false =>
          have : onceP S 0 st k = ((0, false), st) := by rw [onceP, if_neg (by simp [hm]), if_neg (by simp only [hd]; decide), if_neg (by simp only [hu]; decide)]
          rw [this]; exact ⟨hi, rfl, by simp, by simp⟩
  | succ n ih =>
    intro st k hi
    cases hm : mkK S.made k with
    | false => rw [onceP_unmade hm]; exact ⟨hi, rfl, hi.at k⟩
    | true =>
      cases hd : st.done.contains k with
      | true => rw [onceP_done hm hd]; exact ⟨hi, rfl, hi.at k⟩
      | false =>
        cases hu : st.under.contains k with
        | true => rw [onceP_under hm hd hu]; exact ⟨hi, rfl, by simp, by simp⟩
        | false =>
          have hkr := mkK_range (show mkK S.made k ≠ false by rw [hm]; simp)
          have hkd : k ∉ st.done := by simpa using hd
          have hku : k ∉ st.under := by simpa using hu
          rw [onceP_new hm hd hu]
          have h1 : OInv S n ⟨st.vals, st.done, st.under ++ [k]⟩ := ⟨hi.vlen, hi.vals, hi.done, hi.nodup, hi.range, hi.under.push hku hkr, fun x hx => (List.mem_append.1 hx).elim (hi.apart x) (fun e => by rw [List.mem_singleton.1 e]; exact hkd)⟩
          have hk := Itr.run_keeps (f := onceP S n) (J := fun s => OInv S n s ∧ s.under = st.under ++ [k]) (fun s j h _ _ => ⟨(ih s j h.1).1, ((ih s j h.1).2.1).trans h.2⟩) (S.tk k).itr ⟨st.vals, st.done, st.under ++ [k]⟩ (Tk.itr_ok _ (tk_ok hS k)) ⟨h1, rfl⟩
          have hv : 0 ≤ ((S.tk k).itr.run (onceP S n) ⟨st.vals, st.done, st.under ++ [k]⟩).1.1 ∧ ((S.tk k).itr.run (onceP S n) ⟨st.vals, st.done, st.under ++ [k]⟩).1.1 ≤ 96 := by
            rw [← Tk.run_itr _ (onceP_zero S n)]
            exact Tk.run_value (J := fun s => OInv S n s) (fun s j h _ _ => (ih s j h).1) (fun s j h _ _ => (ih s j h).2.2) (S.tk k) _ (tk_ok hS k) h1
          generalize (S.tk k).itr.run (onceP S n) ⟨st.vals, st.done, st.under ++ [k]⟩ = r at *
          obtain ⟨h2, h3⟩ := hk
          have hkd2 : k ∉ r.2.done := h2.apart k (by rw [h3]; simp)
          have hap : ∀ x ∈ st.under, x ∉ r.2.done := fun x hx => h2.apart x (by rw [h3]; simp [hx])
          dsimp only
          split
          · refine ⟨⟨by simpa using h2.vlen, fun x hx => ?_, ?_, ?_, fun x hx => ?_, hi.under, fun x hx hx2 => ?_⟩, rfl, hv⟩
            · rcases List.mem_or_eq_of_mem_set hx with hx | rfl
              · exact h2.vals x hx
              · exact hv
            · refine nodup_bound ?_ (fun x hx => ?_)
              · rw [List.nodup_append]
                exact ⟨h2.nodup, by simp, fun a ha b hb => by simp only [List.mem_singleton] at hb; subst hb; intro e; exact hkd2 (e ▸ ha)⟩
              · rcases List.mem_append.1 hx with hx | hx
                · exact h2.range x hx
                · rw [List.mem_singleton.1 hx]; exact hkr
            · rw [List.nodup_append]
              exact ⟨h2.nodup, by simp, fun a ha b hb => by simp only [List.mem_singleton] at hb; subst hb; intro e; exact hkd2 (e ▸ ha)⟩
            · rcases List.mem_append.1 hx with hx | hx
              · exact h2.range x hx
              · rw [List.mem_singleton.1 hx]; exact hkr
            · rcases List.mem_append.1 hx2 with hx2 | hx2
              · exact hap x hx hx2
              · rw [List.mem_singleton.1 hx2] at hx; exact hku hx
          · exact ⟨⟨h2.vlen, h2.vals, h2.done, h2.nodup, h2.range, hi.under, hap⟩, rfl, by simp, by simp⟩

/-! the same as the program's maker -/
structure ORel (S : Sh) (st : MkSt) (o : OSt) : Prop where
  done : o.done = st.order
  under : o.under = st.open_
  vlen : o.vals.length = S.made.length
  unmade : ∀ k, mkK S.made k = false → atK o.vals k = atK S.inputs k
  has : ∀ k, mkK S.made k = true → (k ∈ st.order ↔ st.known k ≠ none)
  val : ∀ k v, st.known k = some v → mkK S.made k = true ∧ atK o.vals k = v
theorem atK_set {xs : List Int} {k j : Int} {v : Int} (hk : 0 ≤ k ∧ k < xs.length) : atK (xs.set k.toNat v) j = if j = k then v else atK xs j := by
  obtain ⟨q, rfl⟩ := Int.eq_ofNat_of_zero_le hk.1
  rw [Int.toNat_natCast]
  unfold atK
  by_cases e : j = (q : Int)
  · subst e
    rw [if_pos rfl, if_neg (by omega), Int.toNat_natCast, getD_at _ (by simp; omega)]
    simp
  · rw [if_neg e]
    split
    · rfl
    · by_cases hj : j.toNat < xs.length
      · rw [getD_at _ (by simpa using hj), getD_at _ hj, List.getElem_set_ne (by omega)]
      · rw [getD_out _ (by simp; omega), getD_out _ (by omega)]
theorem once_same {S : Sh} (hS : S.Ok) : ∀ (n : Nat) (st : MkSt) (o : OSt) (k : Int), Inv S n st → ORel S st o →
    (keyP S n st k).1 = (onceP S n o k).1 ∧ ((keyP S n st k).1.2 = true → ORel S (keyP S n st k).2 (onceP S n o k).2) := by
  intro n
  induction n with
  | zero =>
    intro st o k hi hR
    cases hm : mkK S.made k with
    | false => rw [keyP_unmade hm, onceP_unmade hm]; exact ⟨by rw [hR.unmade k hm], fun _ => hR⟩
    | true =>
      cases hkn : st.known k with
      | some v =>
        have hd : o.done.contains k = true := by rw [hR.done]; simp [(hR.has k hm).2 (by rw [hkn]; simp)]
        rw [keyP_known hm hkn, onceP_done hm hd]
        exact ⟨by rw [(hR.val k v hkn).2], fun _ => hR⟩
      | none =>
        have hd : o.done.contains k = false := by
          rw [hR.done]
          cases h : st.order.contains k with
          | false => rfl
          | true => exact ((hR.has k hm).1 (by simpa using h) hkn).elim
        by_cases ho : 0 ≤ idx (fun x => k == x) st.open_
        · have hu : o.under.contains k = true := by
            rw [hR.under]
            cases h : st.open_.contains k with
            | true => rfl
            | false => exact (idx_not_mem (by simpa using h) ho).elim
          rw [keyP_opened hm hkn ho, onceP_under hm hd hu]
          exact ⟨rfl, fun h => by cases h⟩
        · have hu : o.under.contains k = false := by
            rw [hR.under]; simpa using not_open ho
          have e1 : keyP S 0 st k = ((0, false), st) := by unfold keyP; rw [if_neg (by simp [hm]), hkn]; simp only; rw [if_neg ho]
          have e2 : onceP S 0 o k = ((0, false), o) := by rw [onceP, if_neg (by simp [hm]), if_neg (by simp only [hd]; decide), if_neg (by simp only [hu]; decide)]
          rw [e1, e2]
          exact ⟨rfl, fun h => by cases h⟩
  | succ n ih =>
    intro st o k hi hR
    cases hm : mkK S.made k with
    | false => rw [keyP_unmade hm, onceP_unmade hm]; exact ⟨by rw [hR.unmade k hm], fun _ => hR⟩
    | true =>
      cases hkn : st.known k with
      | some v =>
        have hd : o.done.contains k = true := by rw [hR.done]; simp [(hR.has k hm).2 (by rw [hkn]; simp)]
        rw [keyP_known hm hkn, onceP_done hm hd]
        exact ⟨by rw [(hR.val k v hkn).2], fun _ => hR⟩
      | none =>
        have hd : o.done.contains k = false := by
          rw [hR.done]
          cases h : st.order.contains k with
          | false => rfl
          | true => exact ((hR.has k hm).1 (by simpa using h) hkn).elim
        by_cases ho : 0 ≤ idx (fun x => k == x) st.open_
        · have hu : o.under.contains k = true := by
            rw [hR.under]
            cases h : st.open_.contains k with
            | true => rfl
            | false => exact (idx_not_mem (by simpa using h) ho).elim
          rw [keyP_opened hm hkn ho, onceP_under hm hd hu]
          exact ⟨rfl, fun h => by cases h⟩
        · have hu : o.under.contains k = false := by
            rw [hR.under]; simpa using not_open ho
          have hkr := mkK_range (show mkK S.made k ≠ false by rw [hm]; simp)
          have hi1 := inv_push hi hkr hkn (not_open ho)
          have hR1 : ORel S { st with open_ := st.open_ ++ [k] } ⟨o.vals, o.done, o.under ++ [k]⟩ := ⟨hR.done, by simp only [hR.under], hR.vlen, hR.unmade, hR.has, hR.val⟩
          have hrel := Itr.run_rel (f := keyP S n) (g := onceP S n) (R := fun s c => Inv S n s ∧ ORel S s c ∧ s.open_ = st.open_ ++ [k]) (fun s c j h _ _ => by
            obtain ⟨a, b⟩ := ih s c j h.1 h.2.1
            have hv := keyP_inv hS n s j h.1
            exact ⟨a, fun hok => ⟨hv.1, b hok, (hv.2.1 hok).trans h.2.2⟩⟩) (S.tk k).itr { st with open_ := st.open_ ++ [k] } ⟨o.vals, o.done, o.under ++ [k]⟩ (Tk.itr_ok _ (tk_ok hS k)) ⟨hi1, hR1, rfl⟩
          rw [keyP_new hm hkn ho, onceP_new hm hd hu, Tk.run_itr _ (keyP_zero S n)]
          generalize (S.tk k).itr.run (keyP S n) { st with open_ := st.open_ ++ [k] } = r at *
          generalize (S.tk k).itr.run (onceP S n) ⟨o.vals, o.done, o.under ++ [k]⟩ = q at *
          obtain ⟨h1, h2⟩ := hrel
          dsimp only
          rw [← h1]
          by_cases hok : r.1.2 = true
          · obtain ⟨g1, g2, g3⟩ := h2 hok
            rw [if_pos hok, if_pos hok]
            refine ⟨rfl, fun _ => ⟨by simp only [g2.done], by simp only [g3, List.dropLast_concat]; exact hR.under, by simpa using g2.vlen, fun j hj => ?_, fun j hj => ?_, fun j v hv => ?_⟩⟩
            · rw [atK_set (by rw [g2.vlen]; exact hkr), if_neg (fun e => by rw [e, hm] at hj; cases hj)]
              exact g2.unmade j hj
            · simp only [List.mem_append, List.mem_singleton, upd]
              by_cases e : j = k
              · simp [e]
              · rw [if_neg e]
                have := g2.has j hj
                simp only [e, or_false]; exact this
            · simp only [upd] at hv
              rw [atK_set (by rw [g2.vlen]; exact hkr)]
              by_cases e : j = k
              · rw [if_pos e] at hv ⊢; cases hv; exact ⟨by rw [e]; exact hm, rfl⟩
              · rw [if_neg e] at hv ⊢; exact g2.val j v hv
          · rw [if_neg hok, if_neg hok]
            exact ⟨rfl, fun h => by cases h⟩

/-! keys, one after another -/
def suspL (S : Sh) : List Int → MkSt → List Int × Bool
  | [], st => (st.order, true)
  | k :: ks, st => if (keyP S S.made.length st k).1.2 = true then suspL S ks (keyP S S.made.length st k).2 else ([], false)
def onceL (S : Sh) : List Int → OSt → List Int × Bool
  | [], st => (st.done, true)
  | k :: ks, st => if (onceP S S.made.length st k).1.2 = true then onceL S ks (onceP S S.made.length st k).2 else ([], false)
def suspP (S : Sh) (keys : List Int) : List Int × Bool := suspL S keys st0
def ost0 (S : Sh) : OSt := ⟨S.inputs, [], []⟩
theorem orel0 {S : Sh} (hS : S.Ok) : ORel S st0 (ost0 S) := ⟨rfl, rfl, hS.ins, fun _ _ => rfl, fun k _ => by simp [st0], fun k v h => by cases h⟩
theorem oinv0 {S : Sh} (hS : S.Ok) : OInv S S.made.length (ost0 S) := ⟨hS.ins, hS.vals, by simp [ost0], List.nodup_nil, fun x hx => (by cases hx), uok0 S, fun x hx => (by cases hx)⟩
theorem suspL_same {S : Sh} (hS : S.Ok) : ∀ (ks : List Int) (st : MkSt) (o : OSt), Inv S S.made.length st → ORel S st o → suspL S ks st = onceL S ks o := by
  intro ks
  induction ks with
  | nil => intro st o _ hR; rw [suspL, onceL, hR.done]
  | cons k ks ih =>
    intro st o hi hR
    obtain ⟨h1, h2⟩ := once_same hS S.made.length st o k hi hR
    rw [suspL, onceL, ← h1]
    by_cases hok : (keyP S S.made.length st k).1.2 = true
    · rw [if_pos hok, if_pos hok]
      exact ih _ _ (keyP_inv hS _ _ _ hi).1 (h2 hok)
    · rw [if_neg hok, if_neg hok]
theorem susp_same {S : Sh} (hS : S.Ok) (keys : List Int) : suspP S keys = onceL S keys (ost0 S) := suspL_same hS keys st0 (ost0 S) (inv0 S) (orel0 hS)
theorem suspL_length {S : Sh} (hS : S.Ok) : ∀ (ks : List Int) (st : MkSt), Inv S S.made.length st → (suspL S ks st).1.length ≤ 10 := by
  intro ks
  induction ks with
  | nil => intro st hi; rw [suspL]; have := inv_order hi; have := hS.ten; simp only []; omega
  | cons k ks ih =>
    intro st hi
    rw [suspL]
    split
    · exact ih _ (keyP_inv hS _ _ _ hi).1
    · simp
/-- whether all keys are ones of a sheet of n keys -/
def keysOk (n : Nat) (keys : List Int) : Bool := keys.all fun k => decide (0 ≤ k ∧ k < n)
theorem keysOk_iff {n : Nat} {keys : List Int} : keysOk n keys = true ↔ ∀ k ∈ keys, 0 ≤ k ∧ k < n := by
  unfold keysOk
  rw [List.all_eq_true]
  simp
end Go.Proofs.Ytpccgdkidnkppaa
