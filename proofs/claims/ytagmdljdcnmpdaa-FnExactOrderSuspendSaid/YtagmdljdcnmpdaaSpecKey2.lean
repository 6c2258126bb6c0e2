import Derived.Test.YtagmdljdcnmpdaaSpecKey
import Derived.Test.YtagmdljdcnmpdaaTaskValue
import Derived.WalkSmall
set_option linter.unusedVariables false
set_option linter.unusedSimpArgs false
namespace Go.Proofs.Ytagmdljdcnmpdaa
open Go Go.RowKit

theorem Tk.itr_le : ∀ t : Tk, t.itr.le t.fets := by
  intro t
  induction t with
  | num n => trivial
  | get k => exact fun _ => trivial
  | add a b iha ihb => exact Itr.bind_le _ _ _ _ iha fun x => by have := Itr.bind_le b.itr (fun y => .done ((x + y) % 97)) _ 0 ihb fun y => trivial; simpa using this
  | mul a b iha ihb => exact Itr.bind_le _ _ _ _ iha fun x => by have := Itr.bind_le b.itr (fun y => .done ((x * y) % 97)) _ 0 ihb fun y => trivial; simpa using this
  | cond a b d iha ihb ihd =>
    have := Itr.bind_le a.itr (fun x => if x ≠ 0 then b.itr else d.itr) a.fets (b.fets + d.fets) iha fun x => by
      split
      · exact Itr.le_mono _ _ _ (by omega) ihb
      · exact Itr.le_mono _ _ _ (by omega) ihd
    simpa [Tk.itr, Tk.fets, Nat.add_assoc] using this
  | ix n a iha => exact Itr.bind_le _ _ _ _ iha fun x => fun _ => trivial
theorem sheetOkL_get : ∀ (made : List Bool) (tasks : List Task), made.length = tasks.length → sheetOkL made tasks = true → ∀ i (h : i < tasks.length), okT tasks[i] = true := by
  intro made
  induction made with
  | nil =>
    intro tasks hl _ i h
    cases tasks with
    | nil => simp at h
    | cons t ts => simp at hl
  | cons b bs ih =>
    intro tasks hl hs i h
    cases tasks with
    | nil => simp at h
    | cons t ts =>
      rw [sheetOkL_cons, Bool.and_eq_true, Bool.and_eq_true] at hs
      cases i with
      | zero => exact hs.1.1
      | succ i => exact ih ts (by simpa using hl) hs.2 i (by simpa using h)
theorem Sh.Ok.okT {S : Sh} (h : S.Ok) {q : Nat} (hq : q < S.tks.length) : Go.Proofs.Ytagmdljdcnmpdaa.okT S.tks[q].enc = true := by
  have h1 := h.sheet
  rw [sheetOk, Bool.and_eq_true, Bool.and_eq_true] at h1
  have := sheetOkL_get _ _ (by simpa using h.len) h1.2 q (by simpa using hq)
  simpa using this

/-- keys under way, with room for n more -/
structure UOk (S : Sh) (n : Nat) (u : List Int) : Prop where
  nodup : u.Nodup
  range : ∀ x ∈ u, 0 ≤ x ∧ x < S.made.length
  fuel : S.made.length ≤ u.length + n
theorem UOk.len {S : Sh} {n : Nat} {u : List Int} (h : UOk S n u) : u.length ≤ S.made.length := nodup_bound h.nodup h.range
theorem UOk.push {S : Sh} {n : Nat} {u : List Int} {k : Int} (h : UOk S (n + 1) u) (hk : k ∉ u) (hr : 0 ≤ k ∧ k < S.made.length) : UOk S n (u ++ [k]) := by
  refine ⟨?_, fun x hx => ?_, by have := h.fuel; simp; omega⟩
  · rw [List.nodup_append]
    exact ⟨h.nodup, by simp, fun a ha b hb => by simp only [List.mem_singleton] at hb; subst hb; intro e; exact hk (e ▸ ha)⟩
  · rcases List.mem_append.1 hx with hx | hx
    · exact h.range x hx
    · rw [List.mem_singleton.1 hx]; exact hr

theorem Turn.grown_new {F F' : Nat → Prop} {w w1 w2 : World} {row : Option Nat} (t : Turn F F' w w1) (hg : w1.grownBy w2 row) (hr : ∀ i, row = some i → w.heap.size ≤ i) : Turn F F' w w2 :=
  ⟨hg.os.trans t.os, hg.tape.trans t.tape, hg.output.trans t.output, Nat.le_trans t.size hg.size, fun i hi hn => (hg.block i (Nat.lt_of_lt_of_le hi t.size) (fun e => by have := hr i e.symm; omega)).trans (t.block i hi hn), t.fresh⟩

theorem SbAt.pop {E : MkEnv} {S : Sh} {m : Nat} {vu vc : Value} {u c : List Int} {k : Int} {w : World} (h : SbAt E S m vu vc (u ++ [k]) c w) :
    ∃ g co, vu = .slice (some ⟨g, 0, none⟩) (u.length + 1) co ∧ u.length + 1 ≤ co ∧ co ≤ maxLen ∧ g < w.heap.size ∧ E.B ≤ g ∧
      (SbAt E S m (.slice (some ⟨g, 0, none⟩) u.length co) vc u c (w.setCell ⟨m, 3, none⟩ (.slice (some ⟨g, 0, none⟩) u.length co)) ∧
        Turn (SFoot m vu vc) (SFoot m (.slice (some ⟨g, 0, none⟩) u.length co) vc) w (w.setCell ⟨m, 3, none⟩ (.slice (some ⟨g, 0, none⟩) u.length co))) := by
  have hoo := h.ou
  have e1 : (u ++ [k]).length = u.length + 1 := by simp
  rw [ints_append, e1] at hoo
  obtain ⟨g, co, hvo, hBg, hgl⟩ := hoo.form (by omega)
  subst hvo
  have hm : u.length + 1 ≤ co ∧ co ≤ maxLen := by
    rcases hoo.2 with ⟨e, _⟩ | ⟨_, _, _, e, _, _, hc, hm, _⟩
    · cases e
    · cases e; exact ⟨hc, hm⟩
  have hpop := ownsRow_pop (by simp [ints]) hoo
  exact ⟨g, co, rfl, hm.1, hm.2, hgl, hBg, h.set_under (World.grownBy.refl _ _) hpop (fun i hi => .inl hi)⟩

/-- between two fetches of a task -/
structure LpSt (E : MkEnv) (S : Sh) (m : Nat) (u : List Int) (w : World) (F : Nat → Prop) (vu vc : Value) (got c1 : List Int) (vg : Value) (wr : World) : Prop where
  sb : SbAt E S m vu vc u c1 wr
  own : wr.ownsRow w.heap.size 3 1 vg got.length (ints got)
  far : ∀ i, vg.ownBlock = some i → ¬ SFoot m vu vc i
  vals : ∀ x ∈ got, 0 ≤ x ∧ x ≤ 96
  turn : Turn F (SFoot m vu vc) w wr
  low : E.B ≤ w.heap.size
section
variable {E : MkEnv} {S : Sh} {m : Nat} {u : List Int} {w wr w2 : World} {F : Nat → Prop} {vu vc vu2 vc2 vg v' : Value} {got c1 c2 : List Int}
theorem LpSt.up (h : LpSt E S m u w F vu vc got c1 vg wr) (hb : Below wr.heap.size wr w2) : LpSt E S m u w F vu vc got c1 vg w2 :=
  ⟨h.sb.up hb, ownsRow_block h.own (fun i hi => hb.block i (h.own.lt i hi).2), h.far, h.vals, h.turn.trans (below_turn hb), h.low⟩
theorem LpSt.key (h : LpSt E S m u w F vu vc got c1 vg wr) (hs : SbAt E S m vu2 vc2 u c2 w2) (t : Turn (SFoot m vu vc) (SFoot m vu2 vc2) wr w2) : LpSt E S m u w F vu2 vc2 got c2 vg w2 :=
  ⟨hs, ownsRow_block h.own (fun i hi => t.block i (h.own.lt i hi).2 (h.far i hi)), fun i hi hf => (t.fresh i hf).elim (h.far i hi) (fun e => by have := (h.own.lt i hi).2; omega), h.vals, h.turn.trans t, h.low⟩
theorem LpSt.app (h : LpSt E S m u w F vu vc got c1 vg wr) {o : Obj} {x : Int} (hg : (wr.alloc o).grownBy w2 vg.ownBlock) (ho : w2.ownsRow w.heap.size 3 1 v' (got.length + 1) (ints got ++ [.int .i64 x])) (hx : 0 ≤ x ∧ x ≤ 96)
    (hat : ∀ i, v'.ownBlock = some i → vg.ownBlock = some i ∨ wr.heap.size ≤ i) : LpSt E S m u w F vu vc (got ++ [x]) c1 v' w2 :=
  ⟨(h.sb.alloc o).far hg (fun i hi => ⟨h.far i hi, Nat.le_trans h.low (h.own.lt i hi).1⟩), by simpa [ints_append, ints] using ho, fun i hi hf => (hat i hi).elim (fun e => h.far i e hf) (fun e => by have := (h.sb.bounds i hf).2; omega),
    fun y hy => (List.mem_append.1 hy).elim (h.vals y) (fun e => by rw [List.mem_singleton.1 e]; exact hx), (h.turn.alloc o).grown_new hg (fun i hi => (h.own.lt i hi).1), h.low⟩
end
theorem Itr.walk_nil (m : Itr) : m.walk [] = m := by cases m <;> rfl
def lenOf : Value → Nat
  | .slice _ n _ => n
  | _ => 0

set_option maxHeartbeats 4000000 in
theorem skey_new (E : MkEnv) (S : Sh) (hE : E.Good S) (m n : Nat)
    (ih : ∀ (u c : List Int) (k : Int) (w : World) (F : Nat → Prop), 0 ≤ k → k ≤ 9 → UOk S n u → SbI E S m u c w F →
      Calls Try.prog 47 #[.pointer (some ⟨m, 0, none⟩), .int .i64 k] w (Gives (SbI E S m u) F w (specP S n u c k)))
    (u c : List Int) (k : Int) (w : World) (F : Nat → Prop) (hk0 : 0 ≤ k) (hk9 : k ≤ 9) (hu : UOk S (n + 1) u) (h : SbI E S m u c w F) (hmk : mkK S.made k = true) (ho : ¬ 0 ≤ idx (fun x => k == x) u) :
    Calls Try.prog 47 #[.pointer (some ⟨m, 0, none⟩), .int .i64 k] w (Gives (SbI E S m u) F w (specP S (n + 1) u c k)) := by
  rw [specP_new hmk ho]
  obtain ⟨vu, vc, hM, rfl⟩ := h
  have hko := not_open ho
  have hu1 := hu.push hko (mkK_range (show mkK S.made k ≠ false by rw [hmk]; simp))
  obtain ⟨q, rfl⟩ := Int.eq_ofNat_of_zero_le hk0
  obtain ⟨hq, hmq⟩ := made_at hmk
  have hql : q < S.tks.length := by have := hE.ok.len; omega
  have hul := hu.len
  have hten := hE.ok.ten
  rw [tk_at hql]
  have hok := hE.ok.tks S.tks[q] (List.getElem_mem _)
  have hfs : S.tks[q].fets ≤ 100 := fets_small (hE.ok.okT hql)
  have hnext := fun (got : List Int) (Ag : Option Addr) (cg : Nat) (w1 : World) (hb : Below E.B E.w0 w1) (hB : E.B ≤ w1.heap.size) => hE.sheet.tasks.at hb q (by simpa using hql)
  obtain ⟨Q, hQ⟩ : ∃ Q, S.tks[q].itr.run (specP S n (u ++ [(q : Int)])) c = Q := ⟨_, rfl⟩
  rw [hQ]
  obtain ⟨x0, x1, x2, x3, x4, f3, f4, hz⟩ := hM.cells
  obtain ⟨bm, om, em, hbm, cm⟩ := hE.sheet.made.at hM.below hM.size q hq
  rw [em] at x0
  simp only [hmq] at cm
  obtain ⟨Au, cu, evu, hlu, hmu, hiu⟩ := ownsRow_ints hM.ou
  subst evu
  unfold maxLen at hmu
  have hsz := hM.size
  replace hM := Lib.hid hM
  replace hE := Lib.hid hE
  replace hko := Lib.hid hko
  replace ih := Lib.hid ih
  replace hu1 := Lib.hid hu1
  replace hu := Lib.hid hu
  replace hQ := Lib.hid hQ
  replace hok := Lib.hid hok
  replace hiu := Lib.hid hiu
  replace em := Lib.hid em
  clear hmk hmq ho hnext
  go_enter Try.func47, Try.ntmps47
  go_wp2_with fail
  go_loopw [6] (fun i wr => ∃ (j : Nat), j ≤ u.length ∧ i = .int .i64 j ∧ wr = w) (fun i _ => u.length - (intOf i).toNat)
  case atStart => exact ⟨0, Nat.zero_le _, rfl, rfl⟩
  case round =>
    obtain ⟨j, hj, rfl, rfl⟩ := hrel
    by_cases hju : j < u.length
    · obtain ⟨bu, ou, rfl, hbu, y⟩ := hiu.out j hju
      have hd' : (u[j] == (q : Int)) = false := by simp only [beq_eq_false_iff_ne]; exact fun e => hko.out (e ▸ List.getElem_mem hju)
      go_wp2_with fail
      go_roundw
      case rel => exact ⟨j + 1, by omega, by go_num, by first | rfl | trivial⟩
      case measure => simp [intOf]; omega
    · have hju' : j = u.length := by omega
      subst hju'
      obtain ⟨w9, hw9⟩ : ∃ w9, w9 = wr := ⟨_, rfl⟩
      subst hw9
      go_wp2_with (at_builtin; go_loud (with_reducible refine wpList_app1 (by rfl) (.tmp 70) (.tmp 72) 27 (by rfl) intTy E.B (.slice Au u.length cu) u.length (ints u) (by with_unfolding_all rfl) (hM.out.ou.alloc _) w9.heap.size 1 [.int .i64 q] (by with_unfolding_all rfl) (by with_unfolding_all rfl) ⟨_, _, heap_alloc_new w9 _, rfl⟩ (one_int _ _) ?_ ?_ ?_ ?_))
      · unfold maxLen; omega
      · omega
      · simp; omega
      intro g cap w2 hown hgrow hat
      have hMa := hM.out.alloc (.cells #[.int .i64 q] 3 (0, 0))
      have hblk2 := (hgrow.block m (block_lt hMa.blk) (fun e => hMa.nm.1 e.symm)).trans hMa.blk
      have z3 : w2.cell? ⟨m, 3, none⟩ = some (.slice Au u.length cu) := (cellm hblk2 3).trans rfl
      have fz3 : w2.frozen? ⟨m, 3, none⟩ = false := frozenm hblk2 3
      have hset := hMa.set_under (l := u ++ [(q : Int)]) hgrow (by simpa [ints_append, ints] using hown) (fun i hi => by cases hi; exact hat.imp id (fun e => by simp at e ⊢; omega))
      have hM3 := hset.1
      have t3 := (below_turn (F := SFoot m (.slice Au u.length cu) vc) (below_al (Below.refl w9.heap.size w9) (.cells #[.int .i64 q] 3 (0, 0)))).trans hset.2
      have hzm2 := block_lt hblk2
      replace hM3 := Lib.hid hM3
      replace t3 := Lib.hid t3
      clear hown hgrow hat hMa hblk2 hset x0 x1 x2 x3 x4 f3 f4 cm hiu
      obtain ⟨bt, ot, At', ct', et, hbt, ht0, ht1, ht2, htc, htm, htp⟩ := hE.out.sheet.tasks.at hM3.out.below q (by simpa using hql)
      simp only [List.getElem_map] at ht0 ht1 ht2 htc htp
      have hbt3 := Nat.lt_of_lt_of_le hbt hM3.out.size
      obtain ⟨y0, y1, y2, y3, y4, e3, e4, hzm⟩ := hM3.out.cells
      rw [et] at y1
      replace htp := Lib.hid htp
      generalize hw3 : w2.setCell ⟨m, 3, none⟩ (.slice (some ⟨g, 0, none⟩) (u.length + 1) cap) = w3 at *
      have hst0 : LpSt E S m (u ++ [(q : Int)]) w9 (SFoot m (.slice Au u.length cu) vc) (.slice (some ⟨g, 0, none⟩) (u.length + 1) cap) vc [] c (.slice (some ⟨w3.heap.size, 0, none⟩) 0 0) (w3.alloc (.cells #[] 3 (0, 0))) :=
        ⟨hM3.out.alloc _, by simpa [ints] using World.ownsRow_made (base := w9.heap.size) w3 #[] 0 t3.out.size (by simp [maxLen]) rfl, fun i hi hf => (by cases hi; exact Nat.lt_irrefl _ (hM3.out.bounds _ hf).2), fun x hx => (by cases hx), t3.out.alloc _, hsz⟩
      have hnx := l2Next_calls S.tks[q] At' ct' [] (some ⟨w3.heap.size, 0, none⟩) 0 E.B E.w0 _ hst0.sb.below hst0.sb.size hok.out htc htp.out (RowAt.nil _ _ _ _) (fun x hx => (by cases hx)) (by simp)
      replace hnx := Lib.hid hnx
      replace hst0 := Lib.hid hst0
      go_wp2_with fail
      refine hnx.out.mono ?_
      rintro e w4 ⟨rfl, v0, v1, hb4⟩
      have hst4 := hst0.out.up hb4
      have hvv : 0 ≤ (nextP S.tks[q].itr []).1 ∧ (nextP S.tks[q].itr []).1 ≤ 96 := ⟨v0, v1⟩
      replace hst4 := Lib.hid hst4
      replace hvv := Lib.hid hvv
      clear hnx hst0 hb4 v0 v1 y0 y1 y2 y3 y4 e3 e4 hzm ht0 ht1 ht2 hbt3 hM3 t3 hw3 z3 fz3 hzm2
      go_wp2_with fail
      go_loopw [7, 8, 9, 10] (fun a v ky o ws => ∃ (got c1 : List Int) (vu1 vc1 : Value), got.length ≤ S.tks[q].fets ∧ v = .int .i64 (nextP S.tks[q].itr got).1 ∧ ky = .int .i64 (nextP S.tks[q].itr got).2.1 ∧ o = .bool (nextP S.tks[q].itr got).2.2 ∧ Hid (LpSt E S m (u ++ [(q : Int)]) w9 (SFoot m (.slice Au u.length cu) vc) vu1 vc1 got c1 a ws) ∧ Hid (Q = (S.tks[q].itr.walk got).run (specP S n (u ++ [(q : Int)])) c1) ∧ Hid (0 ≤ (nextP S.tks[q].itr got).1 ∧ (nextP S.tks[q].itr got).1 ≤ 96) ∧ lenOf a = got.length) (fun a _ _ _ _ => S.tks[q].fets - lenOf a)
      case atStart => exact ⟨[], c, _, _, Nat.zero_le _, rfl, rfl, rfl, hst4, Lib.hid (by rw [← hQ.out, Itr.walk_nil]), hvv, rfl⟩
      case round =>
        obtain ⟨got, c1, vu1, vc1, hgl, rfl, rfl, rfl, hL, hEq, hvv, hla⟩ := hrel
        cases hw : S.tks[q].itr.walk got with
        | done x =>
          obtain ⟨n1, n2⟩ := nextP_done hw
          have he := hEq.out
          rw [hw] at he
          have he2 : Q = ((x, true), c1) := he
          have hx := hvv.out
          rw [n1] at hx
          rw [n1, n2]
          replace he2 := Lib.hid he2
          have hsb := hL.out.sb
          have htt := hL.out.turn
          replace hsb := Lib.hid hsb
          replace htt := Lib.hid htt
          clear hw n1 n2 he hEq hvv hL hst4 htp
          obtain ⟨gp, cp, evu, hcp, hcpm, hgp, hBp, hpop⟩ := hsb.out.pop
          subst evu
          obtain ⟨x0, x1, x2, x3, x4, f3, f4, hz⟩ := hsb.out.cells
          unfold maxLen at hcpm
          replace hpop := Lib.hid hpop
          clear x0 x1 x2 x4 f4
          go_wp2_with fail
          go_region
          go_wp2_with fail
          go_ret2
          exact (by rw [he2.out]; exact ⟨rfl, hx.1, hx.2, _, ⟨_, _, hpop.out.1.drew, rfl⟩, htt.out.trans hpop.out.2.drew⟩)
        | ask ky ct =>
          have hnp := nextP_ask hw
          have hkr := Itr.walk_ok got _ (Tk.itr_ok _ hok.out)
          rw [hw] at hkr
          obtain ⟨hk0', hk9', -⟩ := hkr
          have hglt := Itr.walk_le got _ _ (Tk.itr_le S.tks[q]) ky ct hw
          rw [hnp]
          have hcall := ih.out (u ++ [(q : Int)]) c1 ky wr _ hk0' hk9' hu1.out ⟨vu1, vc1, hL.out.sb, rfl⟩
          have he := hEq.out
          rw [hw] at he
          obtain ⟨X, hX⟩ : ∃ X, specP S n (u ++ [(q : Int)]) c1 ky = X := ⟨_, rfl⟩
          rw [hX] at hcall
          replace hcall := Lib.hid hcall
          replace he := Lib.hid he
          replace hX := Lib.hid hX
          replace hnp := Lib.hid hnp
          replace hw := Lib.hid hw
          clear hEq hvv hst4
          go_wp2_with fail
          refine hcall.out.mono ?_
          rintro e w5 ⟨rfl, p0, p1, F5, ⟨vu5, vc5, hs5, rfl⟩, t5⟩
          have hL5 := hL.out.key hs5 t5
          replace hL5 := Lib.hid hL5
          clear hcall hs5 t5 hL
          cases hfin : X.1.2 with
          | false =>
            have he2 : Q = ((0, false), X.2) := by rw [he.out, Itr.run_no (by rw [hX.out, hfin]; simp), hX.out]
            replace he2 := Lib.hid he2
            have hsb := hL5.out.sb
            have htt := hL5.out.turn
            replace hsb := Lib.hid hsb
            replace htt := Lib.hid htt
            clear hL5 he hX htp
            obtain ⟨gp, cp, evu, hcp, hcpm, hgp, hBp, hpop⟩ := hsb.out.pop
            subst evu
            obtain ⟨x0, x1, x2, x3, x4, f3, f4, hz⟩ := hsb.out.cells
            unfold maxLen at hcpm
            replace hpop := Lib.hid hpop
            clear x0 x1 x2 x4 f4
            go_wp2_with fail
            go_region
            go_wp2_with fail
            go_ret2
            exact (by rw [he2.out]; exact ⟨rfl, by simp, by simp, _, ⟨_, _, hpop.out.1.drew, rfl⟩, htt.out.trans hpop.out.2.drew⟩)
          | true =>
            have he2 : Q = ((S.tks[q].itr.walk (got ++ [X.1.1])).run (specP S n (u ++ [(q : Int)])) X.2) := by
              rw [he.out, Itr.run_yes (by rw [hX.out, hfin]), hX.out, Itr.walk_append, hw.out, Itr.walk, Itr.walk_nil]
            obtain ⟨Ag, cg, evg, hlg, hmg, hig⟩ := ownsRow_ints hL5.out.own
            subst evg
            replace he2 := Lib.hid he2
            have hL5a := hL5.out.up (below_al (Below.refl _ _) (.cells #[.int .i64 X.1.1] 3 (0, 0)))
            have hsz5 := hL5a.turn.size
            replace hL5a := Lib.hid hL5a
            clear hig he hX
            go_wp2_with (at_builtin; go_loud (with_reducible refine wpList_app1 (by rfl) (.tmp 101) (.tmp 103) 27 (by rfl) intTy w9.heap.size (.slice Ag got.length cg) got.length (ints got) (by with_unfolding_all rfl) hL5a.out.own w5.heap.size 1 [.int .i64 X.1.1] (by with_unfolding_all rfl) (by with_unfolding_all rfl) ⟨_, _, heap_alloc_new w5 _, rfl⟩ (one_int _ _) ?_ ?_ ?_ ?_))
            · unfold maxLen; omega
            · omega
            · exact hsz5
            intro g6 cap6 w6 hown6 hgrow6 hat6
            have hL6 := hL5.out.app (x := X.1.1) (v' := .slice (some ⟨g6, 0, none⟩) (got.length + 1) cap6) hgrow6 hown6 ⟨p0, p1⟩ (fun i hi => by cases hi; exact hat6.imp id (fun e => by simp at e ⊢; omega))
            obtain ⟨y0, y1, y2, y3, y4, e3, e4, hzm⟩ := hL6.sb.cells
            obtain ⟨bt, ot, At', ct', et2, hbt, ht0, ht1, ht2, htc, htm, htp⟩ := hE.out.sheet.tasks.at hL6.sb.below q (by simpa using hql)
            simp only [List.getElem_map] at ht0 ht1 ht2 htc htp
            have hbt3 := Nat.lt_of_lt_of_le hbt hL6.sb.size
            rw [et2] at y1
            obtain ⟨Ah, ch, eh, hlh, hmh, hih⟩ := ownsRow_ints hL6.own
            have hlen6 : (got ++ [X.1.1]).length = got.length + 1 := by simp
            have eh2 := eh
            rw [hlen6] at eh2
            simp only [Value.slice.injEq, true_and] at eh2
            obtain ⟨rfl, rfl⟩ := eh2
            have hnx := l2Next_calls S.tks[q] At' ct' (got ++ [X.1.1]) (some ⟨g6, 0, none⟩) cap6 E.B E.w0 w6 hL6.sb.below hL6.sb.size hok.out htc htp hih hL6.vals (by simp; omega)
            rw [hlen6] at hnx
            replace hnx := Lib.hid hnx
            replace hL6 := Lib.hid hL6
            replace hlen6 := Lib.hid hlen6
            replace htp := Lib.hid htp
            clear hown6 hgrow6 hat6 hL5 hL5a eh hih
            go_wp2_with fail
            refine hnx.out.mono ?_
            rintro e w7 ⟨rfl, v0, v1, hb7⟩
            have hL7 := hL6.out.up hb7
            replace hL7 := Lib.hid hL7
            clear hnx hL6 hb7 y0 y1 y2 y3 y4 e3 e4 hzm ht0 ht1 ht2
            go_wp2_with fail
            go_roundw
            case rel => exact ⟨got ++ [X.1.1], X.2, _, _, by rw [hlen6.out]; omega, rfl, rfl, rfl, hL7, he2, Lib.hid ⟨v0, v1⟩, by rw [hlen6.out]; rfl⟩
            case measure => simp only [lenOf]; omega
end Go.Proofs.Ytagmdljdcnmpdaa
