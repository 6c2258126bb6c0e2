import Derived.Deep.RegionHeld3
import Derived.Deep.QuietTactic
import Derived.BigQuiet
import Derived.Test.YtpccgdkidnkppaaPk5FnRowNew
import Derived.Test.YtpccgdkidnkppaaPk6FnRowNew
import Derived.Test.YtpccgdkidnkppaaPk10FnRowNew
import Derived.Test.YtpccgdkidnkppaaPk11FnRowNew
import Derived.Test.YtpccgdkidnkppaaPk12FnRowNew
set_option linter.unusedVariables false
set_option linter.unusedSimpArgs false
namespace Go.Proofs.Ytpccgdkidnkppaa
open Go Go.RowKit

/-- the last one is taken off a row -/
theorem ObjAt.pop_row {B : Nat} {w0 : World} {m : Nat} {T : TypeId} {cs : Array Value} {ps : List Part} {w : World} (h : ObjAt B w0 m T cs ps w) (i j : Nat) {e : TypeId} {v : Value} {u : List Int} {k : Int} (hi : ps[i]? = some (rowP B e 1 v (u ++ [k]).length (ints (u ++ [k])))) :
    ∃ g co, v = .slice (some ⟨g, 0, none⟩) (u.length + 1) co ∧ u.length + 1 ≤ co ∧ co ≤ maxLen ∧ g < w.heap.size ∧ B ≤ g ∧
      ObjAt B w0 m T (cs.setIfInBounds j (.slice (some ⟨g, 0, none⟩) u.length co)) (ps.set i (rowP B e 1 (.slice (some ⟨g, 0, none⟩) u.length co) u.length (ints u))) (w.setCell ⟨m, j, none⟩ (.slice (some ⟨g, 0, none⟩) u.length co)) ∧
        Turn (Foot m ps) (Foot m (ps.set i (rowP B e 1 (.slice (some ⟨g, 0, none⟩) u.length co) u.length (ints u)))) w (w.setCell ⟨m, j, none⟩ (.slice (some ⟨g, 0, none⟩) u.length co)) := by
  have hoo := h.row i hi
  have e1 : (u ++ [k]).length = u.length + 1 := by simp
  rw [ints_append, e1] at hoo
  obtain ⟨g, co, hvo, hBg, hgl⟩ := hoo.form (by omega)
  subst hvo
  have hm : u.length + 1 ≤ co ∧ co ≤ maxLen := by
    rcases hoo.2 with ⟨e, _⟩ | ⟨_, _, _, e, _, _, hc, hm, _⟩
    · cases e
    · cases e; exact ⟨hc, hm⟩
  have hpop := ownsRow_pop (by simp [ints]) hoo
  rw [ints_append, e1] at hi
  obtain ⟨h1, h2⟩ := h.set_row i j hi (World.grownBy.refl _ _) hpop (fun b hb => .inl hb)
  exact ⟨g, co, rfl, hm.1, hm.2, hgl, hBg, h1, h2⟩

/-- between two fetches of a task: an object that is worked on, and a row of what was got -/
structure LpO (B : Nat) (w0 : World) (m : Nat) (T : TypeId) (cs : Array Value) (ps : List Part) (w : World) (F : Nat → Prop) (got : List Int) (vg : Value) (wr : World) : Prop where
  ob : ObjAt B w0 m T cs ps wr
  own : wr.ownsRow w.heap.size 3 1 vg got.length (ints got)
  far : ∀ i, vg.ownBlock = some i → ¬ Foot m ps i
  vals : ∀ x ∈ got, 0 ≤ x ∧ x ≤ 96
  turn : Turn F (Foot m ps) w wr
  low : B ≤ w.heap.size
section
variable {B : Nat} {w0 : World} {m : Nat} {T : TypeId} {cs cs2 : Array Value} {ps ps2 : List Part} {w wr w2 : World} {F : Nat → Prop} {got : List Int} {vg v' : Value}
theorem LpO.up (h : LpO B w0 m T cs ps w F got vg wr) (hb : Below wr.heap.size wr w2) : LpO B w0 m T cs ps w F got vg w2 :=
  ⟨h.ob.up hb, ownsRow_block h.own (fun i hi => hb.block i (h.own.lt i hi).2), h.far, h.vals, h.turn.trans (below_turn hb), h.low⟩
theorem LpO.key (h : LpO B w0 m T cs ps w F got vg wr) (hs : ObjAt B w0 m T cs2 ps2 w2) (t : Turn (Foot m ps) (Foot m ps2) wr w2) : LpO B w0 m T cs2 ps2 w F got vg w2 :=
  ⟨hs, ownsRow_block h.own (fun i hi => t.block i (h.own.lt i hi).2 (h.far i hi)), fun i hi hf => (t.fresh i hf).elim (h.far i hi) (fun e => by have := (h.own.lt i hi).2; omega), h.vals, h.turn.trans t, h.low⟩
theorem LpO.app (h : LpO B w0 m T cs ps w F got vg wr) {o : Obj} {x : Int} (hg : (wr.alloc o).grownBy w2 vg.ownBlock) (ho : w2.ownsRow w.heap.size 3 1 v' (got.length + 1) (ints got ++ [.int .i64 x])) (hx : 0 ≤ x ∧ x ≤ 96)
    (hat : ∀ i, v'.ownBlock = some i → vg.ownBlock = some i ∨ wr.heap.size ≤ i) : LpO B w0 m T cs ps w F (got ++ [x]) v' w2 := by
  have ha := h.ob.alloc o
  have t : Turn (fun i => vg.ownBlock = some i) (fun i => vg.ownBlock = some i) (wr.alloc o) w2 := grown_turn hg (fun k hk => hk) (fun i hi => .inl hi)
  exact ⟨ha.aside t (fun i hi => ⟨Nat.le_trans h.low (h.own.lt i hi).1, h.far i hi⟩), by simpa [ints_append, ints] using ho, fun i hi hf => (hat i hi).elim (fun e => h.far i e hf) (fun e => by have := (h.ob.bounds i hf).2; omega),
    fun y hy => (List.mem_append.1 hy).elim (h.vals y) (fun e => by rw [List.mem_singleton.1 e]; exact hx), (h.turn.alloc o).grown_new hg (fun i hi => (h.own.lt i hi).1), h.low⟩
theorem LpO.start (h : ObjAt B w0 m T cs ps wr) (t : Turn F (Foot m ps) w wr) (hl : B ≤ w.heap.size) : LpO B w0 m T cs ps w F [] (.slice (some ⟨wr.heap.size, 0, none⟩) 0 0) (wr.alloc (.cells #[] 3 (0, 0))) :=
  ⟨h.alloc _, by simpa [ints] using World.ownsRow_made (base := w.heap.size) wr #[] 0 t.size (by simp [maxLen]) rfl, fun i hi hf => (by cases hi; exact Nat.lt_irrefl _ (h.bounds _ hf).2), fun x hx => (by cases hx), t.alloc _, hl⟩
end

set_option maxHeartbeats 1000000 in
theorem l2Has_calls (A : Option Addr) (c : Nat) (xs : List Int) (x : Int) (B : Nat) (w0 w : World) (hb : Below B w0 w) (hB : B ≤ w.heap.size) (hl : xs.length ≤ maxLen) (hx : IntsAt B w0 A xs) :
    Calls Try.prog 56 #[.slice A xs.length c, .int .i64 x] w fun e w' => e = .returned (.bool (xs.contains x)) ∧ w = w' := by
  unfold maxLen at hl
  replace hx := Lib.hid hx
  replace hb := Lib.hid hb
  go_enter Try.func56, Try.ntmps56
  go_wp2_with fail
  go_loopw [5] (fun i wr => ∃ (j : Nat), j ≤ xs.length ∧ i = .int .i64 j ∧ wr = w ∧ Hid (x ∉ xs.take j)) (fun i _ => xs.length - (intOf i).toNat)
  case atStart => exact ⟨0, Nat.zero_le _, rfl, rfl, Lib.hid (by simp)⟩
  case round =>
    obtain ⟨j, hj, rfl, rfl, hno⟩ := hrel
    by_cases hlt : j < xs.length
    · obtain ⟨b, o, rfl, hbl, y⟩ := hx.out.at hb.out hB j hlt
      by_cases e : xs[j] = x
      · have e' : (xs[j] == x) = true := by simp [e]
        have hr : xs.contains x = true := by rw [← e]; simp
        replace e := Lib.hid e
        replace hr := Lib.hid hr
        go_wp2_with fail
        go_ret
        exact ⟨by rw [hr.out]; rfl, rfl⟩
      · have e' : (xs[j] == x) = false := by simp [e]
        have hno2 : x ∉ xs.take (j + 1) := by
          rw [List.take_succ_eq_append_getElem hlt, List.mem_append, List.mem_singleton]
          exact fun h => h.elim hno.out (fun h => e h.symm)
        replace e := Lib.hid e
        replace hno2 := Lib.hid hno2
        go_wp2_with fail
        go_roundw
        case rel => exact ⟨j + 1, by omega, by go_num, by first | rfl | trivial, hno2⟩
        case measure => simp [intOf]; omega
    · have hr : xs.contains x = false := by
        have := hno.out
        rw [List.take_of_length_le (by omega)] at this
        simpa using this
      replace hr := Lib.hid hr
      go_wp2_with fail
      go_ret
      exact ⟨by rw [hr.out]; rfl, rfl⟩
end Go.Proofs.Ytpccgdkidnkppaa

set_option linter.unusedVariables false
set_option linter.unusedSimpArgs false
namespace Go.Proofs.Ytpccgdkidnkppaa
open Go Go.RowKit

/-! l4Once in memory -/
abbrev onCs (E : MkEnv) (S : Sh) (vv vd vu : Value) : Array Value := #[.slice E.Am S.made.length E.cm, .slice E.At S.tks.length E.ct, vv, vd, vu]
abbrev onPs (E : MkEnv) (vv vd vu : Value) (st : OSt) : List Part := [rowP E.B 3 1 vv st.vals.length (ints st.vals), rowP E.B 3 1 vd st.done.length (ints st.done), rowP E.B 3 1 vu st.under.length (ints st.under)]
theorem ints_set (xs : List Int) (q : Nat) (x : Int) : (ints xs).set q (.int .i64 x) = ints (xs.set q x) := (List.map_set).symm
theorem onPs_under (E : MkEnv) (vv vd vu v : Value) (st : OSt) (k : Int) : (onPs E vv vd vu st).set 2 (rowP E.B 3 1 v (st.under.length + 1) (ints (st.under ++ [k]))) = onPs E vv vd v ⟨st.vals, st.done, st.under ++ [k]⟩ := by
  simp only [onPs, List.set, List.length_append, List.length_singleton]
theorem onPs_done (E : MkEnv) (vv vd vu v : Value) (st : OSt) (k : Int) : (onPs E vv vd vu st).set 1 (rowP E.B 3 1 v (st.done.length + 1) (ints (st.done ++ [k]))) = onPs E vv v vu ⟨st.vals, st.done ++ [k], st.under⟩ := by
  simp only [onPs, List.set, List.length_append, List.length_singleton]
theorem onPs_val (E : MkEnv) (vv vd vu : Value) (st : OSt) (q : Nat) (x : Int) : (onPs E vv vd vu st).set 0 (rowP E.B 3 1 vv st.vals.length ((ints st.vals).set q (.int .i64 x))) = onPs E vv vd vu ⟨st.vals.set q x, st.done, st.under⟩ := by
  simp only [onPs, List.set, List.length_set, ints_set]
abbrev OnAt (E : MkEnv) (S : Sh) (m : Nat) (vv vd vu : Value) (st : OSt) (w : World) : Prop := ObjAt E.B E.w0 m 104 (onCs E S vv vd vu) (onPs E vv vd vu st) w
def OnI (E : MkEnv) (S : Sh) (m : Nat) (st : OSt) (w : World) (F : Nat → Prop) : Prop := ∃ vv vd vu, OnAt E S m vv vd vu st w ∧ F = Foot m (onPs E vv vd vu st)
section
variable {E : MkEnv} {S : Sh} {m : Nat} {vv vd vu : Value} {st : OSt} {w w' : World}
theorem OnAt.cells (h : OnAt E S m vv vd vu st w) : w.cell? ⟨m, 0, none⟩ = some (.slice E.Am S.made.length E.cm) ∧ w.cell? ⟨m, 1, none⟩ = some (.slice E.At S.tks.length E.ct) ∧ w.cell? ⟨m, 2, none⟩ = some vv ∧
    w.cell? ⟨m, 3, none⟩ = some vd ∧ w.cell? ⟨m, 4, none⟩ = some vu ∧ w.frozen? ⟨m, 3, none⟩ = false ∧ w.frozen? ⟨m, 4, none⟩ = false ∧ m < w.heap.size :=
  ⟨h.cell 0, h.cell 1, h.cell 2, h.cell 3, h.cell 4, h.frozen 3, h.frozen 4, h.lt⟩
theorem OnAt.vals (h : OnAt E S m vv vd vu st w) : w.ownsRow E.B 3 1 vv st.vals.length (ints st.vals) := ObjAt.row h 0 rfl
theorem OnAt.done (h : OnAt E S m vv vd vu st w) : w.ownsRow E.B 3 1 vd st.done.length (ints st.done) := ObjAt.row h 1 rfl
theorem OnAt.und (h : OnAt E S m vv vd vu st w) : w.ownsRow E.B 3 1 vu st.under.length (ints st.under) := ObjAt.row h 2 rfl
theorem OnAt.val_at (h : OnAt E S m vv vd vu st w) {q : Nat} (hq : q < st.vals.length) : ∃ g c, vv = .slice (some ⟨g, 0, none⟩) st.vals.length c ∧ w.cell? ⟨g, q, none⟩ = some (.int .i64 st.vals[q]) ∧ w.frozen? ⟨g, q, none⟩ = false ∧ g < w.heap.size ∧ st.vals.length ≤ c ∧ c ≤ maxLen := by
  have ho := h.vals
  obtain ⟨A, c, rfl, h1, h2, h3⟩ := ownsRow_ints ho
  obtain ⟨b, o, e, hb, hc⟩ := h3 q hq
  subst e
  obtain ⟨g, co, e, hg, hgl⟩ := ho.form (by omega)
  cases e
  refine ⟨b, c, rfl, by simpa using hc, ?_, hgl, h1, h2⟩
  obtain ⟨_, ⟨h2, _⟩ | ⟨g', cap', cur, h2, h3, h4, _⟩⟩ := ho
  · cases h2
  · cases h2; exact frozenm h4 q
end

set_option maxHeartbeats 2000000 in
theorem okey_unmade (E : MkEnv) (S : Sh) (hE : E.Good S) (m n : Nat) (st : OSt) (k : Int) (w : World) (F : Nat → Prop) (hk0 : 0 ≤ k) (hk9 : k ≤ 9) (hi : OInv S n st) (h : OnI E S m st w F) (hmk : mkK S.made k = false) :
    Calls Try.prog 85 #[.pointer (some ⟨m, 0, none⟩), .int .i64 k] w (Gives (OnI E S m) F w (onceP S n st k)) := by
  rw [onceP_unmade hmk]
  obtain ⟨vv, vd, vu, hM, rfl⟩ := h
  obtain ⟨x0, x1, x2, x3, x4, f3, f4, hz⟩ := hM.cells
  obtain ⟨q, rfl⟩ := Int.eq_ofNat_of_zero_le hk0
  have hten := hE.ok.ten
  have hav := hi.at q
  by_cases hq : q < S.made.length
  · have hqv : q < st.vals.length := by have := hi.vlen; omega
    have hmq : S.made[q] = false := by
      unfold mkK at hmk
      rw [if_neg (by omega), Int.toNat_natCast, getD_at _ hq] at hmk
      exact hmk
    have hat : atK st.vals q = st.vals[q] := atK_in hqv
    obtain ⟨bm, om, em, hbm, cm⟩ := hE.sheet.made.at hM.below hM.size q hq
    obtain ⟨g, c, rfl, cv, -, hgl, hcl, hcm⟩ := hM.val_at hqv
    rw [em] at x0
    simp only [hmq] at cm
    rw [hat] at hav ⊢
    unfold maxLen at hcm
    replace hM := Lib.hid hM
    replace hE := Lib.hid hE
    replace hi := Lib.hid hi
    clear hat hmq hmk x3 x4 f3 f4
    go_enter Try.func85, Try.ntmps85
    go_wp2_with fail
    go_ret2
    exact ⟨rfl, hav.1, hav.2, _, ⟨_, vd, vu, hM.out, rfl⟩, Turn.refl _ _⟩
  · have hat : atK st.vals q = 0 := atK_out (by have := hi.vlen; omega)
    rw [hat]
    replace hM := Lib.hid hM
    clear hE hmk hat hav hi
    go_enter Try.func85, Try.ntmps85
    go_wp2_with fail
    go_ret2
    exact ⟨rfl, by simp, by simp, _, ⟨vv, vd, vu, hM.out, rfl⟩, Turn.refl _ _⟩

set_option maxHeartbeats 2000000 in
theorem okey_made (E : MkEnv) (S : Sh) (hE : E.Good S) (m n : Nat) (st : OSt) (k : Int) (w : World) (F : Nat → Prop) (hk0 : 0 ≤ k) (hk9 : k ≤ 9) (hi : OInv S n st) (h : OnI E S m st w F) (hmk : mkK S.made k = true) (hsome : st.done.contains k = true ∨ st.under.contains k = true) :
    Calls Try.prog 85 #[.pointer (some ⟨m, 0, none⟩), .int .i64 k] w (Gives (OnI E S m) F w (onceP S n st k)) := by
  obtain ⟨vv, vd, vu, hM, rfl⟩ := h
  obtain ⟨x0, x1, x2, x3, x4, f3, f4, hz⟩ := hM.cells
  obtain ⟨q, rfl⟩ := Int.eq_ofNat_of_zero_le hk0
  have hten := hE.ok.ten
  have hav := hi.at q
  obtain ⟨hq, hmq⟩ := made_at hmk
  have hqv : q < st.vals.length := by have := hi.vlen; omega
  have hat : atK st.vals q = st.vals[q] := atK_in hqv
  obtain ⟨bm, om, em, hbm, cm⟩ := hE.sheet.made.at hM.below hM.size q hq
  obtain ⟨g, c, rfl, cv, -, hgl, hcl, hcm⟩ := hM.val_at hqv
  obtain ⟨Ad, cd, rfl, hd1, hd2, hd3⟩ := ownsRow_ints hM.done
  obtain ⟨Au, cu, rfl, hu1, hu2, hu3⟩ := ownsRow_ints hM.und
  have hcd := l2Has_calls Ad cd st.done q w.heap.size w w (Below.refl _ _) (Nat.le_refl _) (Nat.le_trans hd1 hd2) hd3
  have hcu := l2Has_calls Au cu st.under q w.heap.size w w (Below.refl _ _) (Nat.le_refl _) (Nat.le_trans hu1 hu2) hu3
  rw [em] at x0
  simp only [hmq] at cm
  unfold maxLen at hcm
  cases hd : st.done.contains (q : Int) with
  | true =>
    rw [onceP_done hmk hd]
    rw [hd] at hcd
    rw [hat] at hav ⊢
    replace hM := Lib.hid hM
    replace hE := Lib.hid hE
    replace hi := Lib.hid hi
    replace hd := Lib.hid hd
    replace hcd := Lib.hid hcd
    clear hat hmq hmk f3 f4 hcu hsome hd3 hu3
    go_enter Try.func85, Try.ntmps85
    go_wp2_with fail
    refine hcd.out.mono ?_
    rintro e w1 ⟨rfl, rfl⟩
    go_wp2_with fail
    go_ret2
    exact ⟨rfl, hav.1, hav.2, _, ⟨_, _, _, hM.out, rfl⟩, Turn.refl _ _⟩
  | false =>
    have hu : st.under.contains (q : Int) = true := hsome.resolve_left (by rw [hd]; simp)
    rw [onceP_under hmk hd hu]
    rw [hd] at hcd
    rw [hu] at hcu
    replace hM := Lib.hid hM
    replace hE := Lib.hid hE
    replace hi := Lib.hid hi
    replace hd := Lib.hid hd
    replace hu := Lib.hid hu
    replace hcd := Lib.hid hcd
    replace hcu := Lib.hid hcu
    clear hat hmq hmk f3 f4 hsome hd3 hu3 hav
    go_enter Try.func85, Try.ntmps85
    go_wp2_with fail
    refine hcd.out.mono ?_
    rintro e w1 ⟨rfl, rfl⟩
    go_wp2_with fail
    refine hcu.out.mono ?_
    rintro e w1 ⟨rfl, rfl⟩
    go_wp2_with fail
    go_ret2
    exact ⟨rfl, by simp, by simp, _, ⟨_, _, _, hM.out, rfl⟩, Turn.refl _ _⟩

set_option maxRecDepth 5000 in
set_option maxHeartbeats 8000000 in
theorem okey_new (E : MkEnv) (S : Sh) (hE : E.Good S) (m n : Nat)
    (ih : ∀ (st : OSt) (k : Int) (w : World) (F : Nat → Prop), 0 ≤ k → k ≤ 9 → OInv S n st → OnI E S m st w F →
      Calls Try.prog 85 #[.pointer (some ⟨m, 0, none⟩), .int .i64 k] w (Gives (OnI E S m) F w (onceP S n st k)))
    (st : OSt) (k : Int) (w : World) (F : Nat → Prop) (hk0 : 0 ≤ k) (hk9 : k ≤ 9) (hi : OInv S (n + 1) st) (h : OnI E S m st w F) (hmk : mkK S.made k = true) (hd : st.done.contains k = false) (hu : st.under.contains k = false) :
    Calls Try.prog 85 #[.pointer (some ⟨m, 0, none⟩), .int .i64 k] w (Gives (OnI E S m) F w (onceP S (n + 1) st k)) := by
  have hinv1 := onceP_inv hE.ok (n + 1) st k hi
  have hP := onceP_new (n := n) hmk hd hu
  obtain ⟨vv, vd, vu, hM, rfl⟩ := h
  obtain ⟨x0, x1, x2, x3, x4, f3, f4, hz⟩ := hM.cells
  obtain ⟨q, rfl⟩ := Int.eq_ofNat_of_zero_le hk0
  have hten := hE.ok.ten
  obtain ⟨hq, hmq⟩ := made_at hmk
  have hku : (q : Int) ∉ st.under := by simpa using hu
  have hkd : (q : Int) ∉ st.done := by simpa using hd
  have hi1 : OInv S n ⟨st.vals, st.done, st.under ++ [(q : Int)]⟩ := ⟨hi.vlen, hi.vals, hi.done, hi.nodup, hi.range, hi.under.push hku (mkK_range (show mkK S.made q ≠ false by rw [hmk]; simp)), fun x hx => (List.mem_append.1 hx).elim (hi.apart x) (fun e => by rw [List.mem_singleton.1 e]; exact hkd)⟩
  have hql : q < S.tks.length := by have := hE.ok.len; omega
  have hul := hi.under.len
  rw [tk_at hql] at hP
  have hok := hE.ok.tks S.tks[q] (List.getElem_mem _)
  have hfs : S.tks[q].fets ≤ 100 := fets_small (hE.ok.okT hql)
  obtain ⟨Q, hQ⟩ : ∃ Q, S.tks[q].itr.run (onceP S n) ⟨st.vals, st.done, st.under ++ [(q : Int)]⟩ = Q := ⟨_, rfl⟩
  rw [hQ] at hP
  have hQi := Itr.run_keeps (f := onceP S n) (J := fun s => OInv S n s ∧ s.under = st.under ++ [(q : Int)]) (fun s j h _ _ => ⟨(onceP_inv hE.ok n s j h.1).1, ((onceP_inv hE.ok n s j h.1).2.1).trans h.2⟩) S.tks[q].itr _ (Tk.itr_ok _ hok) ⟨hi1, rfl⟩
  rw [hQ] at hQi
  have hstep := fun (s : OSt) (j : Int) (hs : OInv S n s ∧ s.under = st.under ++ [(q : Int)]) => (⟨(onceP_inv hE.ok n s j hs.1).1, ((onceP_inv hE.ok n s j hs.1).2.1).trans hs.2⟩ : OInv S n (onceP S n s j).2 ∧ (onceP S n s j).2.under = st.under ++ [(q : Int)])
  obtain ⟨bm, om, em, hbm, cm⟩ := hE.sheet.made.at hM.below hM.size q hq
  rw [em] at x0
  simp only [hmq] at cm
  obtain ⟨Ad, cd, evd, hd1, hd2, hd3⟩ := ownsRow_ints hM.done
  obtain ⟨Au, cu, evu, hu1, hu2, hu3⟩ := ownsRow_ints hM.und
  subst evd evu
  have hcd := l2Has_calls Ad cd st.done q w.heap.size w w (Below.refl _ _) (Nat.le_refl _) (Nat.le_trans hd1 hd2) hd3
  have hcu := l2Has_calls Au cu st.under q w.heap.size w w (Below.refl _ _) (Nat.le_refl _) (Nat.le_trans hu1 hu2) hu3
  rw [hd] at hcd
  rw [hu] at hcu
  unfold maxLen at hu2 hd2
  have hsz := hM.size
  have hdl := hi.done
  have hvl := hi.vlen
  replace hM := Lib.hid hM
  replace hE := Lib.hid hE
  replace ih := Lib.hid ih
  replace hi1 := Lib.hid hi1
  replace hi := Lib.hid hi
  replace hQ := Lib.hid hQ
  replace hQi := Lib.hid hQi
  replace hstep := Lib.hid hstep
  replace hP := Lib.hid hP
  replace hok := Lib.hid hok
  replace hcd := Lib.hid hcd
  replace hcu := Lib.hid hcu
  replace em := Lib.hid em
  replace hinv1 := Lib.hid hinv1
  replace hvl := Lib.hid hvl
  clear hmk hmq hd hu hku hkd hd3 hu3
  go_enter Try.func85, Try.ntmps85
  go_wp2_with fail
  refine hcd.out.mono ?_
  rintro e w1 ⟨rfl, rfl⟩
  go_wp2_with fail
  refine hcu.out.mono ?_
  rintro e w1 ⟨rfl, rfl⟩
  go_wp2_with (at_builtin; go_loud (with_reducible refine wpList_app1 (by rfl) (.tmp 54) (.tmp 56) 26 (by rfl) intTy E.B (.slice Au st.under.length cu) st.under.length (ints st.under) (by with_unfolding_all rfl) (hM.out.und.alloc _) w.heap.size 1 [.int .i64 q] (by with_unfolding_all rfl) (by with_unfolding_all rfl) ⟨_, _, heap_alloc_new w _, rfl⟩ (one_int _ _) ?_ ?_ ?_ ?_))
  · unfold maxLen; omega
  · omega
  · simp; omega
  intro g cap w2 hown hgrow hat
  have hMa := hM.out.alloc (.cells #[.int .i64 q] 3 (0, 0))
  have hblk2 := (hgrow.block m (block_lt hMa.blk) (fun e => hMa.far _ (List.mem_of_getElem? (i := 2) rfl) e.symm)).trans hMa.blk
  have z4 : w2.cell? ⟨m, 4, none⟩ = some (.slice Au st.under.length cu) := (cellm hblk2 4).trans rfl
  have fz4 : w2.frozen? ⟨m, 4, none⟩ = false := frozenm hblk2 4
  have hset := hMa.set_row 2 4 rfl (xs' := ints (st.under ++ [(q : Int)])) hgrow (by simpa [ints_append, ints] using hown) (fun i hi => by cases hi; exact hat.imp id (fun e => by simp at e ⊢; omega))
  have hM3 : OnAt E S m vv (.slice Ad st.done.length cd) (.slice (some ⟨g, 0, none⟩) (st.under.length + 1) cap) ⟨st.vals, st.done, st.under ++ [(q : Int)]⟩ (w2.setCell ⟨m, 4, none⟩ (.slice (some ⟨g, 0, none⟩) (st.under.length + 1) cap)) := by
    have := hset.1
    rw [onPs_under] at this
    exact this
  have t3 := (below_turn (F := Foot m (onPs E vv (.slice Ad st.done.length cd) (.slice Au st.under.length cu) st)) (below_al (Below.refl w.heap.size w) (.cells #[.int .i64 q] 3 (0, 0)))).trans hset.2
  rw [onPs_under] at t3
  have hzm2 := block_lt hblk2
  replace hM3 := Lib.hid hM3
  replace t3 := Lib.hid t3
  clear hown hgrow hat hMa hblk2 hset x0 x1 x2 x3 x4 f3 f4 cm hcd hcu
  obtain ⟨bt, ot, At', ct', et, hbt, ht0, ht1, ht2, htc, htm, htp⟩ := hE.out.sheet.tasks.at hM3.out.below q (by simpa using hql)
  simp only [List.getElem_map] at ht0 ht1 ht2 htc htp
  have hbt3 := Nat.lt_of_lt_of_le hbt hM3.out.size
  obtain ⟨y0, y1, y2, y3, y4, e3, e4, hzm⟩ := hM3.out.cells
  rw [et] at y1
  replace htp := Lib.hid htp
  generalize hw3 : w2.setCell ⟨m, 4, none⟩ (.slice (some ⟨g, 0, none⟩) (st.under.length + 1) cap) = w3 at *
  have hst0 := LpO.start hM3.out t3.out hsz
  have hnx := l2Next_calls S.tks[q] At' ct' [] (some ⟨w3.heap.size, 0, none⟩) 0 E.B E.w0 _ hst0.ob.below hst0.ob.size hok.out htc htp.out (RowAt.nil _ _ _ _) (fun x hx => (by cases hx)) (by simp)
  replace hnx := Lib.hid hnx
  replace hst0 := Lib.hid hst0
  go_wp2_with fail
  refine hnx.out.mono ?_
  rintro e w4 ⟨rfl, v0, v1, hb4⟩
  have hst4 := hst0.out.up hb4
  have hvv : 0 ≤ (nextP S.tks[q].itr []).1 ∧ (nextP S.tks[q].itr []).1 ≤ 96 := ⟨v0, v1⟩
  replace hst4 := Lib.hid hst4
  replace hvv := Lib.hid hvv
  clear hnx hst0 hb4 v0 v1 y0 y1 y2 y3 y4 e3 e4 hzm ht0 ht1 ht2 hbt3 hM3 t3 hw3 z4 fz4 hzm2
  go_wp2_with fail
  go_loopw [6, 7, 8, 9] (fun a v ky o ws => ∃ (got : List Int) (s1 : OSt) (vv1 vd1 vu1 : Value), got.length ≤ S.tks[q].fets ∧ v = .int .i64 (nextP S.tks[q].itr got).1 ∧ ky = .int .i64 (nextP S.tks[q].itr got).2.1 ∧ o = .bool (nextP S.tks[q].itr got).2.2 ∧
    Hid (LpO E.B E.w0 m 104 (onCs E S vv1 vd1 vu1) (onPs E vv1 vd1 vu1 s1) w (Foot m (onPs E vv (.slice Ad st.done.length cd) (.slice Au st.under.length cu) st)) got a ws) ∧ Hid (OInv S n s1 ∧ s1.under = st.under ++ [(q : Int)]) ∧
    Hid (Q = (S.tks[q].itr.walk got).run (onceP S n) s1) ∧ Hid (0 ≤ (nextP S.tks[q].itr got).1 ∧ (nextP S.tks[q].itr got).1 ≤ 96) ∧ lenOf a = got.length) (fun a _ _ _ _ => S.tks[q].fets - lenOf a)
  case atStart => exact ⟨[], _, _, _, _, Nat.zero_le _, rfl, rfl, rfl, hst4, Lib.hid ⟨hi1.out, rfl⟩, Lib.hid (by rw [← hQ.out, Itr.walk_nil]), hvv, rfl⟩
  case round =>
    obtain ⟨got, s1, vv1, vd1, vu1, hgl, rfl, rfl, rfl, hL, hI1, hEq, hvv, hla⟩ := hrel
    cases hw : S.tks[q].itr.walk got with
    | done x =>
      obtain ⟨n1, n2⟩ := nextP_done hw
      have he := hEq.out
      rw [hw] at he
      have he2 : Q = ((x, true), s1) := he
      have hx := hvv.out
      rw [n1] at hx
      rw [n1, n2]
      have hP2 := hP.out
      rw [he2] at hP2
      have hob := hL.out.ob
      have hun := hI1.out.2
      rw [he2] at hQi
      have hqi := hQi.out.1
      have hps : (onPs E vv1 vd1 vu1 s1)[2]? = some (rowP E.B 3 1 vu1 (st.under ++ [(q : Int)]).length (ints (st.under ++ [(q : Int)]))) := by rw [← hun]; rfl
      obtain ⟨gp, cp, evu, hcp, hcpm, hgp, hBp, hpop1, hpop2⟩ := hob.pop_row 2 4 hps
      subst evu
      obtain ⟨x0, x1, x2, x3, x4, f3, f4, hz⟩ := OnAt.cells hob
      unfold maxLen at hcpm
      have hqv : q < s1.vals.length := Nat.lt_of_lt_of_eq hq hqi.vlen.symm
      have hO1 : OnAt E S m vv1 vd1 (.slice (some ⟨gp, 0, none⟩) st.under.length cp) ⟨s1.vals, s1.done, st.under⟩ (wr.setCell ⟨m, 4, none⟩ (.slice (some ⟨gp, 0, none⟩) st.under.length cp)).drew := by
        have := hpop1.drew
        simpa [onPs] using this
      have t1 : Turn (Foot m (onPs E vv1 vd1 (.slice (some ⟨gp, 0, none⟩) (st.under.length + 1) cp) s1)) (Foot m (onPs E vv1 vd1 (.slice (some ⟨gp, 0, none⟩) st.under.length cp) ⟨s1.vals, s1.done, st.under⟩)) wr (wr.setCell ⟨m, 4, none⟩ (.slice (some ⟨gp, 0, none⟩) st.under.length cp)).drew := by
        have := hpop2.drew
        simpa [onPs] using this
      have t1' := hL.out.turn.trans t1
      have hxx := hx
      have hsd : s1.done.length ≤ 10 := Nat.le_trans hqi.done hten
      replace hx := Lib.hid hx
      replace hP2 := Lib.hid hP2
      replace hO1 := Lib.hid hO1
      replace t1' := Lib.hid t1'
      replace hvx := Lib.hid hxx
      clear hw n1 n2 he he2 hEq hvv hL hst4 htp hob hun hqi hps hpop1 hpop2 hI1 t1 hQi x0 x1 x2 x3 f3 hxx hQ
      go_wp2_with fail
      go_region
      generalize hW1 : (wr.setCell ⟨m, 4, none⟩ (.slice (some ⟨gp, 0, none⟩) st.under.length cp)).drew = W1 at *
      obtain ⟨x0, x1, x2, x3, x4', f3, f4', hz'⟩ := OnAt.cells hO1.out
      obtain ⟨gv, cv, ev, c1, f1, hgv, hcv, hcvm⟩ := OnAt.val_at hO1.out hqv
      subst ev
      unfold maxLen at hcvm
      obtain ⟨p1, p2⟩ := hO1.out.put_row 0 q rfl (.int .i64 x) hqv
      have hO2 : OnAt E S m (.slice (some ⟨gv, 0, none⟩) s1.vals.length cv) vd1 (.slice (some ⟨gp, 0, none⟩) st.under.length cp) ⟨s1.vals.set q x, s1.done, st.under⟩ (W1.setCell ⟨gv, q, none⟩ (.int .i64 x)) := by
        rw [onPs_val] at p1
        exact p1
      have t2 : Turn (Foot m (onPs E (.slice (some ⟨gv, 0, none⟩) s1.vals.length cv) vd1 (.slice (some ⟨gp, 0, none⟩) st.under.length cp) ⟨s1.vals, s1.done, st.under⟩)) (Foot m (onPs E (.slice (some ⟨gv, 0, none⟩) s1.vals.length cv) vd1 (.slice (some ⟨gp, 0, none⟩) st.under.length cp) ⟨s1.vals.set q x, s1.done, st.under⟩)) W1 (W1.setCell ⟨gv, q, none⟩ (.int .i64 x)) := by
        rw [onPs_val] at p2
        exact p2
      have t2' := t1'.out.trans t2
      obtain ⟨z0, z1, z2, z3, z4, g3, g4, hz2⟩ := OnAt.cells hO2
      obtain ⟨A1, cd1, ed1, k1, k2, -⟩ := ownsRow_ints hO2.done
      subst ed1
      have hszB := hO2.size
      replace hO2 := Lib.hid hO2
      replace t2' := Lib.hid t2'
      clear p1 p2 t2 t1' hO1 hW1 x4 f4 hz
      clear z0 z1 z2 z4 g4
      go_wp2_with (at_builtin; go_loud (with_reducible refine wpList_app1 (by rfl) (.tmp 130) (.tmp 132) 26 (by rfl) intTy E.B (.slice A1 s1.done.length cd1) s1.done.length (ints s1.done) (by with_unfolding_all rfl) ((OnAt.done hO2.out).alloc _) W1.heap.size 1 [.int .i64 q] (by with_unfolding_all rfl) (by with_unfolding_all rfl) ⟨_, _, heap_new (by rw [World.size_setCell]), rfl⟩ (one_int _ _) ?_ ?_ ?_ ?_))
      · unfold maxLen; omega
      · omega
      · first | omega | (simp; omega) | (simp at hszB ⊢; omega)
      intro g7 cap7 w7 hown7 hgrow7 hat7
      have hMb := hO2.out.alloc (.cells #[.int .i64 q] 3 (0, 0))
      have hblk7 := (hgrow7.block m (block_lt hMb.blk) (fun e => hMb.far _ (List.mem_of_getElem? (i := 1) rfl) e.symm)).trans hMb.blk
      have z5 : w7.cell? ⟨m, 3, none⟩ = some (.slice A1 s1.done.length cd1) := (cellm hblk7 3).trans rfl
      have fz5 : w7.frozen? ⟨m, 3, none⟩ = false := frozenm hblk7 3
      have hset7 := hMb.set_row 1 3 rfl (xs' := ints (s1.done ++ [(q : Int)])) hgrow7 (by simpa [ints_append, ints] using hown7) (fun i hi => by cases hi; exact hat7.imp id (fun e => by simp at e ⊢; omega))
      have hO3 : OnAt E S m (.slice (some ⟨gv, 0, none⟩) s1.vals.length cv) (.slice (some ⟨g7, 0, none⟩) (s1.done.length + 1) cap7) (.slice (some ⟨gp, 0, none⟩) st.under.length cp) ⟨s1.vals.set q x, s1.done ++ [(q : Int)], st.under⟩ (w7.setCell ⟨m, 3, none⟩ (.slice (some ⟨g7, 0, none⟩) (s1.done.length + 1) cap7)) := by
        have := hset7.1
        rw [onPs_done] at this
        exact this
      have t3 : Turn (Foot m (onPs E vv (.slice Ad st.done.length cd) (.slice Au st.under.length cu) st)) (Foot m (onPs E (.slice (some ⟨gv, 0, none⟩) s1.vals.length cv) (.slice (some ⟨g7, 0, none⟩) (s1.done.length + 1) cap7) (.slice (some ⟨gp, 0, none⟩) st.under.length cp) ⟨s1.vals.set q x, s1.done ++ [(q : Int)], st.under⟩)) w (w7.setCell ⟨m, 3, none⟩ (.slice (some ⟨g7, 0, none⟩) (s1.done.length + 1) cap7)) := by
        have := (t2'.out.alloc (.cells #[.int .i64 q] 3 (0, 0))).trans hset7.2
        rw [onPs_done] at this
        exact this
      replace hO3 := Lib.hid hO3
      replace t3 := Lib.hid t3
      clear hown7 hgrow7 hat7 hMb hblk7 hset7 hO2 t2'
      go_wp2_with fail
      go_ret2
      rw [hP2.out]
      dsimp only
      rw [if_pos trivial, Int.toNat_natCast]
      exact ⟨rfl, hvx.out.1, hvx.out.2, _, ⟨_, _, _, hO3.out, rfl⟩, t3.out⟩
    | ask ky ct =>
      have hnp := nextP_ask hw
      have hkr := Itr.walk_ok got _ (Tk.itr_ok _ hok.out)
      rw [hw] at hkr
      obtain ⟨hk0', hk9', -⟩ := hkr
      have hglt := Itr.walk_le got _ _ (Tk.itr_le S.tks[q]) ky ct hw
      rw [hnp]
      have hcall := ih.out s1 ky wr _ hk0' hk9' hI1.out.1 ⟨vv1, vd1, vu1, hL.out.ob, rfl⟩
      have he := hEq.out
      rw [hw] at he
      have hI2 := hstep.out s1 ky hI1.out
      obtain ⟨X, hX⟩ : ∃ X, onceP S n s1 ky = X := ⟨_, rfl⟩
      rw [hX] at hcall hI2
      replace hcall := Lib.hid hcall
      replace he := Lib.hid he
      replace hX := Lib.hid hX
      replace hnp := Lib.hid hnp
      replace hw := Lib.hid hw
      replace hI2 := Lib.hid hI2
      clear hEq hvv hst4
      go_wp2_with fail
      refine hcall.out.mono ?_
      rintro e w5 ⟨rfl, p0, p1, F5, ⟨vv5, vd5, vu5, hs5, rfl⟩, t5⟩
      have hL5 := hL.out.key hs5 t5
      replace hL5 := Lib.hid hL5
      clear hcall hs5 t5 hL
      cases hfin : X.1.2 with
      | false =>
        have he2 : Q = ((0, false), X.2) := by rw [he.out, Itr.run_no (by rw [hX.out, hfin]; simp), hX.out]
        have hP2 := hP.out
        rw [he2] at hP2
        have hob := hL5.out.ob
        have hps : (onPs E vv5 vd5 vu5 X.2)[2]? = some (rowP E.B 3 1 vu5 (st.under ++ [(q : Int)]).length (ints (st.under ++ [(q : Int)]))) := by rw [← hI2.out.2]; rfl
        obtain ⟨gp, cp, evu, hcp, hcpm, hgp, hBp, hpop1, hpop2⟩ := hob.pop_row 2 4 hps
        subst evu
        obtain ⟨x0, x1, x2, x3, x4, f3, f4, hz⟩ := OnAt.cells hob
        unfold maxLen at hcpm
        have hO1 : OnAt E S m vv5 vd5 (.slice (some ⟨gp, 0, none⟩) st.under.length cp) ⟨X.2.vals, X.2.done, st.under⟩ (w5.setCell ⟨m, 4, none⟩ (.slice (some ⟨gp, 0, none⟩) st.under.length cp)).drew := by
          have := hpop1.drew
          simpa [onPs] using this
        have t1 : Turn (Foot m (onPs E vv5 vd5 (.slice (some ⟨gp, 0, none⟩) (st.under.length + 1) cp) X.2)) (Foot m (onPs E vv5 vd5 (.slice (some ⟨gp, 0, none⟩) st.under.length cp) ⟨X.2.vals, X.2.done, st.under⟩)) w5 (w5.setCell ⟨m, 4, none⟩ (.slice (some ⟨gp, 0, none⟩) st.under.length cp)).drew := by
          have := hpop2.drew
          simpa [onPs] using this
        have t1' := hL5.out.turn.trans t1
        replace hP2 := Lib.hid hP2
        replace hO1 := Lib.hid hO1
        replace t1' := Lib.hid t1'
        clear he2 hL5 he hX htp hob hps hpop1 hpop2 t1 x0 x1 x2 x3 f3 hQi
        go_wp2_with fail
        go_region
        go_wp2_with fail
        go_ret2
        rw [hP2.out]
        exact ⟨rfl, by simp, by simp, _, ⟨_, _, _, hO1.out, rfl⟩, t1'.out⟩
      | true =>
        have he2 : Q = ((S.tks[q].itr.walk (got ++ [X.1.1])).run (onceP S n) X.2) := by
          rw [he.out, Itr.run_yes (by rw [hX.out, hfin]), hX.out, Itr.walk_append, hw.out, Itr.walk, Itr.walk_nil]
        obtain ⟨Ag, cg, evg, hlg, hmg, hig⟩ := ownsRow_ints hL5.out.own
        subst evg
        replace he2 := Lib.hid he2
        have hL5a := hL5.out.up (below_al (Below.refl _ _) (.cells #[.int .i64 X.1.1] 3 (0, 0)))
        have hsz5 := hL5a.turn.size
        replace hL5a := Lib.hid hL5a
        clear hig he hX
        go_wp2_with (at_builtin; go_loud (with_reducible refine wpList_app1 (by rfl) (.tmp 85) (.tmp 87) 26 (by rfl) intTy w.heap.size (.slice Ag got.length cg) got.length (ints got) (by with_unfolding_all rfl) hL5a.out.own w5.heap.size 1 [.int .i64 X.1.1] (by with_unfolding_all rfl) (by with_unfolding_all rfl) ⟨_, _, heap_alloc_new w5 _, rfl⟩ (one_int _ _) ?_ ?_ ?_ ?_))
        · unfold maxLen; omega
        · omega
        · exact hsz5
        intro g6 cap6 w6 hown6 hgrow6 hat6
        have hL6 := hL5.out.app (x := X.1.1) (v' := .slice (some ⟨g6, 0, none⟩) (got.length + 1) cap6) hgrow6 hown6 ⟨p0, p1⟩ (fun i hi => by cases hi; exact hat6.imp id (fun e => by simp at e ⊢; omega))
        obtain ⟨y0, y1, y2, y3, y4, e3, e4, hzm⟩ := OnAt.cells hL6.ob
        obtain ⟨bt, ot, At', ct', et2, hbt, ht0, ht1, ht2, htc, htm, htp⟩ := hE.out.sheet.tasks.at hL6.ob.below q (by simpa using hql)
        simp only [List.getElem_map] at ht0 ht1 ht2 htc htp
        have hbt3 := Nat.lt_of_lt_of_le hbt hL6.ob.size
        rw [et2] at y1
        obtain ⟨Ah, ch, eh, hlh, hmh, hih⟩ := ownsRow_ints hL6.own
        have hlen6 : (got ++ [X.1.1]).length = got.length + 1 := by simp
        have eh2 := eh
        rw [hlen6] at eh2
        simp only [Value.slice.injEq, true_and] at eh2
        obtain ⟨rfl, rfl⟩ := eh2
        have hnx := l2Next_calls S.tks[q] At' ct' (got ++ [X.1.1]) (some ⟨g6, 0, none⟩) cap6 E.B E.w0 w6 hL6.ob.below hL6.ob.size hok.out htc htp hih hL6.vals (by simp; omega)
        rw [hlen6] at hnx
        replace hnx := Lib.hid hnx
        replace hL6 := Lib.hid hL6
        replace hlen6 := Lib.hid hlen6
        replace htp := Lib.hid htp
        clear hown6 hgrow6 hat6 hL5 hL5a eh hih
        go_wp2_with fail
        refine hnx.out.mono ?_
        rintro e w7 ⟨rfl, v0, v1, hb7⟩
        have hL7 := hL6.out.up hb7
        replace hL7 := Lib.hid hL7
        clear hnx hL6 hb7 y0 y1 y2 y3 y4 e3 e4 hzm ht0 ht1 ht2
        go_wp2_with fail
        go_roundw
        case rel => exact ⟨got ++ [X.1.1], X.2, _, _, _, by rw [hlen6.out]; omega, rfl, rfl, rfl, hL7, hI2, he2, Lib.hid ⟨v0, v1⟩, by rw [hlen6.out]; rfl⟩
        case measure => simp only [lenOf]; omega
end Go.Proofs.Ytpccgdkidnkppaa

set_option linter.unusedVariables false
set_option linter.unusedSimpArgs false
namespace Go.Proofs.Ytpccgdkidnkppaa
open Go Go.RowKit

theorem okey_calls (E : MkEnv) (S : Sh) (hE : E.Good S) (m : Nat) : ∀ (n : Nat) (st : OSt) (k : Int) (w : World) (F : Nat → Prop), 0 ≤ k → k ≤ 9 → OInv S n st → OnI E S m st w F →
    Calls Try.prog 85 #[.pointer (some ⟨m, 0, none⟩), .int .i64 k] w (Gives (OnI E S m) F w (onceP S n st k)) := by
  intro n
  induction n with
  | zero =>
    intro st k w F hk0 hk9 hi h
    cases hmk : mkK S.made k with
    | false => exact okey_unmade E S hE m 0 st k w F hk0 hk9 hi h hmk
    | true =>
      cases hd : st.done.contains k with
      | true => exact okey_made E S hE m 0 st k w F hk0 hk9 hi h hmk (.inl hd)
      | false =>
        cases hu : st.under.contains k with
        | true => exact okey_made E S hE m 0 st k w F hk0 hk9 hi h hmk (.inr hu)
        | false =>
          exfalso
          have hkr := mkK_range (show mkK S.made k ≠ false by rw [hmk]; simp)
          have h1 : (k :: st.under).Nodup := List.nodup_cons.2 ⟨by simpa using hu, hi.under.nodup⟩
          have h2 := nodup_bound (n := S.made.length) h1 (fun x hx => by
            rcases List.mem_cons.1 hx with rfl | hx
            · exact hkr
            · exact hi.under.range x hx)
          have h3 := hi.under.fuel
          simp at h2
          omega
  | succ n ih =>
    intro st k w F hk0 hk9 hi h
    cases hmk : mkK S.made k with
    | false => exact okey_unmade E S hE m (n + 1) st k w F hk0 hk9 hi h hmk
    | true =>
      cases hd : st.done.contains k with
      | true => exact okey_made E S hE m (n + 1) st k w F hk0 hk9 hi h hmk (.inl hd)
      | false =>
        cases hu : st.under.contains k with
        | true => exact okey_made E S hE m (n + 1) st k w F hk0 hk9 hi h hmk (.inr hu)
        | false => exact okey_new E S hE m n ih st k w F hk0 hk9 hi h hmk hd hu

theorem keysOk_drop {n : Nat} {keys : List Int} {j : Nat} (h : j < keys.length) : keysOk n (keys.drop j) = (decide (0 ≤ keys[j] ∧ keys[j] < n) && keysOk n (keys.drop (j + 1))) := by
  unfold keysOk
  rw [List.drop_eq_getElem_cons h, List.all_cons]
set_option maxHeartbeats 1000000 in
theorem l4Keys_calls (Am At Ak : Option Addr) (cm ct ck : Nat) (made : List Bool) (tasks : List Task) (keys : List Int) (B : Nat) (w0 w : World) (hb : Below B w0 w) (hB : B ≤ w.heap.size) (hs : SheetAt B w0 Am cm At ct made tasks) (hnod : ∀ T ∈ tasks, nodes T ≤ 1000000000) (hml : (made.length : Int) ≤ 9223372036854775807) (hm : keys.length ≤ maxLen) (hx : IntsAt B w0 Ak keys) :
    Calls Try.prog 55 #[.agg #[.slice Am made.length cm, .slice At tasks.length ct], .slice Ak keys.length ck] w fun e w' => e = .returned (.bool (keysOk made.length keys && sheetOk made tasks)) ∧ Below w.heap.size w w' := by
  have hc1 := fun w1 (hw : Below w.heap.size w w1) => specSheetOk_calls Am At cm ct made tasks B w0 w1 (below_up' hb hB hw) (Nat.le_trans hB hw.size) hs hnod
  have hc2 := fun k w1 => l6In_calls k 0 ((made.length : Int) - 1) w1
  have hwr : IntKind.i64.wrap ((made.length : Int) - 1) = (made.length : Int) - 1 := by simp [IntKind.wrap, IntKind.bits, IntKind.signed]; omega
  generalize hsk : sheetOk made tasks = sk at *
  replace hc1 := Lib.hid hc1
  replace hc2 := Lib.hid hc2
  replace hx := Lib.hid hx
  replace hb := Lib.hid hb
  replace hsk := Lib.hid hsk
  unfold maxLen at hm
  clear hs hnod
  go_enter Try.func55, Try.ntmps55
  go_wp2_with fail
  go_loopw [5] (fun i wr => ∃ (j : Nat), j ≤ keys.length ∧ i = .int .i64 j ∧ Hid (Below w.heap.size w wr) ∧ w.heap.size < wr.heap.size ∧ wr.cell? ⟨w.heap.size, 0, none⟩ = some (.slice Am made.length cm) ∧ wr.cell? ⟨w.heap.size, 1, none⟩ = some (.slice At tasks.length ct) ∧
    Hid (keysOk made.length keys = keysOk made.length (keys.drop j))) (fun i _ => keys.length - (intOf i).toNat)
  case atStart => exact ⟨0, Nat.zero_le _, rfl, Lib.hid (below_al (Below.refl _ _) _), by simp, by simp, by simp, Lib.hid rfl⟩
  case round =>
    obtain ⟨j, hj, rfl, hw, hz, x0, x1, he⟩ := hrel
    by_cases hlt : j < keys.length
    · have he2 := he.out
      rw [keysOk_drop hlt] at he2
      obtain ⟨b, o, rfl, hbb, y⟩ := hx.out.at (below_up' hb.out hB hw.out) (Nat.le_trans hB hw.out.size) j hlt
      have hcall := hc2.out keys[j]
      generalize keys[j] = k at *
      have hdd : decide (0 ≤ k ∧ k ≤ (made.length : Int) - 1) = decide (0 ≤ k ∧ k < (made.length : Int)) := by
        by_cases h1 : 0 ≤ k ∧ k < (made.length : Int)
        · rw [decide_eq_true h1, decide_eq_true (by omega)]
        · rw [decide_eq_false h1, decide_eq_false (by omega)]
      rw [hdd] at hcall
      generalize decide (0 ≤ k ∧ k < (made.length : Int)) = d at *
      replace hcall := Lib.hid hcall
      replace hdd := Lib.hid hdd
      replace he2 := Lib.hid he2
      clear he
      go_wp2_with fail
      go_region_law (go_simp; go_at_call 108; refine (hcall.out _).mono ?_; rintro e w5 ⟨rfl, rfl⟩)
      all_goals
        cases d with
        | true =>
          have he3 := he2.out
          simp only [Bool.true_and] at he3
          replace he3 := Lib.hid he3
          go_wp2_with fail
          go_roundw
          case rel => exact ⟨j + 1, by omega, by go_num, Lib.hid hw.out.drew, hz, x0, x1, he3⟩
          case measure => simp [intOf]; omega
        | false =>
          have he3 := he2.out
          simp only [Bool.false_and] at he3
          replace he3 := Lib.hid he3
          go_wp2_with fail
          go_ret
          exact ⟨by rw [he3.out]; rfl, hw.out.drew⟩
    · have hd : keys.drop j = [] := List.drop_eq_nil_of_le (by omega)
      have he2 := he.out
      rw [hd] at he2
      replace he2 := Lib.hid he2
      replace hd := Lib.hid hd
      have hcall := hc1.out wr hw.out
      replace hcall := Lib.hid hcall
      clear he
      go_wp2_with fail
      refine hcall.out.mono ?_
      rintro e w5 ⟨rfl, h5⟩
      have hw5 := below_up hw.out h5
      replace hw5 := Lib.hid hw5
      clear h5 hcall
      go_wp2_with fail
      go_ret
      exact ⟨by rw [he2.out]; simp [keysOk], hw5.out⟩
end Go.Proofs.Ytpccgdkidnkppaa

set_option linter.unusedVariables false
set_option linter.unusedSimpArgs false
namespace Go.Proofs.Ytpccgdkidnkppaa
open Go Go.RowKit

/-! rows of orders -/
abbrev Ordr := List Int × List Int
structure OrdIs (B : Nat) (w0 : World) (Ai : Option Addr) (ci : Nat) (Ak : Option Addr) (ck : Nat) (x : Ordr) : Prop where
  ia : IntsAt B w0 Ai x.1
  il : x.1.length ≤ ci
  im : ci ≤ maxLen
  ka : IntsAt B w0 Ak x.2
  kl : x.2.length ≤ ck
  km : ck ≤ maxLen
def OrdsAt (B : Nat) (w0 : World) (A : Option Addr) (l : List Ordr) : Prop :=
  ∀ i (h : i < l.length), ∃ (b o : Nat) (Ai : Option Addr) (ci : Nat) (Ak : Option Addr) (ck : Nat), A = some ⟨b, o, none⟩ ∧ b < B ∧
    w0.cell? ⟨b, o + i * 2, none⟩ = some (.slice Ai l[i].1.length ci) ∧ w0.cell? ⟨b, o + i * 2 + 1, none⟩ = some (.slice Ak l[i].2.length ck) ∧ OrdIs B w0 Ai ci Ak ck l[i]
theorem OrdsAt.at {B : Nat} {w0 w : World} {A : Option Addr} {l : List Ordr} (h : OrdsAt B w0 A l) (hb : Below B w0 w) (hB : B ≤ w.heap.size) (i : Nat) (hi : i < l.length) : ∃ (b o : Nat) (Ai : Option Addr) (ci : Nat) (Ak : Option Addr) (ck : Nat), A = some ⟨b, o, none⟩ ∧ b < w.heap.size ∧
    w.cell? ⟨b, o + i * 2, none⟩ = some (.slice Ai l[i].1.length ci) ∧ w.cell? ⟨b, o + i * 2 + 1, none⟩ = some (.slice Ak l[i].2.length ck) ∧ OrdIs B w0 Ai ci Ak ck l[i] := by
  obtain ⟨b, o, Ai, ci, Ak, ck, e, hlt, c1, c2, hi⟩ := h i hi
  exact ⟨b, o, Ai, ci, Ak, ck, e, by omega, (hb.cell (p := ⟨b, o + i * 2, none⟩) hlt).trans c1, (hb.cell (p := ⟨b, o + i * 2 + 1, none⟩) hlt).trans c2, hi⟩

theorem oindexFunc_calls (p : Ordr → Bool) (g : Nat) (first cap : Array Value) (hg : Enters Try.prog g) (A : Option Addr) (c : Nat) (l : List (Ordr)) (B : Nat) (w0 w : World) (hb : Below B w0 w) (hB : B ≤ w.heap.size) (hm : l.length ≤ maxLen) (hx : OrdsAt B w0 A l)
    (hf : ∀ x w' Ai ci Ak ck, x ∈ l → OrdIs B w0 Ai ci Ak ck x → Below w.heap.size w w' → Calls Try.prog g (first ++ #[.agg #[.slice Ai x.1.length ci, .slice Ak x.2.length ck]] ++ cap) w' (fun e w'' => e = .returned (.bool (p x)) ∧ Below w'.heap.size w' w'')) :
    Calls Try.prog 157 #[.slice A l.length c, .func (.func g) first cap] w fun e w' => e = .returned (.int .i64 (idx p l)) ∧ Below w.heap.size w w' := by
  unfold maxLen at hm
  replace hx := Lib.hid hx
  replace hb := Lib.hid hb
  replace hf := Lib.hid hf
  go_enter Try.func157, Try.ntmps157
  go_wp2
  go_loopw [5, 8] (fun _ i wr => ∃ k : Nat, k ≤ l.length ∧ i = .int .i64 k ∧ Hid (Below w.heap.size w wr) ∧ Hid (∀ j (hj : j < l.length), j < k → p l[j] = false)) (fun _ i _ => l.length - (intOf i).toNat)
  case atStart => exact ⟨0, Nat.zero_le _, rfl, Lib.hid (Below.refl _ _), Lib.hid (fun j _ h => by omega)⟩
  case round =>
    obtain ⟨k, hk, rfl, hw, hno⟩ := hrel
    by_cases hlt : k < l.length
    · obtain ⟨b, o, Ai, ci, Ak, ck, rfl, hbl, hc1, hc2, hoi⟩ := hx.out.at (below_up' hb.out hB hw.out) (Nat.le_trans hB hw.out.size) k hlt
      go_wp2_with ((with_reducible refine wpList_call_value (by rfl) (.tmp 11) _ _ (by rfl) g first cap (by with_unfolding_all rfl) hg ?_); refine (hf.out l[k] _ Ai ci Ak ck (List.getElem_mem _) hoi hw.out).mono ?_; rintro e w' ⟨rfl, h3⟩; replace h3 := Lib.hid h3; refine ⟨_, rfl, ?_⟩)
      · have hp : p l[k] = true := by assumption
        have hr : idx p l = k := idx_found hlt (fun j hj => hno.out j _ hj) hp
        go_ret
        exact ⟨by rw [hr]; rfl, below_up hw.out h3.out⟩
      · have hp : p l[k] = false := by assumption
        go_roundw
        case rel => exact ⟨k + 1, by omega, by go_num, Lib.hid (below_up hw.out h3.out), Lib.hid (fun j hj h => if e : j = k then by subst e; exact hp else hno.out j hj (by omega))⟩
        case measure => simp [intOf]; omega
    · have hr : idx p l = -1 := idx_none (fun j hj => hno.out j hj (by omega))
      replace hr := Lib.hid hr
      go_wp2
      go_ret
      exact ⟨by rw [hr.out]; rfl, hw.out⟩
theorem ocontainsFunc_calls (p : Ordr → Bool) (g : Nat) (first cap : Array Value) (hg : Enters Try.prog g) (A : Option Addr) (c : Nat) (l : List (Ordr)) (B : Nat) (w0 w : World) (hb : Below B w0 w) (hB : B ≤ w.heap.size) (hm : l.length ≤ maxLen) (hx : OrdsAt B w0 A l)
    (hf : ∀ x w' Ai ci Ak ck, x ∈ l → OrdIs B w0 Ai ci Ak ck x → Below w.heap.size w w' → Calls Try.prog g (first ++ #[.agg #[.slice Ai x.1.length ci, .slice Ak x.2.length ck]] ++ cap) w' (fun e w'' => e = .returned (.bool (p x)) ∧ Below w'.heap.size w' w'')) :
    Calls Try.prog 136 #[.slice A l.length c, .func (.func g) first cap] w fun e w' => e = .returned (.bool (l.any p)) ∧ Below w.heap.size w w' := by
  have h := oindexFunc_calls p g first cap hg A c l B w0 w hb hB hm hx hf
  replace h := Lib.hid h
  clear hx hb hf
  go_enter Try.func136, Try.ntmps136
  go_wp2_with fail
  refine h.out.mono ?_
  rintro e w1 ⟨rfl, h3⟩
  replace h3 := Lib.hid h3
  have hr := idx_any p l
  generalize idx p l = n at *
  replace hr := Lib.hid hr
  go_wp2_with fail
  go_ret
  exact ⟨by rw [← hr.out]; rfl, h3.out⟩

def fitO (n : Nat) (x : Ordr) : Bool := takesOk n x.1 && keysOk n x.2
def rowOkP (made : List Bool) (tasks : List Task) (l : List Ordr) : Bool := safeP made tasks && decide (l.length ≤ 6) && l.all (fitO made.length)

theorem ofits_calls (A A2 Ai Ak : Option Addr) (n c n2 c2 ci ck : Nat) (x : Ordr) (B : Nat) (w0 w : World) (hb : Below B w0 w) (hB : B ≤ w.heap.size) (h : OrdIs B w0 Ai ci Ak ck x) :
    Calls Try.prog 138 #[.agg #[.slice A n c, .slice A2 n2 c2], .agg #[.slice Ai x.1.length ci, .slice Ak x.2.length ck]] w fun e w' => e = .returned (.bool (fitO n x)) ∧ Below w.heap.size w w' := by
  have hc1 := fun w1 (hw : Below w.heap.size w w1) => takes_calls A A2 Ai n c n2 c2 ci x.1 B w0 w1 (below_up' hb hB hw) (Nat.le_trans hB hw.size) (Nat.le_trans h.il h.im) h.ia
  have hc2 := fun w1 (hw : Below w.heap.size w w1) => all_calls A A2 Ak n c n2 c2 ck x.2 B w0 w1 (below_up' hb hB hw) (Nat.le_trans hB hw.size) (Nat.le_trans h.kl h.km) h.ka
  have hr : fitO n x = (takesOk n x.1 && keysOk n x.2) := rfl
  generalize fitO n x = r at *
  subst hr
  have hal := below_al (below_al (Below.refl w.heap.size w) (.cells #[.slice A n c, .slice A2 n2 c2] 31 (0, 0))) (.cells #[.slice Ai x.1.length ci, .slice Ak x.2.length ck] 116 (0, 0))
  have k0 := hc1 _ hal
  replace k0 := Lib.hid k0
  replace hc2 := Lib.hid hc2
  replace hal := Lib.hid hal
  clear hc1 h hb
  go_enter Try.func138, Try.ntmps138
  go_wp2_with fail
  refine k0.out.mono ?_
  rintro e w1 ⟨rfl, h1⟩
  have z1 := h1.size
  simp at z1
  have b1 := hal.out.trans (h1.mono (by simp; omega))
  have x0 : w1.cell? ⟨w.heap.size, 0, none⟩ = some (.slice A n c) := (h1.cell (p := ⟨w.heap.size, 0, none⟩) (by simp; omega)).trans ((cell_al (by simp)).trans (cellm (heap_alloc_new w _) 0))
  have x1 : w1.cell? ⟨w.heap.size, 1, none⟩ = some (.slice A2 n2 c2) := (h1.cell (p := ⟨w.heap.size, 1, none⟩) (by simp; omega)).trans ((cell_al (by simp)).trans (cellm (heap_alloc_new w _) 1))
  have y1 : w1.cell? ⟨w.heap.size + 1, 1, none⟩ = some (.slice Ak x.2.length ck) := (h1.cell (p := ⟨w.heap.size + 1, 1, none⟩) (by simp)).trans (by simp)
  have k1 := hc2.out w1 b1
  replace k1 := Lib.hid k1
  replace b1 := Lib.hid b1
  clear h1 hal k0 hc2
  cases hq : takesOk n x.1 with
  | false =>
    replace hq := Lib.hid hq
    clear x0 x1 y1
    go_wp2_with fail
    go_ret
    exact ⟨by rw [hq.out]; rfl, b1.out⟩
  | true =>
    replace hq := Lib.hid hq
    go_wp2_with fail
    refine k1.out.mono ?_
    rintro e w2 ⟨rfl, h2⟩
    have b2 := b1.out.trans (h2.mono b1.out.size)
    clear x0 x1 y1
    go_wp2_with fail
    go_ret
    exact ⟨by rw [hq.out]; rfl, b2⟩

theorem rowOk1_calls (b : Nat) (A A2 Ai Ak : Option Addr) (n c n2 c2 ci ck : Nat) (x : Ordr) (B : Nat) (w0 w : World) (hb : Below B w0 w) (hB : B ≤ w.heap.size) (h : OrdIs B w0 Ai ci Ak ck x) (x0 : w.cell? ⟨b, 0, none⟩ = some (.slice A n c)) (x1 : w.cell? ⟨b, 1, none⟩ = some (.slice A2 n2 c2)) (hbl : b < w.heap.size) :
    Calls Try.prog 137 #[.agg #[.slice Ai x.1.length ci, .slice Ak x.2.length ck], .pointer (some ⟨b, 0, none⟩)] w fun e w' => e = .returned (.bool (!fitO n x)) ∧ Below w.heap.size w w' := by
  have hal := below_al (Below.refl w.heap.size w) (.cells #[.slice Ai x.1.length ci, .slice Ak x.2.length ck] 116 (0, 0))
  have k0 := ofits_calls A A2 Ai Ak n c n2 c2 ci ck x B w0 _ (below_up' hb hB hal) (Nat.le_trans hB hal.size) h
  generalize fitO n x = r at *
  replace k0 := Lib.hid k0
  replace hal := Lib.hid hal
  clear h hb
  go_enter Try.func137, Try.ntmps137
  go_wp2_with fail
  refine k0.out.mono ?_
  rintro e w1 ⟨rfl, h1⟩
  have b1 := hal.out.trans (h1.mono hal.out.size)
  clear x0 x1
  go_wp2_with fail
  go_ret
  exact ⟨rfl, b1⟩

set_option maxHeartbeats 1000000 in
theorem rowOk_calls (Am At Ao : Option Addr) (cm ct co : Nat) (made : List Bool) (tasks : List Task) (l : List Ordr) (B : Nat) (w0 w : World) (hb : Below B w0 w) (hB : B ≤ w.heap.size) (hs : SheetAt B w0 Am cm At ct made tasks) (hl : l.length ≤ maxLen) (hx : OrdsAt B w0 Ao l) :
    Calls Try.prog 93 #[.agg #[.slice Am made.length cm, .slice At tasks.length ct], .slice Ao l.length co] w fun e w' => e = .returned (.bool (rowOkP made tasks l)) ∧ Below w.heap.size w w' := by
  have hal := below_al (Below.refl w.heap.size w) (.cells #[.slice Am made.length cm, .slice At tasks.length ct] 31 (0, 0))
  have k0 := sheetSafe_calls Am At cm ct made tasks B w0 _ (below_up' hb hB hal) (Nat.le_trans hB hal.size) hs
  have hc := fun w1 (hw : Below w.heap.size w w1) (x0 : w1.cell? ⟨w.heap.size, 0, none⟩ = some (.slice Am made.length cm)) (x1 : w1.cell? ⟨w.heap.size, 1, none⟩ = some (.slice At tasks.length ct)) (hz : w.heap.size < w1.heap.size) =>
    ocontainsFunc_calls (fun x => !fitO made.length x) 137 #[] #[.pointer (some ⟨w.heap.size, 0, none⟩)] (enters_of Try.func137 (by kernel_rfl) rfl) Ao co l B w0 w1 (below_up' hb hB hw) (Nat.le_trans hB hw.size) hl hx
      (fun x w' Ai ci Ak ck _ hi h2 => by
        have := rowOk1_calls w.heap.size Am At Ai Ak made.length cm tasks.length ct ci ck x B w0 w' (below_up' (below_up' hb hB hw) (Nat.le_trans hB hw.size) h2) (Nat.le_trans hB (Nat.le_trans hw.size h2.size)) hi ((h2.cell (p := ⟨w.heap.size, 0, none⟩) hz).trans x0) ((h2.cell (p := ⟨w.heap.size, 1, none⟩) hz).trans x1) (by have := h2.size; omega)
        simpa using this)
  have hr : rowOkP made tasks l = (safeP made tasks && (decide ((l.length : Int) ≤ 6) && !(l.any fun x => !fitO made.length x))) := by
    unfold rowOkP
    rw [Bool.and_assoc]
    congr 1
    rw [show (!(l.any fun x => !fitO made.length x)) = l.all (fitO made.length) by simp [List.any_eq_not_all_not]]
    congr 1
    rw [decide_eq_decide]; omega
  generalize rowOkP made tasks l = r at *
  generalize (l.any fun x => !fitO made.length x) = q at *
  subst hr
  unfold maxLen at hl
  replace k0 := Lib.hid k0
  replace hc := Lib.hid hc
  replace hal := Lib.hid hal
  clear hs hb hx
  go_enter Try.func93, Try.ntmps93
  go_wp2_with fail
  refine k0.out.mono ?_
  rintro e w1 ⟨rfl, h1⟩
  have z1 := h1.size
  simp at z1
  have b1 := hal.out.trans (h1.mono (by simp))
  cases hq : safeP made tasks with
  | false =>
    replace hq := Lib.hid hq
    go_wp2_with fail
    go_ret
    exact ⟨by rw [hq.out]; rfl, b1⟩
  | true =>
    replace hq := Lib.hid hq
    have x0 : w1.cell? ⟨w.heap.size, 0, none⟩ = some (.slice Am made.length cm) := (h1.cell (p := ⟨w.heap.size, 0, none⟩) (by simp)).trans (cellm (heap_alloc_new w _) 0)
    have x1 : w1.cell? ⟨w.heap.size, 1, none⟩ = some (.slice At tasks.length ct) := (h1.cell (p := ⟨w.heap.size, 1, none⟩) (by simp)).trans (cellm (heap_alloc_new w _) 1)
    by_cases h6 : (l.length : Int) ≤ 6
    · have k1 := hc.out w1 b1 x0 x1 (by omega)
      replace k1 := Lib.hid k1
      replace b1 := Lib.hid b1
      clear hc h1 x0 x1
      go_wp2_with fail
      refine k1.out.mono ?_
      rintro e w2 ⟨rfl, h2⟩
      have b2 := b1.out.trans (h2.mono b1.out.size)
      go_wp2_with fail
      go_ret
      exact ⟨by rw [hq.out, decide_eq_true h6]; rfl, b2⟩
    · replace b1 := Lib.hid b1
      clear hc h1 x0 x1
      go_wp2_with fail
      go_ret
      exact ⟨by rw [hq.out, decide_eq_false (by omega)]; rfl, b1.out⟩

set_option maxHeartbeats 2000000 in
theorem specRowOk_calls (Am At Ao : Option Addr) (cm ct co : Nat) (made : List Bool) (tasks : List Task) (l : List Ordr) (B : Nat) (w0 w : World) (hb : Below B w0 w) (hB : B ≤ w.heap.size) (hs : SheetAt B w0 Am cm At ct made tasks) (hnod : ∀ T ∈ tasks, nodes T ≤ 1000000000) (hml : (made.length : Int) ≤ 9223372036854775807) (hl : l.length ≤ maxLen) (hx : OrdsAt B w0 Ao l) :
    Calls Try.prog 94 #[.agg #[.slice Am made.length cm, .slice At tasks.length ct], .slice Ao l.length co] w fun e w' => e = .returned (.bool (rowOkP made tasks l)) ∧ Below w.heap.size w w' := by
  have hal := below_al (Below.refl w.heap.size w) (.cells #[.slice Am made.length cm, .slice At tasks.length ct] 31 (0, 0))
  have k0 := specSheetSafe_calls Am At cm ct made tasks B w0 _ (below_up' hb hB hal) (Nat.le_trans hB hal.size) hs hnod
  have hc1 := fun (w1 : World) (hw : Below w.heap.size w w1) (A : Option Addr) (c : Nat) (xs : List Int) (hm : xs.length ≤ maxLen) (h : IntsAt B w0 A xs) => l3Inputs_calls Am At A cm ct c made tasks xs B w0 w1 (below_up' hb hB hw) (Nat.le_trans hB hw.size) hs hnod hm h
  have hc2 := fun (w1 : World) (hw : Below w.heap.size w w1) (A : Option Addr) (c : Nat) (xs : List Int) (hm : xs.length ≤ maxLen) (h : IntsAt B w0 A xs) => l4Keys_calls Am At A cm ct c made tasks xs B w0 w1 (below_up' hb hB hw) (Nat.le_trans hB hw.size) hs hnod hml hm h
  have hso : safeP made tasks = true → sheetOk made tasks = true := fun h => by unfold safeP at h; rw [Bool.and_eq_true] at h; exact h.1
  have hr : rowOkP made tasks l = (safeP made tasks && decide (l.length ≤ 6) && l.all (fitO made.length)) := rfl
  have hm := hl
  unfold maxLen at hl
  by_cases h6 : 6 < l.length
  · have hr2 : rowOkP made tasks l = false := by rw [hr, decide_eq_false (by omega)]; simp
    rw [hr2]
    clear hr hr2 k0 hc1 hc2 hso hx hb hs
    replace hal := Lib.hid hal
    go_enter Try.func94, Try.ntmps94
    go_wp2_with fail
    go_ret
    exact ⟨rfl, hal.out⟩
  cases hsf : safeP made tasks with
  | false =>
    have hr2 : rowOkP made tasks l = false := by rw [hr, hsf]; rfl
    rw [hr2]
    rw [hsf] at k0
    replace k0 := Lib.hid k0
    clear hr hr2 hc1 hc2 hso hx hb hs hsf
    replace hal := Lib.hid hal
    go_enter Try.func94, Try.ntmps94
    go_wp2_with fail
    refine k0.out.mono ?_
    rintro e w1 ⟨rfl, h1⟩
    have b1 := hal.out.trans (h1.mono hal.out.size)
    go_wp2_with fail
    go_ret
    exact ⟨rfl, b1⟩
  | true =>
  have hok := hso hsf
  rw [hsf] at k0
  have hr2 : rowOkP made tasks l = l.all (fitO made.length) := by rw [hr, hsf]; simp; omega
  rw [hr2]
  simp only [inputsOk, hok, Bool.true_and, Bool.and_true] at hc1 hc2
  replace k0 := Lib.hid k0
  replace hc1 := Lib.hid hc1
  replace hc2 := Lib.hid hc2
  replace hx := Lib.hid hx
  replace hb := Lib.hid hb
  clear hr hr2 hso hs hsf hok hnod hml
  generalize hres : l.all (fitO made.length) = res
  replace hres := Lib.hid hres
  replace hal := Lib.hid hal
  go_enter Try.func94, Try.ntmps94
  go_wp2_with fail
  refine k0.out.mono ?_
  rintro e w1 ⟨rfl, h1⟩
  have z1 := h1.size
  simp at z1
  have x0 : w1.cell? ⟨w.heap.size, 0, none⟩ = some (.slice Am made.length cm) := (h1.cell (p := ⟨w.heap.size, 0, none⟩) (by simp)).trans (cellm (heap_alloc_new w _) 0)
  have x1 : w1.cell? ⟨w.heap.size, 1, none⟩ = some (.slice At tasks.length ct) := (h1.cell (p := ⟨w.heap.size, 1, none⟩) (by simp)).trans (cellm (heap_alloc_new w _) 1)
  have b1 := hal.out.trans (h1.mono hal.out.size)
  replace b1 := Lib.hid b1
  have hs0 : w.heap.size < w1.heap.size := z1
  clear h1 k0 hal
  go_wp2_with fail
  go_loopw [5] (fun i wr => ∃ (j : Nat), j ≤ l.length ∧ i = .int .i64 j ∧ Hid (∀ x ∈ l.take j, fitO made.length x = true) ∧ Hid (Below w1.heap.size w1 wr)) (fun i _ => l.length - (intOf i).toNat)
  case atStart => exact ⟨0, Nat.zero_le _, rfl, Lib.hid (by simp), Lib.hid (Below.refl _ _)⟩
  case round =>
    obtain ⟨j, hj, rfl, hyes, hw⟩ := hrel
    obtain ⟨w9, hw9⟩ : ∃ w9, w9 = wr := ⟨_, rfl⟩
    subst hw9
    have hww := b1.out.trans (hw.out.mono b1.out.size)
    have y0 := (hw.out.cell (p := ⟨w.heap.size, 0, none⟩) hs0).trans x0
    have y1 := (hw.out.cell (p := ⟨w.heap.size, 1, none⟩) hs0).trans x1
    have z91 := hw.out.size
    by_cases hlt : j < l.length
    · obtain ⟨b, o, Ai, ci, Ak, ck, rfl, hbl, c1, c2, hoi⟩ := hx.out.at (below_up' hb.out hB hww) (Nat.le_trans hB hww.size) j hlt
      have k1 := hc1.out w9.drew hww.drew Ai ci l[j].1 (Nat.le_trans hoi.il hoi.im) hoi.ia
      have hf : fitO made.length l[j] = (takesOk made.length l[j].1 && keysOk made.length l[j].2) := rfl
      have hts := List.take_succ_eq_append_getElem hlt
      have hs9 : w.heap.size < w9.heap.size := by omega
      generalize ht : takesOk made.length l[j].1 = tk at *
      generalize hkk : keysOk made.length l[j].2 = kk at *
      replace hf := Lib.hid hf
      replace k1 := Lib.hid k1
      replace hww := Lib.hid hww
      replace hts := Lib.hid hts
      have hfin : fitO made.length l[j] = false → res = false := fun h => by
        rw [← hres.out, List.all_eq_false]
        exact ⟨l[j], List.getElem_mem _, by rw [h]; simp⟩
      replace hfin := Lib.hid hfin
      cases tk with
      | false =>
        have hr := hfin.out hf.out
        subst hr
        replace ht := Lib.hid ht
        clear hfin hf hyes hts hoi hc1 hc2 hkk
        go_wp2_with fail
        first
          | go_region_law (first | (go_simp; go_at_call 84; refine k1.out.mono ?_; rintro e w10 ⟨rfl, h10⟩; replace h10 := Lib.hid h10))
          | fail "law"
        all_goals
          have hw10 := hww.out.drew.trans (h10.out.mono hww.out.size)
          replace hw10 := Lib.hid hw10
          clear h10 y0 y1 c1 c2
          go_wp2_with fail
          go_ret
          exact ⟨rfl, hw10.out⟩
      | true =>
        have k2 := fun (w10 : World) (h10 : Below w9.drew.heap.size w9.drew w10) => hc2.out w10 (hww.out.drew.trans (h10.mono hww.out.size)) Ak ck l[j].2 (Nat.le_trans hoi.kl hoi.km) hoi.ka
        rw [hkk] at k2
        replace k2 := Lib.hid k2
        replace ht := Lib.hid ht
        replace hkk := Lib.hid hkk
        clear hoi hc1 hc2
        go_wp2_with fail
        go_region_held3 (fun w' => w'.cell? ⟨w.heap.size, 0, none⟩ = some (.slice Am made.length cm) ∧ w'.cell? ⟨w.heap.size, 1, none⟩ = some (.slice At tasks.length ct) ∧ w'.cell? ⟨b, o + j * 2, none⟩ = some (.slice Ai l[j].1.length ci) ∧ w'.cell? ⟨b, o + j * 2 + 1, none⟩ = some (.slice Ak l[j].2.length ck)) (first | exact ⟨m1, m2, m3, m4⟩ | exact ⟨l1, l2, l3, l4⟩ | exact ⟨y0, y1, c1, c2⟩)
          (first
            | (go_at_call 55; refine (k2.out _ h10).mono ?_; rintro e w11 ⟨rfl, h11⟩; have s9' := Nat.lt_of_lt_of_le hs9 (show w9.heap.size ≤ w10.heap.size from h10.size); have sbl := Nat.lt_of_lt_of_le hbl (show w9.heap.size ≤ w10.heap.size from h10.size); have m1 := kept_cell h11 s9' l1; have m2 := kept_cell h11 s9' l2; have m3 := kept_cell h11 sbl l3; have m4 := kept_cell h11 sbl l4)
            | (go_at_call 84; refine k1.out.mono ?_; rintro e w10 ⟨rfl, h10⟩; have l1 := kept_cell h10 hs9 y0; have l2 := kept_cell h10 hs9 y1; have l3 := kept_cell h10 hbl c1; have l4 := kept_cell h10 hbl c2))
        all_goals
          have hw11 := hw.out.drew.trans ((h10.trans (h11.mono h10.size)).mono hw.out.size)
          have hb11 := hww.out.drew.trans ((h10.trans (h11.mono h10.size)).mono hww.out.size)
          replace hw11 := Lib.hid hw11
          replace hb11 := Lib.hid hb11
          clear h10 h11 l1 l2 l3 l4 m1 m2 m3 m4 y0 y1 c1 c2 k1 k2
          cases kk with
          | false =>
            have hr := hfin.out hf.out
            subst hr
            go_wp2_with fail
            go_ret
            exact ⟨rfl, hb11.out⟩
          | true =>
            have hy2 : ∀ x ∈ l.take (j + 1), fitO made.length x = true := fun x hx => by
              rw [hts.out, List.mem_append] at hx
              rcases hx with hx | hx
              · exact hyes.out x hx
              · rw [List.mem_singleton.1 hx]; exact hf.out
            replace hy2 := Lib.hid hy2
            go_wp2_with fail
            go_roundw
            case rel => exact ⟨j + 1, by omega, by go_num, hy2, hw11⟩
            case measure => simp [intOf]; omega
    · have : res = true := by
        rw [← hres.out, List.all_eq_true]
        intro x hx
        exact hyes.out x (by rw [List.take_of_length_le (by omega)]; exact hx)
      subst this
      go_wp2_with fail
      go_ret
      exact ⟨rfl, hww⟩
end Go.Proofs.Ytpccgdkidnkppaa
