import Derived.Lib.AppendZerosOnto
import Derived.ArgAppend
import Derived.OpenShut
import Derived.Test.YtkbblekengdhaaaPk1Told
import Derived.Test.YtkbblekengdhaaaPk8Told
import Derived.Test.YtkbblekengdhaaaPk10Told
import Derived.Test.YtkbblekengdhaaaPk11Told
import Derived.Test.YtkbblekengdhaaaPk12Told
import Derived.Test.YtkbblekengdhaaaPk15Told
set_option linter.unusedVariables false
set_option linter.unusedSimpArgs false
namespace Go.Proofs.Ytkbblekengdhaaa
open Go Go.RowKit

section
variable {P : Program} {w : World} {base : Nat} {e t tn : TypeId} {v : Value} {n : Nat} {xs : List Value}
theorem zeroCells_ints (k : Nat) : (Builtin.zeroCells (Value.int .i64 0).cells k) = (ints (List.replicate k 0)).toArray := by
  apply Array.ext'
  simp only [Builtin.zeroCells, Value.cells, ints, List.map_replicate]
  apply List.ext_getElem
  · simp
  · intro i h1 h2
    simp [Nat.mod_one]

/-- append(s, make([]int, k)...) onto a row of numbers that the call owns -/
theorem run_appZ (ty : TypeId) (k : Nat) (hE : ElemTy P t e (.int .i64 0) 1 8) (htn : P.underlying tn = some (.int .i64)) (hown : w.ownsRow base e 1 v n xs) (h0 : 0 < k) (h63 : n + k ≤ maxLen) (hbytes : (n + k) * 8 ≤ 140737488355328) (hbase : base ≤ w.heap.size) :
    ∃ v' w', (Builtin.append_ #[t, tn] ty #[v, .int .i64 k]).run P w = .ok v' w' ∧ w'.ownsRow base e 1 v' (n + k) (xs ++ ints (List.replicate k 0)) ∧ w.grownBy w' v.ownBlock := by
  obtain ⟨i, hi, hz0, hz1, hz2⟩ := info_parts hE.hi
  have ht := hE.ht
  have hlen : (xs ++ ints (List.replicate k 0)).length = (n + k) * 1 := by rw [List.length_append, hown.1]; simp [ints]
  have hk63 : (k : Int) ≤ 9223372036854775807 := by simp only [maxLen] at h63; omega
  have grown : ∀ (old : Nat), old < n + k → ∀ (row : Option Nat),
      (w.drew.alloc (.cells (xs.toArray ++ Builtin.zeroCells (Value.int .i64 0).cells k ++ Builtin.zeroCells (Value.int .i64 0).cells (grownCap w (n + k) old e - (n + k))) e)).ownsRow base e 1
        (.slice (some ⟨w.heap.size, 0, none⟩) (n + k) (grownCap w (n + k) old e)) (n + k) (xs ++ ints (List.replicate k 0)) ∧
      w.grownBy (w.drew.alloc (.cells (xs.toArray ++ Builtin.zeroCells (Value.int .i64 0).cells k ++ Builtin.zeroCells (Value.int .i64 0).cells (grownCap w (n + k) old e - (n + k))) e)) row := by
    intro old ho row
    have hge := grownCap_ge w (n + k) old e
    have hcm : grownCap w (n + k) old e ≤ maxLen := grownCap_le_maxLen w (n + k) old e h63
    refine ⟨⟨hlen, .inr ⟨w.heap.size, _, _, rfl, hbase, heap_alloc_new w.drew _, hge, hcm, ?_, ?_⟩⟩, ⟨rfl, rfl, rfl, by simp, fun j hj _ => heap_old (w := w.drew) hj⟩⟩
    · have h1 := hown.1
      simp [Builtin.zeroCells, Value.cells, h1]
      omega
    · rw [zeroCells_ints, zeroCells_ints]
      simp only [Array.toList_append]
      rw [show (xs.toArray.toList ++ (ints (List.replicate k 0)).toArray.toList) = xs ++ ints (List.replicate k 0) by simp, ← hlen]
      exact List.take_left
  rcases hown.2 with ⟨rfl, rfl⟩ | ⟨g, cap, cur, rfl, hbg, hg, hnc, hcm, hcs, htake⟩
  · have hx : xs = [] := List.eq_nil_of_length_eq_zero (by simpa using hown.1)
    subst hx
    have hr := Lib.run_append_nil_zeros (P := P) w t tn ty e i (.int .i64 0) .i64 .i64 ht htn hi hz0 k h0 (by omega) hk63 (by rw [hz2]; omega)
    have hgr := grown 0 (by omega) (Value.ownBlock (.slice none 0 0))
    simp only [Nat.zero_add, List.nil_append, Array.empty_append] at hgr ⊢
    exact ⟨_, _, hr, hgr.1, hgr.2⟩
  · by_cases hroom : n + k ≤ cap
    · have hw : IntKind.i64.wrap (k : Int) = k := by rw [IntKind.wrap_i64]; omega
      have hneg : ¬ ((k : Int) < 0) := by omega
      have h48i : ¬ (281474976710656 < (k : Int) * 8) := by omega
      have hk0 : ¬ (k = 0) := by omega
      have hst := run_storeCells_at P g n e (ints (List.replicate k 0)) 0 cur w hg (by simp [ints]; omega) (by intro u hu; obtain ⟨x, _, rfl⟩ := List.mem_map.1 hu; rfl)
      simp only [Nat.add_zero] at hst
      have hr : (Builtin.append_ #[t, tn] ty #[.slice (some ⟨g, 0, none⟩) n cap, .int .i64 k]).run P w = .ok (.slice (some ⟨g, 0, none⟩) (n + k) cap) (w.setRow g (cur.toList.take n ++ ints (List.replicate k 0) ++ cur.toList.drop (n + (ints (List.replicate k 0)).length)).toArray) := by
        simp [Builtin.append_, run_underlying ht, run_underlying htn, sizeOf, typeInfo, zeroValue, hi, hz0, hz1, hz2, asInt, asIntOf, hw, hneg, h48i, hk0, hroom, Addr.add_lit, zeroCells_ints, hst]
      refine ⟨_, _, hr, ⟨hlen, .inr ⟨g, cap, _, rfl, hbg, setRow_heap w g cur _ e _ hg, hroom, hcm, ?_, ?_⟩⟩, ⟨rfl, rfl, rfl, by simp, fun j _ hj => setRow_other w g j _ (fun e => hj (by simp [Value.ownBlock, e]))⟩⟩
      · simp only [List.size_toArray, List.length_append, List.length_take, List.length_drop, Array.length_toList, ints, List.length_map, List.length_replicate]
        omega
      · have hn1 : cur.toList.take n = xs := by simpa using htake
        rw [hn1, ← hlen]
        exact List.take_left
    · have hold : (Builtin.firstCells i.size n (.slice (some ⟨g, 0, none⟩) n cap)).run P w.drew = .ok xs.toArray w.drew := by
        have holds : ∀ j u, xs[j]? = some u → w.drew.cell? ((⟨g, 0, none⟩ : Addr).add j) = some u := fun j u h => by
          have := hown.cells (g := g) rfl j u h
          exact this
        rw [hz1]
        exact run_firstCells_some (P := P) w.drew 1 n ⟨g, 0, none⟩ n cap xs (by simpa using hown.1) holds
      have hr := Lib.run_append_grow_zeros (P := P) w t tn ty e i (.int .i64 0) .i64 .i64 ht htn hi hz0 (some ⟨g, 0, none⟩) n cap xs hold k h0 (by omega) (by omega) (by simp only [maxLen] at h63; omega) (by rw [hz2]; omega) (by rw [hz2]; exact growslice_fits (by omega) hbytes)
      have hgr := grown cap (by omega) (Value.ownBlock (.slice (some ⟨g, 0, none⟩) n cap))
      exact ⟨_, _, hr, hgr.1, hgr.2⟩
end

/-- a row of numbers that grows while bytes are read -/
structure MvSt (R : RdEnv) (w : World) (p : Nat) (xs : List Int) (v : Value) (wr : World) : Prop where
  rd : RdAt R p wr
  turn : Turn (· = R.g) (· = R.g) w wr
  own : wr.ownsRow w.heap.size 3 1 v xs.length (ints xs)
  glt : R.g < w.heap.size
  bw : R.B ≤ w.heap.size
section
variable {R : RdEnv} {w wr w2 : World} {v : Value} {p : Nat} {xs : List Int}
theorem MvSt.step (h : MvSt R w p xs v wr) {p2 : Nat} (rd : RdAt R p2 w2) (t : Turn (· = R.g) (· = R.g) wr w2) : MvSt R w p2 xs v w2 :=
  ⟨rd, h.turn.trans t, ownsRow_block h.own (fun i hi => t.block i (h.own.lt i hi).2 (fun e => by have := (h.own.lt i hi).1; have := h.glt; omega)), h.glt, h.bw⟩
theorem MvSt.grow (h : MvSt R w p xs v wr) {v' : Value} {ys : List Int} (hg : wr.grownBy w2 v.ownBlock) (ho : w2.ownsRow w.heap.size 3 1 v' (xs.length + ys.length) (ints xs ++ ints ys)) : MvSt R w p (xs ++ ys) v' w2 := by
  have hlt := h.own.lt
  have hz : w.heap.size ≤ wr.heap.size := h.turn.size
  have hb : Below w.heap.size wr w2 := (Below.refl w.heap.size wr).grown hg hz (fun k hk => (hlt k hk).1)
  refine ⟨⟨(hb.block _ h.glt).trans h.rd.blk, h.rd.below.trans (hb.mono h.bw), Nat.le_trans h.rd.size hb.size⟩, ?_, ?_, h.glt, h.bw⟩
  · exact ⟨hb.os.trans h.turn.os, hb.tape.trans h.turn.tape, hb.output.trans h.turn.output, Nat.le_trans hz hb.size, fun i hi hF => (hb.block i hi).trans (h.turn.block i hi hF), h.turn.fresh⟩
  · simpa [ints_append, ints] using ho
theorem MvSt.alloc (h : MvSt R w p xs v wr) (o : Obj) : MvSt R w p xs v (wr.alloc o) :=
  h.step (h.rd.up (below_al (Below.refl _ _) o)) ((Turn.refl _ _).alloc o)
end

end Go.Proofs.Ytkbblekengdhaaa

set_option linter.unusedVariables false
set_option linter.unusedSimpArgs false
namespace Go.Proofs.Ytkbblekengdhaaa
open Go Go.RowKit

theorem rowq {w : World} {B : Nat} {e : TypeId} {v : Value} {xs : List Int} (ho : w.ownsRow B e 1 v xs.length (ints xs)) {q : Nat} (hq : q < xs.length) : ∃ g c, v = .slice (some ⟨g, 0, none⟩) xs.length c ∧ (∃ u, w.cell? ⟨g, q, none⟩ = some u) ∧ w.frozen? ⟨g, q, none⟩ = false ∧ g < w.heap.size ∧ B ≤ g ∧ xs.length ≤ c ∧ c ≤ maxLen := by
  obtain ⟨h1, ⟨rfl, h0⟩ | ⟨g, cap, cur, rfl, hb, hg, hn, hc, hs, ht⟩⟩ := ho
  · omega
  · refine ⟨g, cap, rfl, ⟨cur[q]'(by omega), ?_⟩, frozenm hg q, block_lt hg, hb, hn, hc⟩
    rw [cellm hg]
    simp

set_option maxHeartbeats 2000000 in
theorem l91More_calls (R : RdEnv) (hR : R.Good) (p : Nat) (hp : p + 100 ≤ 1000000) (Ai : Option Addr) (ci : Nat) (xs : List Int) (w : World) (h : RdAt R p w) (hl : xs.length ≤ 100) (hi : IntsAt w.heap.size w Ai xs) :
    Calls Try.prog 44 #[.pointer (some ⟨R.g, 0, none⟩), .slice Ai xs.length ci] w (DrawIn R p 7 xs.length w) := by
  have hal := below_al (Below.refl w.heap.size w) (.cells #[] 3 (0, 0))
  have hs : MvSt R w p [] (.slice (some ⟨w.heap.size, 0, none⟩) 0 0) (w.alloc (.cells #[] 3 (0, 0))) :=
    ⟨h.up (below_al (Below.refl _ _) _), (Turn.refl _ _).alloc _, by simpa [ints] using World.ownsRow_made (base := w.heap.size) w #[] 0 (by simp) (by simp [maxLen]) rfl, block_lt h.blk, h.size⟩
  replace hs := Lib.hid hs
  replace hi := Lib.hid hi
  replace hal := Lib.hid hal
  clear h
  go_enter Try.func44, Try.ntmps44
  go_wp2_with (at_builtin; go_loud (with_reducible refine wpList_appI (by rfl) (.tmp 7) (.tmp 8) (t := 28) (by rfl) intTy (by with_unfolding_all rfl) hs.out.own (by with_unfolding_all rfl) hi.out hal.out hal.out.size ?_ ?_ ?_ ?_))
  · unfold maxLen; simp; omega
  · simp; omega
  · exact hal.out.size
  intro v' w1 hown hgrow hat
  have hs1 := hs.out.grow hgrow (ys := xs) (by simpa using hown)
  rw [List.nil_append] at hs1
  have h1 := pick_calls R hR p (by omega) 3 _ hs1.rd
  replace h1 := Lib.hid h1
  replace hs1 := Lib.hid hs1
  clear hown hgrow hat hs hi hal
  go_wp2_with fail
  refine h1.out.mono ?_
  rintro e w2 ⟨k, rfl, hk0, hk1, hr, ht⟩
  obtain ⟨q, rfl⟩ := Int.eq_ofNat_of_zero_le hk0
  have hq3 : q < 3 := by omega
  have hs2 := hs1.out.step hr ht
  replace hs2 := Lib.hid hs2
  clear h1 hs1 hr ht hk1 hk0
  go_wp2_with fail
  obtain ⟨Ao, co, rfl, -⟩ := ownsRow_cells hs2.out.own
  go_loopw [6] (fun i wr => ∃ (t : Nat) (ys : List Int) (p2 : Nat), t ≤ 2 ∧ ys.length = xs.length ∧ p2 + 2 * t ≤ p + 5 ∧ p ≤ p2 ∧ i = .int .i64 t ∧ Hid (MvSt R w p2 ys (.slice Ao xs.length co) wr)) (fun i _ => (intOf i).toNat)
  case atStart => exact ⟨q, xs, p + 1, by omega, rfl, by omega, by omega, by go_num, hs2⟩
  case round =>
    obtain ⟨t, ys, p2, ht3, hlen, hp2, hpp, rfl, hL⟩ := hrel
    by_cases hgo : 0 < t ∧ 0 < xs.length
    · obtain ⟨ht0, hx00⟩ := hgo
      have hy0 : 0 < ys.length := by omega
      have hc := pick_calls R hR p2 (by omega) xs.length wr hL.out.rd
      obtain ⟨g, cy, e0, -, -, hglt, hgb, hyc, hym⟩ := rowq hL.out.own hy0
      rw [hlen] at e0
      cases e0
      replace hc := Lib.hid hc
      unfold maxLen at hym
      replace hlen := Lib.hid hlen
      go_wp2_with fail
      refine hc.out.mono ?_
      rintro e w3 ⟨x, rfl, hx0, hx1, hr3, ht3'⟩
      obtain ⟨q3, rfl⟩ := Int.eq_ofNat_of_zero_le hx0
      have hq3' : q3 < ys.length := by have := hlen.out; omega
      have hq3x : q3 < xs.length := by omega
      have hL3 := hL.out.step hr3 ht3'
      have hc3 := pick_calls R hR (p2 + 1) (by omega) 4 w3 hL3.rd
      replace hc3 := Lib.hid hc3
      replace hL3 := Lib.hid hL3
      clear hc hr3 ht3' hL
      go_wp2_with fail
      refine hc3.out.mono ?_
      rintro e w4 ⟨x4, rfl, hx40, hx41, hr4, ht4⟩
      have hL4 := hL3.out.step hr4 ht4
      obtain ⟨g', cy', e1, ⟨u, hu⟩, hf, hgl4, -⟩ := rowq hL4.own hq3'
      rw [hlen.out] at e1
      cases e1
      have hL4o := hL4.own
      rw [← hlen.out] at hL4o
      have hset := ownsRow_set hL4o q3 (.int .i64 x4) hq3'
      have hL5 : MvSt R w (p2 + 1 + 1) (ys.set q3 x4) (.slice (some ⟨g, 0, none⟩) xs.length co) (w4.setCell ⟨g, q3, none⟩ (.int .i64 x4)) := by
        have hwz := hL4.turn.size
        have hgw := (hL4.own.lt g rfl).1
        have hb : Below w.heap.size w4 (w4.setCell ⟨g, q3, none⟩ (.int .i64 x4)) := (Below.refl _ _).setCell (p := ⟨g, q3, none⟩) hgw _
        refine ⟨⟨(hb.block _ hL4.glt).trans hL4.rd.blk, hL4.rd.below.trans (hb.mono hL4.bw), Nat.le_trans hL4.rd.size hb.size⟩, ?_, ?_, hL4.glt, hL4.bw⟩
        · exact ⟨hb.os.trans hL4.turn.os, hb.tape.trans hL4.turn.tape, hb.output.trans hL4.turn.output, Nat.le_trans hwz hb.size, fun i hi hF => (hb.block i hi).trans (hL4.turn.block i hi hF), hL4.turn.fresh⟩
        · rw [← hlen.out]; simpa [ints, List.map_set] using hset
      replace hL5 := Lib.hid hL5
      clear hset hL4 hL4o hL3 hc3 hr4 ht4
      go_wp2_with fail
      go_roundw
      case rel => exact ⟨t - 1, ys.set q3 x4, p2 + 1 + 1, by omega, by have := hlen.out; simp [this], by omega, by omega, by go_num, by simpa using hL5⟩
      case measure => simp [intOf]; omega
    · have hcase : (¬ 0 < t) ∨ (0 < t ∧ xs.length = 0) := by omega
      rcases hcase with hq1 | ⟨hq1, hq2⟩
      · replace hlen := Lib.hid hlen
        clear hgo
        go_wp2_with fail
        go_ret
        exact ⟨p2, ys, _, rfl, by have := hlen.out; omega, by omega, by omega, hL.out.rd, hL.out.turn, hL.out.own⟩
      · have hxs : xs = [] := List.eq_nil_of_length_eq_zero hq2
        subst hxs
        replace hlen := Lib.hid hlen
        clear hgo hq2
        go_wp2_with fail
        go_ret
        exact ⟨p2, ys, _, rfl, by have := hlen.out; omega, by omega, by omega, hL.out.rd, hL.out.turn, hL.out.own⟩
end Go.Proofs.Ytkbblekengdhaaa

set_option linter.unusedVariables false
set_option linter.unusedSimpArgs false
namespace Go.Proofs.Ytkbblekengdhaaa
open Go Go.RowKit

/-- a row of numbers wherever in its block, with what is spare behind it -/
def SpR (base : Nat) (w : World) (u : Value) (xs : List Int) : Prop :=
  (xs = [] ∧ ∃ A, u = .slice A 0 0 ∧ (A = none ∨ ∃ g off, A = some ⟨g, off, none⟩ ∧ base ≤ g ∧ g < w.heap.size)) ∨
  ∃ g off c cur, u = .slice (some ⟨g, off, none⟩) xs.length c ∧ 0 < c ∧ xs.length ≤ c ∧ c ≤ maxLen ∧ base ≤ g ∧ w.heap[g]? = some (.cells cur 3 (0, 0)) ∧ off + c ≤ cur.size ∧ ∀ q (h : q < xs.length), cur[off + q]? = some (Value.int .i64 xs[q])
section
variable {base : Nat} {w w2 : World} {u : Value} {xs : List Int}
theorem SpR.rd (h : SpR base w u xs) : RdR base w u xs := by
  rcases h with ⟨rfl, A, rfl, -⟩ | ⟨g, off, c, cur, rfl, -, h1, h2, h3, h4, h5, h6⟩
  · exact ⟨A, 0, rfl, Nat.le_refl _, by simp [maxLen], .inl rfl⟩
  · exact ⟨_, c, rfl, h1, h2, .inr ⟨g, off, cur, rfl, h3, h4, h6⟩⟩
theorem SpR.form (h : SpR base w u xs) : ∃ A c, u = .slice A xs.length c ∧ xs.length ≤ c ∧ c ≤ maxLen := by
  obtain ⟨A, c, h1, h2, h3, -⟩ := h.rd
  exact ⟨A, c, h1, h2, h3⟩
theorem SpR.keep (h : SpR base w u xs) (hk : ∀ i, base ≤ i → i < w.heap.size → w2.heap[i]? = w.heap[i]?) (hs : w.heap.size ≤ w2.heap.size) : SpR base w2 u xs := by
  rcases h with ⟨rfl, A, rfl, h⟩ | ⟨g, off, c, cur, rfl, h0, h1, h2, h3, h4, h5, h6⟩
  · exact .inl ⟨rfl, A, rfl, h.imp id fun ⟨g, off, a, b, c⟩ => ⟨g, off, a, b, Nat.lt_of_lt_of_le c hs⟩⟩
  · exact .inr ⟨g, off, c, cur, rfl, h0, h1, h2, h3, (hk g h3 (block_lt h4)).trans h4, h5, h6⟩
theorem SpR.lt (h : SpR base w u xs) : ∀ i, u.ownBlock = some i → base ≤ i ∧ i < w.heap.size := by
  intro i hi
  rcases h with ⟨rfl, A, rfl, h⟩ | ⟨g, off, c, cur, rfl, h0, h1, h2, h3, h4, h5, h6⟩
  · rcases h with rfl | ⟨g, off, rfl, h1, h2⟩
    · cases hi
    · have e := Option.some.inj (show some g = some i from hi); omega
  · have e := Option.some.inj (show some g = some i from hi)
    have := block_lt h4
    omega
theorem SpR.own (h : w.ownsRow base 3 1 u xs.length (ints xs)) : SpR base w u xs := by
  have hlt := h.lt
  obtain ⟨h1, ⟨rfl, h0⟩ | ⟨g, cap, cur, rfl, hb, hg, hn, hc, hs, ht⟩⟩ := h
  · exact .inl ⟨List.eq_nil_of_length_eq_zero h0, none, rfl, .inl rfl⟩
  · by_cases h0 : cap = 0
    · have hx : xs = [] := List.eq_nil_of_length_eq_zero (by omega)
      subst hx h0
      exact .inl ⟨rfl, _, rfl, .inr ⟨g, 0, rfl, hb, block_lt hg⟩⟩
    · refine .inr ⟨g, 0, cap, cur, rfl, by omega, hn, hc, hb, hg, by omega, fun q hq => ?_⟩
      have h2 : (ints xs)[q]? = some (Value.int .i64 xs[q]) := by simp [ints, hq]
      rw [← h2, ← ht, List.getElem?_take_of_lt (by omega), Array.getElem?_toList, Nat.zero_add]
/-- without its first number -/
theorem SpR.tail {x : Int} {ys : List Int} (h : SpR base w u (x :: ys)) : ∃ g off c off2, u = .slice (some ⟨g, off, none⟩) (ys.length + 1) c ∧ ys.length + 1 ≤ c ∧ c ≤ maxLen ∧
    (∀ W, (Instr.slice 28 (.slice (some ⟨g, off, none⟩) (ys.length + 1) c) (some (.int .i64 1)) none none).run Try.prog W = .ok (.slice (some ⟨g, off2, none⟩) ys.length (c - 1)) W) ∧
    (∀ W, (Instr.sliceAt 28 (.slice (some ⟨g, off, none⟩) (ys.length + 1) c) (some (.int .i64 1)) none none).run Try.prog W = .ok (.slice (some ⟨g, off2, none⟩) ys.length (c - 1)) W) ∧
    SpR base w (.slice (some ⟨g, off2, none⟩) ys.length (c - 1)) ys := by
  rcases h with ⟨h, -⟩ | ⟨g, off, c, cur, rfl, h0, h1, h2, h3, h4, h5, h6⟩
  · cases h
  have hn : ys.length + 1 ≤ c := by simpa using h1
  have hE : Try.prog.elem 28 = 3 := by simp [Program.elem, Try.underlying28]
  have ht : Try.prog.underlying 28 = some (.slice (Try.prog.elem 28)) := by rw [hE]; exact Try.underlying28
  have hz : ∀ W, (sizeOf 3).run Try.prog W = .ok 1 W := fun W => by kernel_rfl
  have hs : ∀ W, (Instr.slice 28 (.slice (some ⟨g, off, none⟩) (ys.length + 1) c) (some (.int .i64 1)) none none).run Try.prog W = .ok (.slice (some ⟨g, if c = 1 then off else off + 1, none⟩) ys.length (c - 1)) W := fun W => by
    rw [run_slice_l W 28 _ _ _ ht .i64 1 (by omega) (by omega), hE, hz]
    by_cases h : c = 1
    · simp [Result.andThen, sliced, h]
    · simp [Result.andThen, sliced, Addr.add, h]
  refine ⟨g, off, c, if c = 1 then off else off + 1, by simp, hn, h2, hs, fun W => by rw [run_sliceAt_slice W _ _ _ _ _ ht]; exact hs W, ?_⟩
  by_cases hc1 : c = 1
  · have hy : ys = [] := List.eq_nil_of_length_eq_zero (by omega)
    subst hy
    simp only [hc1, if_true]
    exact .inl ⟨rfl, _, rfl, .inr ⟨g, off, rfl, h3, block_lt h4⟩⟩
  · simp only [if_neg hc1]
    refine .inr ⟨g, off + 1, c - 1, cur, rfl, by omega, by omega, by omega, h3, h4, by omega, fun q hq => ?_⟩
    have := h6 (q + 1) (by simpa using hq)
    rw [show off + 1 + q = off + (q + 1) by omega, this]; simp
/-- 'append(u, x)' -/
theorem wpList_appS {ops : Array Oper} {rest : List Oper} {o : Oper} {a : Act} {Q : Exit → Act → World → Prop} (hgd : o.guard = none) (s x : Operand)
    (ho : o.op = .call { callee := .builtin .append, args := #[s, x], argTypes := #[28, 28] }) (hs : a.eval s = u) (h : SpR base w u xs)
    (N c : Nat) (k : Int) (hx : a.eval x = .slice (some ⟨N, 0, none⟩) 1 c) (hN : ∃ cs fr, w.heap[N]? = some (.cells cs 3 fr) ∧ cs.toList = [.int .i64 k]) (hl : xs.length ≤ 1048576) (hb : base ≤ w.heap.size)
    (hK : ∀ A' c' w', SpR base w' (.slice A' (xs.length + 1) c') (xs ++ [k]) → w.grownBy w' u.ownBlock → wpList Try.prog ops Q rest (a.put o.dst (.slice A' (xs.length + 1) c')) w') : wpList Try.prog ops Q (o :: rest) a w := by
  obtain ⟨cs, fr, hN1, hN2⟩ := hN
  have hnews : ∀ j v, [Value.int .i64 k][j]? = some v → w.cell? ((⟨N, 0, none⟩ : Addr).add j) = some v := fun j v hj => by
    rw [Addr.add_lit, cellm hN1, Nat.zero_add, ← Array.getElem?_toList, hN2]; exact hj
  obtain ⟨i, hi, hz, hsz, hby⟩ := info_parts intTy.hi
  have hgrow : ∀ v' w', w'.ownsRow w.heap.size 3 1 v' (xs.length + 1) (ints xs ++ [.int .i64 k]) → w.grownBy w' none → wpList Try.prog ops Q rest (a.put o.dst v') w' := fun v' w' h1 h2 => by
    have h3 : w'.ownsRow base 3 1 v' (xs ++ [k]).length (ints (xs ++ [k])) := by
      rw [ints_append]; simpa [ints] using own_low2 h1 hb
    obtain ⟨A', c', e, -, -, -⟩ := ownsRow_ints h3
    have e2 : v' = .slice A' (xs.length + 1) c' := by rw [e]; simp
    subst e2
    exact hK A' c' w' (SpR.own h3) ⟨h2.os, h2.tape, h2.output, h2.size, fun q hq _ => h2.block q hq (by simp)⟩
  rcases h with ⟨rfl, A, rfl, hA⟩ | ⟨g, off, cp, cur, rfl, h0, h1, h2, h3, h4, h5, h6⟩
  · rcases hA with rfl | ⟨g, off, rfl, hg1, hg2⟩
    · exact wpList_append_grows w hgd s x 28 ho 3 i (.int .i64 0) 1 8 Try.underlying28 hi hz hsz hby (by simp [Value.cells]) (by omega) none 0 0 [] hs (fun _ => ⟨rfl, rfl⟩) (by simp) (fun b e => by cases e) ⟨N, 0, none⟩ 1 c [.int .i64 k] hx (by simp) hnews (fun v hv => by simp at hv; rw [hv]; rfl) (by omega) (by simp [maxLen]) (by omega) (by simpa [ints] using hgrow)
    · exact wpList_append_grows w hgd s x 28 ho 3 i (.int .i64 0) 1 8 Try.underlying28 hi hz hsz hby (by simp [Value.cells]) (by omega) (some ⟨g, off, none⟩) 0 0 [] hs (fun e => by cases e) (by simp) (fun b e j v hj => by simp at hj) ⟨N, 0, none⟩ 1 c [.int .i64 k] hx (by simp) hnews (fun v hv => by simp at hv; rw [hv]; rfl) (by omega) (by simp [maxLen]) (by omega) (by simpa [ints] using hgrow)
  · refine wpList_append_arg w hgd s x 28 ho 3 i (.int .i64 0) 1 8 Try.underlying28 hi hz hsz hby (by simp [Value.cells]) (by omega) g off xs.length cp (ints xs) hs (by simp [ints]) (fun j v hj => ?_) ⟨N, 0, none⟩ 1 c [.int .i64 k] hx (by simp) hnews (fun v hv => by simp at hv; rw [hv]; rfl) (fun hle j hj => ?_) (by unfold maxLen; omega) (by omega) (fun hle => ?_) (fun _ => hgrow)
    · have hjl : j < xs.length := by
        have := (List.getElem?_eq_some_iff.1 hj).1
        simpa [ints] using this
      rw [cellm h4, h6 j hjl]
      simpa [ints, hjl] using hj
    · have hj0 : j = 0 := by simpa using hj
      subst hj0
      refine ⟨?_, frozenm h4 _⟩
      rw [cellm h4, Array.getElem?_eq_getElem (by omega)]; rfl
    · have hset : w.setCells g (off + xs.length * 1) [.int .i64 k] = w.setCell ⟨g, off + xs.length, none⟩ (.int .i64 k) := by
        simp [World.setCells]
      rw [hset]
      have hblk := setCell_block h4 (off + xs.length) (.int .i64 k)
      refine hK _ _ _ (.inr ⟨g, off, cp, _, by simp, h0, by simpa using hle, h2, h3, hblk, by simpa using h5, fun q hq => ?_⟩) ?_
      · by_cases e : q = xs.length
        · subst e
          simp [Array.getElem?_setIfInBounds, show off + xs.length < cur.size by omega]
        · have hql : q < xs.length := by simp at hq; omega
          rw [Array.getElem?_setIfInBounds, if_neg (by omega), h6 q hql, List.getElem_append_left hql]
      · have t := setCell_turn (F := fun i => i = g) (w := w) (a := ⟨g, off + xs.length, none⟩) rfl (.int .i64 k)
        exact ⟨t.os, t.tape, t.output, t.size, fun q hq hne => t.block q hq (fun e => hne (by rw [e]; rfl))⟩
end
end Go.Proofs.Ytkbblekengdhaaa

set_option linter.unusedVariables false
set_option linter.unusedSimpArgs false
namespace Go.Proofs.Ytkbblekengdhaaa
open Go Go.RowKit

/-- what a draw of an order brings -/
def DrawOr (R : RdEnv) (p c m : Nat) (w : World) (e : Ending) (w' : World) : Prop :=
  ∃ p' ys vy ks vk, e = .returned (.agg #[vy, vk]) ∧ ys.length ≤ m ∧ ks.length ≤ 4 ∧ p ≤ p' ∧ p' ≤ p + c ∧ RdAt R p' w' ∧ Turn (· = R.g) (· = R.g) w w' ∧ w'.ownsRow w.heap.size 3 1 vy ys.length (ints ys) ∧ w'.ownsRow w.heap.size 3 1 vk ks.length (ints ks)

theorem RdAt.set {R : RdEnv} {p b : Nat} {w : World} (h : RdAt R p w) (hb : R.B ≤ b) (hg : R.g ≠ b) (o : Nat) (v : Value) : RdAt R p (w.setCell ⟨b, o, none⟩ v) :=
  ⟨(setCell_far hg).trans h.blk, h.below.setCell (p := ⟨b, o, none⟩) hb v, by simpa using h.size⟩

theorem Turn.after {F F' : Nat → Prop} {w w1 w2 : World} (t : Turn F F' w w1) (hb : Below w.heap.size w1 w2) : Turn F F' w w2 :=
  ⟨hb.os.trans t.os, hb.tape.trans t.tape, hb.output.trans t.output, Nat.le_trans t.size hb.size, fun i hi hF => (hb.block i hi).trans (t.block i hi hF), t.fresh⟩

end Go.Proofs.Ytkbblekengdhaaa

set_option linter.unusedVariables false
set_option linter.unusedSimpArgs false
namespace Go.Proofs.Ytkbblekengdhaaa
open Go Go.RowKit

/-- what a draw of told keys brings -/
def DrawTd (R : RdEnv) (p c n : Nat) (w : World) (e : Ending) (w' : World) : Prop :=
  ∃ p' ll v vs, e = .returned v ∧ ll.length ≤ n + 1 ∧ (∀ x ∈ ll, List.length x ≤ 11) ∧ p ≤ p' ∧ p' ≤ p + c ∧ RdAt R p' w' ∧ Turn (· = R.g) (· = R.g) w w' ∧ OwnRd w.heap.size w' v vs ll
/-- between two keys -/
structure TdSt (R : RdEnv) (w : World) (bx : Array Value) (p : Nat) (ll : List (List Int)) (v : Value) (vs : List Value) (wr : World) : Prop where
  rd : RdAt R p wr
  turn : Turn (· = R.g) (· = R.g) w wr
  own : OwnRd w.heap.size wr v vs ll
  box : wr.heap[w.heap.size]? = some (.cells bx 26 (0, 0))
  small : ∀ x ∈ ll, List.length x ≤ 11
  glt : R.g < w.heap.size
  bw : R.B ≤ w.heap.size
/-- within the round of a key that began in w9 -/
structure TdIn (R : RdEnv) (w : World) (bx : Array Value) (p0 p : Nat) (ll : List (List Int)) (v : Value) (vs : List Value) (w9 : World) (u : Value) (xs : List Int) (wr : World) : Prop where
  st : TdSt R w bx p0 ll v vs w9
  rd : RdAt R p wr
  turn : Turn (· = R.g) (· = R.g) w9 wr
  sp : SpR w9.heap.size wr u xs
section
variable {R : RdEnv} {w : World} {bx : Array Value} {p0 p : Nat} {ll : List (List Int)} {v : Value} {vs : List Value} {w9 : World} {u : Value} {xs : List Int} {wr w2 : World}
theorem RdR.low {base base' : Nat} (h : RdR base w u xs) (hb : base' ≤ base) : RdR base' w u xs := by
  obtain ⟨A, c, h1, h2, h3, h4⟩ := h
  exact ⟨A, c, h1, h2, h3, h4.imp id fun ⟨g, off, cur, a, b, c⟩ => ⟨g, off, cur, a, by omega, c⟩⟩
theorem TdSt.sz (h : TdSt R w bx p ll v vs wr) : w.heap.size < wr.heap.size := block_lt h.box
theorem TdSt.g9 (h : TdSt R w bx p ll v vs wr) : R.g < wr.heap.size := by have := h.sz; have := h.glt; omega
theorem TdSt.step (h : TdSt R w bx p ll v vs wr) {p2 : Nat} (hr : RdAt R p2 w2) (ht : Turn (· = R.g) (· = R.g) wr w2) : TdSt R w bx p2 ll v vs w2 :=
  ⟨hr, h.turn.trans ht, h.own.keep fun i h1 h2 => ht.block i h2 (fun e => by have := h.glt; omega), (ht.block _ (block_lt h.box) (fun e => by have := h.glt; omega)).trans h.box, h.small, h.glt, h.bw⟩
theorem TdSt.alloc (h : TdSt R w bx p ll v vs wr) (o : Obj) : TdSt R w bx p ll v vs (wr.alloc o) :=
  h.step (h.rd.up (below_al (Below.refl _ _) o)) ((Turn.refl _ _).alloc o)
theorem TdSt.app (h : TdSt R w bx p ll v vs wr) {o : Obj} {x v' : Value} (hx : RdR w.heap.size wr x xs) (hxl : xs.length ≤ 11) (hg : (wr.alloc o).grownBy w2 v.ownBlock) (ho : w2.ownsRow w.heap.size 28 1 v' (ll.length + 1) (vs ++ [x])) (hv : ∀ i, v'.ownBlock = some i → v.ownBlock = some i ∨ wr.heap.size ≤ i) : TdSt R w bx p (ll ++ [xs]) v' (vs ++ [x]) w2 := by
  have hgl := h.glt
  have hvl := fun i (hi : v.ownBlock = some i) => (h.own.out.lt i hi).1
  have hsz := h.sz
  have hbig := hg.size
  simp at hbig
  refine ⟨⟨(far_grown hg h.g9 (fun e => by have := hvl _ e; omega)).trans h.rd.blk, ?_, by have := h.bw; omega⟩, ?_, h.own.app hx hg ho, (far_grown hg (block_lt h.box) (ownsRow_ne h.own.out h.box (fun c e => by cases e))).trans h.box, fun y hy => ?_, h.glt, h.bw⟩
  · exact (below_al' h.rd.below o h.rd.size).grown hg (by have := h.rd.size; simp; omega) (fun i hi => by have := hvl i hi; have := h.bw; omega)
  · have t := (h.turn.alloc o)
    exact ⟨hg.os.trans t.os, hg.tape.trans t.tape, hg.output.trans t.output, by omega, fun i hi hF => (far_grown hg (by omega) (fun e => by have := hvl i e; omega)).trans (h.turn.block i hi hF), fun i hi => .inl hi⟩
  · rcases List.mem_append.1 hy with hy | hy
    · exact h.small y hy
    · rw [List.mem_singleton.1 hy]; exact hxl
theorem TdSt.alloc1 (h : TdSt R w bx p ll v vs wr) (o : Obj) : TdSt R w bx p ll v vs (wr.alloc o) := h.alloc o
theorem TdIn.alloc1 (h : TdIn R w bx p0 p ll v vs w9 u xs wr) (o : Obj) : TdSt R w bx p ll v vs (wr.alloc o) := (h.st.step h.rd h.turn).alloc o
theorem TdSt.app1 (h : TdSt R w bx p ll v vs wr) {k g cap : Nat} {o : Obj} {x : Value} (hk : ll.length = k) (hx : RdR w.heap.size wr x xs) (hxl : xs.length ≤ 11) (hg : (wr.alloc o).grownBy w2 v.ownBlock) (ho : w2.ownsRow w.heap.size 28 1 (.slice (some ⟨g, 0, none⟩) (k + 1) cap) (k + 1) (vs ++ [x])) (hv : v.ownBlock = some g ∨ g = wr.heap.size + 1) : TdSt R w bx p (ll ++ [xs]) (.slice (some ⟨g, 0, none⟩) (k + 1) cap) (vs ++ [x]) w2 := by
  subst hk
  refine h.app hx hxl hg ho fun i e => ?_
  have e2 : g = i := Option.some.inj (show some g = some i from e)
  subst e2
  exact hv.imp id fun h => by omega
theorem TdIn.step (h : TdIn R w bx p0 p ll v vs w9 u xs wr) {p2 : Nat} (hr : RdAt R p2 w2) (ht : Turn (· = R.g) (· = R.g) wr w2) : TdIn R w bx p0 p2 ll v vs w9 u xs w2 :=
  ⟨h.st, hr, h.turn.trans ht, h.sp.keep (fun i h1 h2 => ht.block i h2 (fun e => by have := h.st.g9; omega)) ht.size⟩
theorem TdIn.swap (h : TdIn R w bx p0 p ll v vs w9 u xs wr) {u2 : Value} {ys : List Int} (hs : SpR w9.heap.size wr u2 ys) : TdIn R w bx p0 p ll v vs w9 u2 ys wr := ⟨h.st, h.rd, h.turn, hs⟩
theorem TdIn.app (h : TdIn R w bx p0 p ll v vs w9 u xs wr) {o : Obj} {u2 : Value} {ys : List Int} (hs : SpR w9.heap.size w2 u2 ys) (hg : (wr.alloc o).grownBy w2 u.ownBlock) : TdIn R w bx p0 p ll v vs w9 u2 ys w2 := by
  have hul := fun i (hi : u.ownBlock = some i) => (h.sp.lt i hi).1
  have hg9 := h.st.g9
  have hz := h.turn.size
  have hbig := hg.size
  simp at hbig
  refine ⟨h.st, ⟨(far_grown hg (by omega) (fun e => by have := hul _ e; omega)).trans h.rd.blk, ?_, by have := h.rd.size; omega⟩, ?_, hs⟩
  · exact (below_al' h.rd.below o h.rd.size).grown hg (by have := h.rd.size; simp; omega) (fun i hi => by have := hul i hi; have := h.st.bw; have := h.st.sz; omega)
  · have t := (h.turn.alloc o)
    exact ⟨hg.os.trans t.os, hg.tape.trans t.tape, hg.output.trans t.output, by omega, fun i hi hF => (far_grown hg (by omega) (fun e => by have := hul i e; omega)).trans (h.turn.block i hi hF), fun i hi => .inl hi⟩
theorem TdIn.done (h : TdIn R w bx p0 p ll v vs w9 u xs wr) : TdSt R w bx p ll v vs wr := h.st.step h.rd h.turn
theorem TdIn.rdr (h : TdIn R w bx p0 p ll v vs w9 u xs wr) : RdR w.heap.size wr u xs := h.sp.rd.low (by have := h.st.sz; omega)
end

set_option maxRecDepth 5000 in
set_option maxHeartbeats 8000000 in
theorem l91Told_calls (R : RdEnv) (hR : R.Good) (p : Nat) (hp : p + 1000 ≤ 1000000) (Am At : Option Addr) (cm ct lo : Nat) (made : List Bool) (tasks : List Task) (w : World) (h : RdAt R p w) (hs : SheetAt w.heap.size (mask lo w) Am cm At ct made tasks) (hlo : R.g < lo) (hlen : tasks.length = made.length) (hm8 : made.length ≤ 8) (hnod : ∀ T ∈ tasks, nodes T ≤ 13) :
    Calls Try.prog 42 #[.pointer (some ⟨R.g, 0, none⟩), .agg #[.slice Am made.length cm, .slice At tasks.length ct]] w (DrawTd R p 50 made.length w) := by
  have hgl := block_lt h.blk
  have hbw := h.size
  have hal := below_al (below_al (Below.refl w.heap.size w) (.cells #[.slice Am made.length cm, .slice At tasks.length ct] 26 (0, 0))) (.cells #[] 28 (0, 0))
  have hm0 : ((w.alloc (.cells #[.slice Am made.length cm, .slice At tasks.length ct] 26 (0, 0))).alloc (.cells #[] 28 (0, 0))).ownsRow w.heap.size 28 1 (.slice (some ⟨w.heap.size + 1, 0, none⟩) 0 0) 0 [] := by
    simpa using World.ownsRow_made (base := w.heap.size) (e := 28) (size := 1) (w.alloc (.cells #[.slice Am made.length cm, .slice At tasks.length ct] 26 (0, 0))) #[] 0 (by simp) (by simp [maxLen]) rfl
  obtain ⟨bx, hbx⟩ : ∃ bx, bx = #[Value.slice Am made.length cm, Value.slice At tasks.length ct] := ⟨_, rfl⟩
  have hS : TdSt R w bx p [] (.slice (some ⟨w.heap.size + 1, 0, none⟩) 0 0) [] ((w.alloc (.cells #[.slice Am made.length cm, .slice At tasks.length ct] 26 (0, 0))).alloc (.cells #[] 28 (0, 0))) :=
    ⟨h.up hal, ((Turn.refl _ _).alloc _).alloc _, ⟨hm0, fun i hi => by simp at hi⟩, by rw [hbx]; exact (heap_old (by simp)).trans (heap_new rfl), fun x hx => (by cases hx), hgl, hbw⟩
  replace hS := Lib.hid hS
  replace hs := Lib.hid hs
  replace hnod := Lib.hid hnod
  replace hbx := Lib.hid hbx
  replace hlen := Lib.hid hlen
  clear h hm0 hal
  go_enter Try.func42, Try.ntmps42
  go_wp2_with fail
  go_loopw [5, 6, 7] (fun o i _ wr => ∃ (k : Nat) (ll : List (List Int)) (vs : List Value) (p2 : Nat), k ≤ made.length ∧ ll.length = k ∧ p2 ≤ p + 3 * k ∧ p ≤ p2 ∧ i = .int .i64 k ∧ Hid (TdSt R w bx p2 ll o vs wr)) (fun _ i _ _ => made.length - (intOf i).toNat)
  case atStart => exact ⟨0, [], [], p, by omega, rfl, by omega, by omega, rfl, hS⟩
  case round =>
    obtain ⟨k, ll, vs, p2, hk, hll, hp2, hpp, rfl, hL⟩ := hrel
    obtain ⟨w9, hw9⟩ : ∃ w9, w9 = wr := ⟨_, rfl⟩
    subst hw9
    have b0 : w9.cell? ⟨w.heap.size, 0, none⟩ = some (.slice Am made.length cm) := (cellm hL.out.box 0).trans (by rw [hbx.out]; rfl)
    have b1 : w9.cell? ⟨w.heap.size, 1, none⟩ = some (.slice At tasks.length ct) := (cellm hL.out.box 1).trans (by rw [hbx.out]; rfl)
    have hz := block_lt hL.out.box
    by_cases hlt : k < made.length
    · have hkt : k < tasks.length := by have := hlen.out; omega
      have hS9 := (hs.out.up (mask_turn hL.out.turn (fun i e => by cases e; exact hlo)) hL.out.turn.size).unmask
      obtain ⟨bt, ot, At', ct', rfl, hbt, ht0, ht1, ht2, htc, htm, htp⟩ := hS9.tasks.at (Below.refl _ _) k hkt
      have hn := hnod.out _ (List.getElem_mem hkt)
      have hmy := specTaskMay_calls tasks[k] (by omega) At' ct' w9.heap.size w9 w9 (Below.refl _ _) (Nat.le_refl _) htc htm htp
      have hml := mayList_len tasks[k]
      generalize mayList tasks[k] = xs0 at *
      replace hmy := Lib.hid hmy
      replace hS9 := Lib.hid hS9
      replace htp := Lib.hid htp
      go_wp2_with fail
      refine hmy.out.mono ?_
      rintro e w10 ⟨vl, rfl, hown, h10⟩
      have hI : TdIn R w bx p2 p2 ll u5 vs w9 vl xs0 w10 := ⟨hL.out, hL.out.rd.up h10, below_turn h10, SpR.own hown⟩
      obtain ⟨A0, c0, evl, -, hc0, -⟩ := ownsRow_ints hown
      subst evl
      have hk1 := pick_calls R hR p2 (by omega) 5 w10 hI.rd
      replace hI := Lib.hid hI
      replace hk1 := Lib.hid hk1
      clear hown h10 hmy ht0 ht1 ht2 hbt
      go_wp2_with fail
      refine hk1.out.mono ?_
      rintro e w11 ⟨q, rfl, hq0, hq1, hr11, ht11⟩
      have hI11 := hI.out.step hr11 ht11
      replace hI11 := Lib.hid hI11
      clear hr11 ht11 hk1 hI
      have hk2 := fun (wk : World) (h : RdAt R (p2 + 1) wk) => pick_calls R hR (p2 + 1) (by omega) 8 wk h
      replace hk2 := Lib.hid hk2
      rcases (show (¬ q = 0) ∨ (q = 0 ∧ xs0.length = 0) ∨ (q = 0 ∧ ∃ x ys, xs0 = x :: ys) from by
        by_cases e : q = 0
        · cases xs0 with
          | nil => exact .inr (.inl ⟨e, rfl⟩)
          | cons x ys => exact .inr (.inr ⟨e, x, ys, rfl⟩)
        · exact .inl e) with hq | ⟨rfl, hnil⟩ | ⟨rfl, x, ys, rfl⟩
      case' inl =>
        obtain ⟨A1, hA1⟩ : ∃ A1, A1 = A0 := ⟨_, rfl⟩
        subst hA1
        obtain ⟨c1, hc1⟩ : ∃ c1, c1 = c0 := ⟨_, rfl⟩
        subst hc1
        obtain ⟨xs1, hxs1⟩ : ∃ xs1, xs1 = xs0 := ⟨_, rfl⟩
        subst hxs1
        have hI12 := hI11
        clear hI11
        go_wp2_with fail
      case' inr.inl =>
        obtain ⟨A1, hA1⟩ : ∃ A1, A1 = A0 := ⟨_, rfl⟩
        subst hA1
        obtain ⟨c1, hc1⟩ : ∃ c1, c1 = c0 := ⟨_, rfl⟩
        subst hc1
        obtain ⟨xs1, hxs1⟩ : ∃ xs1 : List Int, xs1 = xs0 := ⟨_, rfl⟩
        subst hxs1
        have hI12 := hI11
        have hd0 : ¬ ((0 : Int) < (xs1.length : Int)) := by simp [hnil]
        replace hnil := Lib.hid hnil
        clear hI11
        go_wp2_with fail
      case' inr.inr =>
        obtain ⟨g, off, c, off2, eu, hcn, hcm, hs1, hs2, hsp⟩ := hI11.out.sp.tail
        have hI12 := hI11.out.swap hsp
        obtain ⟨xs1, hxs1⟩ : ∃ xs1 : List Int, xs1 = ys := ⟨_, rfl⟩
        subst hxs1
        simp only [List.length_cons] at eu hml ⊢
        cases eu
        replace hI12 := Lib.hid hI12
        clear hI11 hsp
        go_wp2_with fail
        generalize some (⟨g, off2, none⟩ : Addr) = A1 at *
        generalize c0 - 1 = c1 at *
      all_goals
        have hml1 : xs1.length ≤ 10 := by omega
        clear hml
        refine (hk2.out _ hI12.out.rd).mono ?_
        rintro e w12 ⟨q8, rfl, hq80, hq81, hr12, ht12⟩
        have hI13 := hI12.out.step hr12 ht12
        replace hI13 := Lib.hid hI13
        clear hr12 ht12 hk2 hI12
        by_cases h8 : q8 = 0
        case' pos =>
          subst h8
          have hk3 := pick_calls R hR (p2 + 1 + 1) (by omega) 11 w12 hI13.out.rd
          replace hk3 := Lib.hid hk3
          go_wp2_with fail
          refine hk3.out.mono ?_
          rintro e w13 ⟨q11, rfl, hq11, hq12, hr13, ht13⟩
          have hI14 := hI13.out.step hr13 ht13
          have hsA := hI14.sp.keep (w2 := w13.alloc (.cells #[.int .i64 (q11 - 1)] 3 (0, 0))) (fun i _ h2 => heap_old h2) (by simp)
          have hbz := hI14.turn.size
          replace hI14 := Lib.hid hI14
          replace hsA := Lib.hid hsA
          clear hr13 ht13 hk3 hI13
          go_wp2_with (at_builtin; go_loud (with_reducible refine wpList_appS (base := w9.heap.size) (xs := xs1) (by rfl) (.tmp 35) (.tmp 39) (by rfl) (by with_unfolding_all rfl) hsA.out w13.heap.size 1 (q11 - 1) (by with_unfolding_all rfl) ⟨_, _, heap_alloc_new w13 _, rfl⟩ ?_ ?_ ?_))
          · omega
          · simp; omega
          rintro A2 c2 w14 hsp14 hg14
          have hI15 := hI14.out.app hsp14 hg14
          replace hI15 := Lib.hid hI15
          clear hsA hsp14 hg14 hI14
          have hX := hI15.out.alloc1 (.cells #[.slice A2 (xs1.length + 1) c2] 28 (0, 0))
          have hbz2 := hI15.out.turn.size
          have hrx := hI15.out.rdr
          replace hX := Lib.hid hX
          replace hrx := Lib.hid hrx
          go_wp2_with (at_builtin; go_loud (with_reducible refine wpList_app1 (by rfl) (.tmp 41) (.tmp 43) 27 (by rfl) rowTy w.heap.size u5 ll.length vs (by with_unfolding_all rfl) hX.out.own.out w14.heap.size 1 [.slice A2 (xs1.length + 1) c2] (by with_unfolding_all rfl) (by with_unfolding_all rfl) ⟨_, _, heap_alloc_new w14 _, rfl⟩ ?_ ?_ ?_ ?_ ?_))
          · intro v hv; simp at hv; rw [hv]; rfl
          · unfold maxLen; omega
          · omega
          · simp; omega
          intro g3 cap3 w15 hown3 hgrow3 hat3
          have hN := hI15.out.done.app1 hll hrx.out (by simp; omega) hgrow3 hown3 hat3
          replace hN := Lib.hid hN
          clear hown3 hgrow3 hat3 hX hrx hI15
          go_wp2_with fail
          go_roundw
          case rel => exact ⟨k + 1, ll ++ [xs1 ++ [q11 - 1]], _, p2 + 1 + 1 + 1, by omega, by simp [hll], by omega, by omega, by go_num, hN⟩
          case measure => simp [intOf]; omega
        case' neg =>
          have h8' : (q8 == 0) = false := by simp [h8]
          have hX := hI13.out.alloc1 (.cells #[.slice A1 xs1.length c1] 28 (0, 0))
          have hbz2 := hI13.out.turn.size
          have hrx := hI13.out.rdr
          replace hX := Lib.hid hX
          replace hrx := Lib.hid hrx
          go_wp2_with (at_builtin; go_loud (with_reducible refine wpList_app1 (by rfl) (.tmp 41) (.tmp 43) 27 (by rfl) rowTy w.heap.size u5 ll.length vs (by with_unfolding_all rfl) hX.out.own.out w12.heap.size 1 [.slice A1 xs1.length c1] (by with_unfolding_all rfl) (by with_unfolding_all rfl) ⟨_, _, heap_alloc_new w12 _, rfl⟩ ?_ ?_ ?_ ?_ ?_))
          · intro v hv; simp at hv; rw [hv]; rfl
          · unfold maxLen; omega
          · omega
          · simp; omega
          intro g3 cap3 w15 hown3 hgrow3 hat3
          have hN := hI13.out.done.app1 hll hrx.out (by omega) hgrow3 hown3 hat3
          replace hN := Lib.hid hN
          clear hown3 hgrow3 hat3 hX hrx hI13
          go_wp2_with fail
          go_roundw
          case rel => exact ⟨k + 1, ll ++ [xs1], _, p2 + 1 + 1, by omega, by simp [hll], by omega, by omega, by go_num, hN⟩
          case measure => simp [intOf]; omega
    · have hk0 : k = made.length := by omega
      replace hk0 := Lib.hid hk0
      have hk1 := pick_calls R hR p2 (by omega) 30 w9 hL.out.rd
      replace hk1 := Lib.hid hk1
      go_wp2_with fail
      refine hk1.out.mono ?_
      rintro e w11 ⟨q, rfl, hq0, hq1, hr11, ht11⟩
      have hI := hL.out.step hr11 ht11
      replace hI := Lib.hid hI
      clear hr11 ht11 hk1 hL
      by_cases hq : q = 0
      · subst hq
        have hX := hI.out.alloc (.cells #[.slice none 0 0] 28 (0, 0))
        have hbz2 := hI.out.turn.size
        have hrx : RdR w.heap.size w11 (.slice none 0 0) [] := ⟨none, 0, rfl, Nat.le_refl _, by simp [maxLen], .inl rfl⟩
        replace hX := Lib.hid hX
        replace hrx := Lib.hid hrx
        go_wp2_with (at_builtin; go_loud (with_reducible refine wpList_app1 (by rfl) (.tmp 48) (.tmp 49) 27 (by rfl) rowTy w.heap.size u5 ll.length vs (by with_unfolding_all rfl) hX.out.own.out w11.heap.size 1 [.slice none 0 0] (by with_unfolding_all rfl) (by with_unfolding_all rfl) ⟨_, _, heap_alloc_new w11 _, rfl⟩ ?_ ?_ ?_ ?_ ?_))
        · intro v hv; simp at hv; rw [hv]; rfl
        · unfold maxLen; omega
        · omega
        · simp; omega
        intro g3 cap3 w15 hown3 hgrow3 hat3
        have hN := hI.out.app1 hll hrx.out (by simp) hgrow3 hown3 hat3
        replace hN := Lib.hid hN
        clear hown3 hgrow3 hat3 hX hrx hI
        go_wp2_with fail
        go_ret
        exact ⟨p2 + 1, ll ++ [[]], _, _, rfl, by have := hk0.out; simp; omega, hN.out.small, by omega, by omega, hN.out.rd, hN.out.turn, hN.out.own⟩
      · have hq' : (q == 0) = false := by simp [hq]
        go_wp2_with fail
        go_ret
        exact ⟨p2 + 1, ll, _, _, rfl, by omega, hI.out.small, by omega, by omega, hI.out.rd, hI.out.turn, hI.out.own⟩
end Go.Proofs.Ytkbblekengdhaaa

set_option linter.unusedVariables false
set_option linter.unusedSimpArgs false
namespace Go.Proofs.Ytkbblekengdhaaa
open Go Go.RowKit

theorem ret_sheet3 {fn : Func} {t u v s : Nat} {tmps : Array Value} {Q : Ending → World → Prop} {W : World} {m : Nat} {a b x y z : Value} (hr : fn.results = #[.cell t 26, .tmp u, .tmp v, .tmp s])
    (ht : tmps.getD t undef = .pointer (some ⟨m, 0, none⟩)) (hu : tmps.getD u undef = x) (hv : tmps.getD v undef = y) (hs : tmps.getD s undef = z) (hW : W.heap[m]? = some (.cells #[a, b] 26 (0, 0))) (K : Q (.returned (.tuple #[.agg #[a, b], x, y, z])) W) : bodyPost Try.prog fn Q .ret ⟨tmps, []⟩ W := by
  have y0 : W.cell? ⟨m, 0, none⟩ = some a := cellm hW 0
  have y1 : W.cell? ⟨m, 1, none⟩ = some b := cellm hW 1
  refine bodyPost_ret (v := .tuple #[.agg #[a, b], x, y, z]) ?_ rfl K
  have ht' : tmps[t]?.getD undef = .pointer (some ⟨m, 0, none⟩) := by simpa using ht
  have hu' : tmps[u]?.getD undef = x := by simpa using hu
  have hv' : tmps[v]?.getD undef = y := by simpa using hv
  have hs' : tmps[s]?.getD undef = z := by simpa using hs
  simp [results, hr, ht', hu', hv', hs', go_sem, y0, y1]

/-! what draws of a sheet, told keys and two rows of numbers bring -/
structure ArgsTold (w : World) (Am : Option Addr) (cm : Nat) (At : Option Addr) (ct : Nat) (made : List Bool) (tasks : List Task) (Ao : Option Addr) (co : Nat) (ll : List (List Int)) (Ai : Option Addr) (ci : Nat) (xs : List Int) (Ak : Option Addr) (ck : Nat) (ks : List Int) : Prop where
  sheet : SheetAt w.heap.size w Am cm At ct made tasks
  rows : RowsAt w.heap.size w Ao ll
  ints : IntsAt w.heap.size w Ai xs
  more : IntsAt w.heap.size w Ak ks
  len : tasks.length = made.length
  small : made.length ≤ 8
  nodes : ∀ T ∈ tasks, nodes T ≤ 13
  rlen : ll.length ≤ 9
  rsmall : ∀ x ∈ ll, List.length x ≤ 11
  rcap : ll.length ≤ co
  rmax : co ≤ maxLen
  ilen : xs.length ≤ 9
  icap : xs.length ≤ ci
  imax : ci ≤ maxLen
  klen : ks.length ≤ 9
  kcap : ks.length ≤ ck
  kmax : ck ≤ maxLen
def DrawToldP (w : World) (e : Ending) (w' : World) : Prop :=
  ∃ Am cm At ct made tasks Ao co ll Ai ci xs Ak ck ks, e = .returned (.tuple #[.agg #[.slice Am (List.length made) cm, .slice At (List.length tasks) ct], .slice Ao (List.length ll) co, .slice Ai (List.length xs) ci, .slice Ak (List.length ks) ck]) ∧ ArgsTold w' Am cm At ct made tasks Ao co ll Ai ci xs Ak ck ks ∧ Below w.heap.size w w'
theorem drawTold_done {lo : Nat} {w w4 : World} {Am At Ao Ai Ak : Option Addr} {cm ct co ci ck : Nat} {made : List Bool} {tasks : List Task} {ll : List (List Int)} {xs ks : List Int} (hlo : w.heap.size < lo) (hS : SheetAt w4.heap.size (mask lo w4) Am cm At ct made tasks) (hO : RowsAt w4.heap.size (mask lo w4) Ao ll) (hI : IntsAt w4.heap.size (mask lo w4) Ai xs) (hK : IntsAt w4.heap.size (mask lo w4) Ak ks)
    (h1 : tasks.length = made.length) (h2 : made.length ≤ 8) (h3 : ∀ T ∈ tasks, nodes T ≤ 13) (r1 : ll.length ≤ 9) (r2 : ∀ x ∈ ll, x.length ≤ 11) (r3 : ll.length ≤ co) (r4 : co ≤ maxLen) (h4 : xs.length ≤ 9) (h5 : xs.length ≤ ci) (h6 : ci ≤ maxLen) (h7 : ks.length ≤ 9) (h8 : ks.length ≤ ck) (h9 : ck ≤ maxLen) (hb : Below w.heap.size w w4) (x y : Value) :
    DrawToldP w (.returned (.tuple #[.agg #[.slice Am made.length cm, .slice At tasks.length ct], .slice Ao ll.length co, .slice Ai xs.length ci, .slice Ak ks.length ck])) ((w4.setCell ⟨w.heap.size, 0, none⟩ x).setCell ⟨w.heap.size, 1, none⟩ y) := by
  have hm := (mask_set w4 hlo 0 x).trans ((mask_set (w4.setCell ⟨w.heap.size, 0, none⟩ x) hlo 1 y).mono (by simp))
  have hz : w4.heap.size ≤ ((w4.setCell ⟨w.heap.size, 0, none⟩ x).setCell ⟨w.heap.size, 1, none⟩ y).heap.size := by simp
  exact ⟨Am, cm, At, ct, made, tasks, Ao, co, ll, Ai, ci, xs, Ak, ck, ks, rfl, ⟨(hS.up hm hz).unmask, (hO.up hm hz).unmask, (hI.up hm hz).unmask, (hK.up hm hz).unmask, h1, h2, h3, r1, r2, r3, r4, h4, h5, h6, h7, h8, h9⟩,
    (hb.setCell (p := ⟨w.heap.size, 0, none⟩) (Nat.le_refl _) x).setCell (p := ⟨w.heap.size, 1, none⟩) (Nat.le_refl _) y⟩
end Go.Proofs.Ytkbblekengdhaaa

set_option linter.unusedVariables false
set_option linter.unusedSimpArgs false
namespace Go.Proofs.Ytkbblekengdhaaa
open Go Go.RowKit

/-! the laws' own words -/
theorem brHas_any (A : Option Addr) (c : Nat) (xs : List Int) (x : Int) (B : Nat) (w0 w : World) (hb : Below B w0 w) (hB : B ≤ w.heap.size) (hx : IntsAt B w0 A xs) (hl : xs.length ≤ 1000000) :
    Calls Try.prog 17 #[.slice A xs.length c, .int .i64 x] w fun e w' => e = .returned (.bool (xs.contains x)) ∧ w = w' := by
  replace hx := Lib.hid hx
  replace hb := Lib.hid hb
  go_enter Try.func17, Try.ntmps17
  go_wp2_with fail
  go_loopw [5] (fun i wr => ∃ (j : Nat), j ≤ xs.length ∧ i = .int .i64 j ∧ wr = w ∧ Hid (∀ q (h : q < xs.length), q < j → xs[q] ≠ x)) (fun i _ => xs.length - (intOf i).toNat)
  case atStart => exact ⟨0, Nat.zero_le _, rfl, rfl, Lib.hid (fun q _ h => by omega)⟩
  case round =>
    obtain ⟨j, hj, rfl, rfl, hno⟩ := hrel
    by_cases hlt : j < xs.length
    · obtain ⟨b, o, rfl, hbl, y⟩ := hx.out.at hb.out hB j hlt
      by_cases e : xs[j] = x
      · have e' : (xs[j] == x) = true := by simp [e]
        have hr : xs.contains x = true := by rw [← e]; simp
        replace e := Lib.hid e
        replace hr := Lib.hid hr
        go_wp2_with fail
        go_ret
        exact ⟨by rw [hr.out]; rfl, rfl⟩
      · have e' : (xs[j] == x) = false := by simp [e]
        have hno2 : ∀ q (h : q < xs.length), q < j + 1 → xs[q] ≠ x := fun q h hq => by
          by_cases hqj : q = j
          · subst hqj; exact e
          · exact hno.out q h (by omega)
        replace e := Lib.hid e
        replace hno2 := Lib.hid hno2
        go_wp2_with fail
        go_roundw
        case rel => exact ⟨j + 1, by omega, by go_num, by first | rfl | trivial, hno2⟩
        case measure => simp [intOf]; omega
    · have hr : xs.contains x = false := by
        rw [List.contains_eq_mem, decide_eq_false_iff_not]
        intro hm
        obtain ⟨q, hq, e⟩ := List.getElem_of_mem hm
        exact hno.out q hq (by omega) e
      replace hr := Lib.hid hr
      go_wp2_with fail
      go_ret
      exact ⟨by rw [hr.out]; rfl, rfl⟩

end Go.Proofs.Ytkbblekengdhaaa

set_option linter.unusedVariables false
namespace Go.Proofs.Ytkbblekengdhaaa
open Go Go.RowKit

theorem byte_row {w : World} {x : Addr} {zs : List Int} (len : Nat) (hcell : ∀ i, i < zs.length → w.cell? (x.add i) = some (.int .u8 (zs.getD i 0))) : RowAt (fun b : Int => Value.int .u8 b) w.heap.size w (some x) (zs.take len) := by
  intro i hi
  have hl : i < zs.length := by simp at hi; omega
  obtain ⟨b, off, rfl, h⟩ := ints_at hcell (by omega)
  have h1 := h i hl
  refine ⟨b, off, rfl, ?_, ?_⟩
  · by_cases hb : b < w.heap.size
    · exact hb
    · exfalso
      have h2 : w.heap[b]? = none := by simp; omega
      simp [World.cell?, h2] at h1
  · rw [h1]; simp [hl]
theorem byte_vals {zs : List Int} (len : Nat) (h : ∀ n ∈ zs, (Lit.int .u8 n).wf = true) : ∀ b ∈ zs.take len, 0 ≤ b ∧ b ≤ 255 :=
  fun b hb => bounds_u8 (h b (List.mem_of_mem_take hb))
end Go.Proofs.Ytkbblekengdhaaa
