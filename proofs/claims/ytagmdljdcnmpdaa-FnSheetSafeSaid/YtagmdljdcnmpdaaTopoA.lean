import Derived.Test.YtagmdljdcnmpdaaSafeP
import Derived.Test.YtagmdljdcnmpdaaMaps
set_option linter.unusedVariables false
set_option linter.unusedSimpArgs false
namespace Go.Proofs.Ytagmdljdcnmpdaa
open Go Go.RowKit

theorem contains_calls (A : Option Addr) (c : Nat) (v : Int) (xs : List Int) (B : Nat) (w0 w : World) (hb : Below B w0 w) (hB : B ≤ w.heap.size) (hm : xs.length ≤ maxLen) (hx : IntsAt B w0 A xs) :
    Calls Try.prog 82 #[.slice A xs.length c, .int .i64 v] w fun e w' => e = .returned (.bool (xs.contains v)) ∧ w = w' := by
  have h := index_calls A c v xs B w0 w hb hB hm hx
  have hr := idx_any (fun x => v == x) xs
  rw [← List.contains_eq_any_beq] at hr
  generalize idx (fun x => v == x) xs = n at *
  replace h := Lib.hid h
  replace hr := Lib.hid hr
  clear hx hb
  go_enter Try.func82, Try.ntmps82
  go_wp2_with fail
  refine h.out.mono ?_
  rintro e w1 ⟨rfl, rfl⟩
  go_wp2_with fail
  go_ret
  exact ⟨by rw [← hr.out]; rfl, rfl⟩

set_option maxHeartbeats 2000000 in
theorem keys_calls (A A2 : Option Addr) (n c n2 c2 : Nat) (w : World) (hn : n ≤ 1000000) :
    Calls Try.prog 53 #[.agg #[.slice A n c, .slice A2 n2 c2]] w fun e w' => ∃ v, e = .returned v ∧ w'.ownsRow w.heap.size 3 1 v (keysN n).length (ints (keysN n)) ∧ Below w.heap.size w w' := by
  go_enter Try.func53, Try.ntmps53
  go_wp2_with fail
  go_loopw [3, 4, 8] (fun o _ i wr => ∃ (j : Nat), j ≤ n ∧ i = .int .i64 j ∧ Hid (wr.ownsRow w.heap.size 3 1 o j (ints ((keysN n).take j))) ∧ Hid (Below w.heap.size w wr)) (fun _ _ i _ => n - (intOf i).toNat)
  case atStart => exact ⟨0, Nat.zero_le _, rfl, Lib.hid (World.ownsRow_nil _ _ _ _), Lib.hid (below_al (Below.refl _ _) _)⟩
  case round =>
    obtain ⟨j, hj, rfl, hown, hw⟩ := hrel
    have hsz := hw.out.size
    by_cases hlt : j < n
    · go_wp2_with (at_builtin; go_loud (with_reducible refine wpList_app1 (by rfl) (.tmp 11) (.tmp 13) 27 (by rfl) intTy w.heap.size u3 j (ints ((keysN n).take j)) (by with_unfolding_all rfl) (hown.out.alloc _) wr.heap.size 1 [.int .i64 j] (by with_unfolding_all rfl) (by with_unfolding_all rfl) ⟨_, _, heap_alloc_new wr _, rfl⟩ (one_int _ _) ?_ ?_ ?_ ?_))
      · unfold maxLen; omega
      · omega
      · first | omega | (simp; omega)
      intro g cap w7 hown7 hgrow7 hat7
      have hw7 := (below_al' hw.out (.cells #[.int .i64 j] 3 (0, 0)) hsz).grown hgrow7 (by simp; omega) (fun i hi => (hown.out.lt i hi).1)
      have hown7' : w7.ownsRow w.heap.size 3 1 (.slice (some ⟨g, 0, none⟩) (j + 1) cap) (j + 1) (ints ((keysN n).take (j + 1))) := by
        rw [List.take_succ_eq_append_getElem (by simpa [keysN] using hlt), keysN_get, ints_append]
        simpa [ints] using hown7
      replace hw7 := Lib.hid hw7
      replace hown7' := Lib.hid hown7'
      clear hown7 hgrow7 hat7 hown hw
      go_wp2_with fail
      go_roundw
      case rel => exact ⟨j + 1, by omega, by go_num, hown7', hw7⟩
      case measure => simp [intOf]; omega
    · have e : j = n := by omega
      subst e
      go_wp2_with fail
      go_ret
      refine ⟨_, rfl, ?_, hw.out⟩
      have := hown.out
      rw [List.take_of_length_le (by simp [keysN])] at this
      rw [keysN_length]; exact this

set_option maxHeartbeats 4000000 in
theorem sheetMay_calls (Am At : Option Addr) (cm ct : Nat) (made : List Bool) (tasks : List Task) (B : Nat) (w0 w : World) (hb : Below B w0 w) (hB : B ≤ w.heap.size) (hs : SheetAt B w0 Am cm At ct made tasks) (q : Nat) (hq : q < tasks.length) :
    Calls Try.prog 54 #[.agg #[.slice Am made.length cm, .slice At tasks.length ct], .int .i64 q] w fun e w' => ∃ v, e = .returned v ∧ w'.ownsRow w.heap.size 3 1 v (mayMade made tasks[q]).length (ints (mayMade made tasks[q])) ∧ Below w.heap.size w w' := by
  obtain ⟨bt, ot, At', ct', et, hbt, ht0, ht1, ht2, htc, htm, htp⟩ := hs.tasks.at hb q hq
  subst et
  have hbt4 : bt < w.heap.size := by omega
  have hqm : q ≤ 9223372036854775807 := by have := hs.lt; have := hs.mt; unfold maxLen at *; omega
  have hql : tasks.length ≤ 9223372036854775807 := by have := hs.lt; have := hs.mt; unfold maxLen at *; omega
  have hcall := fun w1 (hw : Below w.heap.size w w1) => taskMay_calls tasks[q] At' ct' B w0 w1 (below_up' hb hB hw) (Nat.le_trans hB hw.size) htc htm htp
  have hmk := fun w1 (hw : Below w.heap.size w w1) k => makes_calls Am (some ⟨bt, ot, none⟩) cm tasks.length ct k made B w0 w1 (below_up' hb hB hw) (Nat.le_trans hB hw.size) (Nat.le_trans hs.lm hs.mm) hs.made
  have hdef : mayMade made tasks[q] = (mayList tasks[q]).filter fun k => mkK made k := rfl
  have hL10 := mayList_len tasks[q]
  generalize mayMade made tasks[q] = M at *
  generalize mayList tasks[q] = L at *
  replace hcall := Lib.hid hcall
  replace hmk := Lib.hid hmk
  replace hdef := Lib.hid hdef
  replace hb := Lib.hid hb
  clear htp hs htc
  go_enter Try.func54, Try.ntmps54
  go_wp2_with fail
  refine (hcall.out _ (below_al (Below.refl _ _) _)).mono ?_
  rintro e w1 ⟨v, rfl, hownL, h1⟩
  obtain ⟨AL, cL, rfl, hl1, hl2, hl3⟩ := ownsRow_ints hownL
  have x0 : w1.cell? ⟨w.heap.size, 0, none⟩ = some (.slice Am made.length cm) := (h1.cell (p := ⟨w.heap.size, 0, none⟩) (by simp)).trans (by simp)
  have x1 : w1.cell? ⟨w.heap.size, 1, none⟩ = some (.slice (some ⟨bt, ot, none⟩) tasks.length ct) := (h1.cell (p := ⟨w.heap.size, 1, none⟩) (by simp)).trans (by simp)
  have b1 : Below w.heap.size w w1 := below_from h1
  have s1 : w.heap.size < w1.heap.size := by have := h1.size; simp at this; omega
  have hfarL : ∀ i, (Value.slice AL L.length cL).ownBlock = some i → w.heap.size + 1 ≤ i := fun i hi => by have := (hownL.lt i hi).1; simpa using this
  replace hl3 := Lib.hid hl3
  replace b1 := Lib.hid b1
  replace hfarL := Lib.hid hfarL
  clear h1 hownL hcall ht0 ht1 ht2
  unfold maxLen at hl2
  go_wp2_with fail
  go_loopw [5, 7, 15] (fun o _ i wr => ∃ (j : Nat) (out : List Int), j ≤ L.length ∧ i = .int .i64 j ∧ out.length ≤ j ∧ w.heap.size < wr.heap.size ∧ wr.cell? ⟨w.heap.size, 0, none⟩ = some (.slice Am made.length cm) ∧ wr.cell? ⟨w.heap.size, 1, none⟩ = some (.slice (some ⟨bt, ot, none⟩) tasks.length ct) ∧ Hid (out ++ (L.drop j).filter (fun k => mkK made k) = M) ∧ Hid (wr.ownsRow w.heap.size 3 1 o out.length (ints out)) ∧ Hid (Below w.heap.size w wr) ∧ Hid (IntsAt wr.heap.size wr AL L) ∧ Hid (∀ b oo, AL = some ⟨b, oo, none⟩ → o.ownBlock ≠ some b) ∧ Hid (o.ownBlock ≠ some w.heap.size)) (fun _ _ i _ => L.length - (intOf i).toNat)
  case atStart => exact ⟨0, [], Nat.zero_le _, rfl, by simp, s1, x0, x1, Lib.hid (by rw [hdef.out]; rfl), Lib.hid (World.ownsRow_nil _ _ _ _), b1, hl3, Lib.hid (fun b oo e => by simp [Value.ownBlock]), Lib.hid (by simp [Value.ownBlock])⟩
  case round =>
    obtain ⟨j, out, hj, rfl, hol, hz, hbox, hbox1, he, hown, hw, hL, hfar, hne⟩ := hrel
    have hsz := hw.out.size
    by_cases hlt : j < L.length
    · obtain ⟨bL, oL, eL, hbL, y⟩ := hL.out j hlt
      have he2 := he.out
      rw [List.drop_eq_getElem_cons hlt, List.filter_cons] at he2
      have hfb := hfar.out bL oL eL
      subst eL
      obtain ⟨k, hk⟩ : ∃ k, L[j] = k := ⟨_, rfl⟩
      rw [hk] at y he2
      have hm := hmk.out wr hw.out k
      obtain ⟨mb, hmb⟩ : ∃ mb, mkK made k = mb := ⟨_, rfl⟩
      rw [hmb] at hm he2
      replace hm := Lib.hid hm
      replace hmb := Lib.hid hmb
      replace hk := Lib.hid hk
      replace hfb := Lib.hid hfb
      replace he2 := Lib.hid he2
      clear he
      go_wp2_with fail
      refine hm.out.mono ?_
      rintro e w3 ⟨rfl, h3⟩
      have hbox3 := kept_cell h3 hz hbox
      have hbox13 := kept_cell h3 hz hbox1
      have hw3 := below_up hw.out h3
      have hz3 : w.heap.size < w3.heap.size := by have := h3.size; omega
      have hbL3 : bL < w3.heap.size := by have := h3.size; omega
      have hsz3 : w.heap.size ≤ w3.heap.size := by omega
      have hL3 : IntsAt w3.heap.size w3 (some ⟨bL, oL, none⟩) L := hL.out.up h3 h3.size
      have hown3 := ownsRow_block hown.out (fun i hi => h3.block i (hown.out.lt i hi).2)
      replace hw3 := Lib.hid hw3
      replace hL3 := Lib.hid hL3
      replace hown3 := Lib.hid hown3
      clear h3 hbox hbox1 hw hL hown hm y
      cases mb with
      | false =>
        have he3 : out ++ (L.drop (j + 1)).filter (fun k => mkK made k) = M := by have := he2.out; simpa using this
        replace he3 := Lib.hid he3
        go_wp2_with fail
        go_roundw
        case rel => exact ⟨j + 1, out, by omega, by go_num, by omega, hz3, hbox3, hbox13, he3, hown3, hw3, hL3, hfar, hne⟩
        case measure => simp [intOf]; omega
      | true =>
        have he3 : (out ++ [k]) ++ (L.drop (j + 1)).filter (fun k => mkK made k) = M := by have := he2.out; simpa using this
        replace he3 := Lib.hid he3
        go_wp2_with (at_builtin; go_loud (with_reducible refine wpList_app1 (by rfl) (.tmp 22) (.tmp 24) 27 (by rfl) intTy w.heap.size u5 out.length (ints out) (by with_unfolding_all rfl) (hown3.out.alloc _) w3.heap.size 1 [.int .i64 k] (by with_unfolding_all rfl) (by with_unfolding_all rfl) ?_ (one_int _ _) ?_ ?_ ?_ ?_))
        · exact ⟨_, _, heap_alloc_new w3 _, rfl⟩
        · unfold maxLen; omega
        · omega
        · first | omega | (simp; omega)
        intro g cap w7 hown7 hgrow7 hat7
        have hw7 := (below_al' hw3.out (.cells #[.int .i64 k] 3 (0, 0)) hsz3).grown hgrow7 (by simp; omega) (fun i hi => (hown3.out.lt i hi).1)
        have hown7' : w7.ownsRow w.heap.size 3 1 (.slice (some ⟨g, 0, none⟩) (out.length + 1) cap) (out ++ [k]).length (ints (out ++ [k])) := by simpa [ints_append, ints] using hown7
        have hk0 : w7.heap[w.heap.size]? = w3.heap[w.heap.size]? := far_grown hgrow7 hz3 hne.out
        have hkL : w7.heap[bL]? = w3.heap[bL]? := far_grown hgrow7 hbL3 hfb.out
        have hbox7 := (World.cell?_of_block (w := w3) (a := ⟨w.heap.size, 0, none⟩) hk0).trans hbox3
        have hbox17 := (World.cell?_of_block (w := w3) (a := ⟨w.heap.size, 1, none⟩) hk0).trans hbox13
        have hz7 : w3.heap.size < w7.heap.size := by have := hgrow7.size; simp at this; omega
        have hL7 : IntsAt w7.heap.size w7 (some ⟨bL, oL, none⟩) L := fun i hi => by
          obtain ⟨b', o', e', hb', c'⟩ := hL3.out i hi
          cases e'
          exact ⟨_, _, rfl, by omega, (World.cell?_of_block (w := w3) hkL).trans c'⟩
        have hg7 : ∀ b : Nat, u5.ownBlock ≠ some b → b < w3.heap.size → (Value.slice (some ⟨g, 0, none⟩) (out.length + 1) cap).ownBlock ≠ some b := fun b h1 h2 e => by
          cases e
          rcases hat7 with e | e
          · exact h1 e
          · first | omega | (dsimp only at h2; omega) | (simp at e; dsimp only at h2; omega)
        have hfar7 : ∀ b oo, (some ⟨bL, oL, none⟩ : Option Addr) = some ⟨b, oo, none⟩ → (Value.slice (some ⟨g, 0, none⟩) (out.length + 1) cap).ownBlock ≠ some b := fun b oo e => by cases e; exact hg7 _ hfb.out hbL3
        have hne7 := hg7 _ hne.out hz3
        have hz8 : w.heap.size < w7.heap.size := by omega
        replace hw7 := Lib.hid hw7
        replace hown7' := Lib.hid hown7'
        replace hL7 := Lib.hid hL7
        replace hfar7 := Lib.hid hfar7
        replace hne7 := Lib.hid hne7
        clear hown7 hgrow7 hat7 hk0 hkL hg7 hown3 hL3 hfar hne hw3
        go_wp2_with fail
        go_roundw
        case rel => exact ⟨j + 1, out ++ [k], by omega, by go_num, by simp; omega, hz8, hbox7, hbox17, he3, hown7', hw7, hL7, hfar7, hne7⟩
        case measure => simp [intOf]; omega
    · have he2 : out = M := by
        have := he.out
        rw [List.drop_eq_nil_of_le (by omega)] at this
        simpa using this
      replace he2 := Lib.hid he2
      clear he
      go_wp2_with fail
      go_ret
      rw [← he2.out]
      exact ⟨_, rfl, hown.out, hw.out⟩

/-- the variable that a row is kept in, and the row -/
structure RowVar (base ob : Nat) (v : Value) (l : List Int) (w : World) : Prop where
  blk : w.heap[ob]? = some (.cells #[v] 27 (0, 0))
  own : w.ownsRow base 3 1 v l.length (ints l)
  le : base ≤ ob
theorem RowVar.ne {base ob : Nat} {v : Value} {l : List Int} {w : World} (h : RowVar base ob v l w) : v.ownBlock ≠ some ob := ownsRow_ne h.own h.blk (fun c e => by cases e)
theorem RowVar.kept {base ob : Nat} {v : Value} {l : List Int} {w w' : World} (h : RowVar base ob v l w) (h1 : w'.heap[ob]? = w.heap[ob]?) (h2 : ∀ i, v.ownBlock = some i → w'.heap[i]? = w.heap[i]?) : RowVar base ob v l w' := ⟨h1.trans h.blk, ownsRow_block h.own h2, h.le⟩
theorem RowVar.up {base ob : Nat} {v : Value} {l : List Int} {w w' : World} (h : RowVar base ob v l w) (hb : Below w.heap.size w w') : RowVar base ob v l w' := h.kept (hb.block _ (block_lt h.blk)) (fun i hi => hb.block i (h.own.lt i hi).2)
theorem RowVar.alloc {base ob : Nat} {v : Value} {l : List Int} {w : World} (h : RowVar base ob v l w) (o : Obj) : RowVar base ob v l (w.alloc o) := h.up (below_al (Below.refl _ _) o)
/-- a row that has grown is stored -/
theorem RowVar.set {base ob : Nat} {v v' : Value} {l l' : List Int} {w w' : World} (h : RowVar base ob v l w) (hg : w.grownBy w' v.ownBlock) (ho : w'.ownsRow base 3 1 v' l'.length (ints l')) : RowVar base ob v' l' (w'.setCell ⟨ob, 0, none⟩ v') := by
  have hblk := (hg.block _ (block_lt h.blk) (fun e => h.ne e.symm)).trans h.blk
  have hvm : v'.ownBlock ≠ some ob := ownsRow_ne ho hblk (fun c e => by cases e)
  exact ⟨(setCell_block hblk 0 v').trans rfl, ownsRow_block ho (fun i hi => setCell_far (own_far hi hvm)), h.le⟩

theorem topo1_calls (j : Int) (base ob : Nat) (v : Value) (l : List Int) (w : World) (h : RowVar base ob v l w) :
    Calls Try.prog 84 #[.int .i64 j, .pointer (some ⟨ob, 0, none⟩)] w fun e w' => e = .returned (.bool (!l.contains j)) ∧ w = w' := by
  obtain ⟨A, c, rfl, hl1, hl2, hl3⟩ := ownsRow_ints h.own
  have x0 : w.cell? ⟨ob, 0, none⟩ = some (.slice A l.length c) := (cellm h.blk 0).trans rfl
  have hc := contains_calls A c j l w.heap.size w w (Below.refl _ _) (Nat.le_refl _) (Nat.le_trans hl1 hl2) hl3
  generalize l.contains j = d at *
  replace hc := Lib.hid hc
  replace h := Lib.hid h
  clear hl3
  go_enter Try.func84, Try.ntmps84
  go_wp2_with fail
  refine hc.out.mono ?_
  rintro e w1 ⟨rfl, rfl⟩
  go_wp2_with fail
  go_ret
  exact ⟨rfl, rfl⟩
end Go.Proofs.Ytagmdljdcnmpdaa
