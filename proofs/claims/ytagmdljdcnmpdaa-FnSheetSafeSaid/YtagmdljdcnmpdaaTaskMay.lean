import Derived.Test.YtagmdljdcnmpdaaMay
import Derived.Test.YtagmdljdcnmpdaaSpecAll
set_option linter.unusedVariables false
set_option linter.unusedSimpArgs false
namespace Go.Proofs.Ytagmdljdcnmpdaa
open Go Go.RowKit

/-- an array of ten truths -/
def ArrIs (w : World) (b : Nat) (p : Int → Bool) : Prop := w.heap[b]? = some (.cells ((List.range 10).map (fun i : Nat => Value.bool (p i))).toArray 87 (0, 0))
theorem ArrIs.congr {w : World} {b : Nat} {p q : Int → Bool} (h : ArrIs w b p) (e : ∀ i : Nat, i < 10 → p i = q i) : ArrIs w b q := by
  unfold ArrIs at h ⊢
  rw [h]
  congr 3
  exact List.map_congr_left (fun i hi => by rw [e i (List.mem_range.1 hi)])
theorem ArrIs.cell {w : World} {b : Nat} {p : Int → Bool} (h : ArrIs w b p) {n : Nat} (hn : n < 10) : w.cell? ⟨b, n, none⟩ = some (.bool (p n)) := by
  rw [cellm h n]; simp [hn]
theorem ArrIs.frozen {w : World} {b : Nat} {p : Int → Bool} (h : ArrIs w b p) (n : Nat) : w.frozen? ⟨b, n, none⟩ = false := frozenm h n
theorem ArrIs.set {w : World} {b : Nat} {p : Int → Bool} (h : ArrIs w b p) {n : Nat} (hn : n < 10) : ArrIs (w.setCell ⟨b, n, none⟩ (.bool true)) b (fun i => p i || decide (i = n)) := by
  unfold ArrIs
  rw [setCell_block h n]
  congr 2
  apply Array.ext
  · simp
  · intro i h1 h2
    simp at h1
    simp [Array.getElem_setIfInBounds]
    by_cases e : n = i
    · subst e; simp
    · have e2 : ¬ i = n := fun h => e h.symm
      have e3 : ¬ (i : Int) = (n : Int) := by omega
      simp [e, e2, e3]
theorem ArrIs.turn {w w' : World} {b : Nat} {p : Int → Bool} (h : ArrIs w b p) (hk : w'.heap[b]? = w.heap[b]?) : ArrIs w' b p := hk.trans h

theorem may_five (p : Int → Bool) (n : Int) (ps : List Task) (i : Nat) (hi : i < 10) : (p i || mayTask (.mk 5 n ps) i) = ((fun i : Int => p i || decide (0 ≤ i ∧ i < ((10 : Nat) : Int))) i || mayTaskL (ps.drop 0) i) := by
  have h9 : decide (0 ≤ (i : Int) ∧ (i : Int) ≤ 9) = true := by simp; omega
  have h10 : decide (0 ≤ (i : Int) ∧ (i : Int) < ((10 : Nat) : Int)) = true := by simp; omega
  simp only [mayTask, h9, h10, decide_true, Bool.and_true, Bool.or_true, Bool.true_or, Bool.true_and]
set_option maxHeartbeats 2000000 in
theorem may_calls : ∀ (t : Task), fitAll t = true → ∀ (A : Option Addr) (c B b : Nat) (p : Int → Bool) (w0 w : World), Below B w0 w → B ≤ w.heap.size → t.parts.length ≤ c → c ≤ maxLen → PartsIs B w0 A 0 t.parts → ArrIs w b p → B ≤ b →
    Calls Try.prog 57 #[.agg #[.int .i64 t.kind, .int .i64 t.n, .slice A t.parts.length c], .pointer (some ⟨b, 0, none⟩)] w fun e w' => (∃ v, e = .returned v) ∧ ArrIs w' b (fun i => p i || mayTask t i) ∧ Turn (· = b) (· = b) w w' := by
  refine Task.ind ?_
  intro k n ps ih hfit A c B b p w0 w hb hB hc hm hp hA hBb
  simp only [Task.kind, Task.n, Task.parts] at hc hp ⊢
  unfold maxLen at hm
  rw [fitAll, Bool.and_eq_true] at hfit
  obtain ⟨hfn, hfl⟩ := hfit
  have hfL : ∀ q ∈ ps, fitAll q = true := by
    have : ∀ (l : List Task), fitAllL l = true → ∀ q ∈ l, fitAll q = true := by
      intro l
      induction l with
      | nil => intro _ q hq; cases hq
      | cons a l ihl =>
        intro h q hq
        rw [fitAllL, Bool.and_eq_true] at h
        rcases List.mem_cons.1 hq with rfl | hq
        · exact h.1
        · exact ihl h.2 q hq
    exact this ps hfl
  have hblt := block_lt hA
  -- the loop over the parts, from a world in which the node itself is done
  replace ih := Lib.hid ih
  replace hp := Lib.hid hp
  replace hfL := Lib.hid hfL
  replace hb := Lib.hid hb
  by_cases k1 : k = 1
  · subst k1
    have hn : 0 ≤ n ∧ n ≤ 9 := by
      unfold fitsN at hfn
      simp at hfn
      omega
    obtain ⟨q, rfl⟩ := Int.eq_ofNat_of_zero_le hn.1
    have hq : q < 10 := by omega
    have y := hA.cell hq
    have f := hA.frozen q
    have hset := hA.set hq
    have hst : Turn (· = b) (· = b) w (w.setCell ⟨b, q, none⟩ (.bool true)) := setCell_turn (F := (· = b)) rfl _
    have hz2 : b < (w.setCell ⟨b, q, none⟩ (.bool true)).heap.size := by rw [World.size_setCell]; exact hblt
    replace hA := Lib.hid hA
    replace hset := Lib.hid hset
    replace hst := Lib.hid hst
    replace hz2 := Lib.hid hz2
    clear hfn hfl
    go_enter Try.func57, Try.ntmps57
    go_wp2_with fail
    go_region
    go_wp2_with fail
    go_loopw [29] (fun i wr => ∃ (j : Nat) (p1 : Int → Bool), j ≤ ps.length ∧ i = .int .i64 j ∧ Hid (ArrIs wr b p1) ∧ Hid (Turn (· = b) (· = b) w wr) ∧ Hid (∀ i : Nat, i < 10 → (p i || mayTask (.mk 1 q ps) i) = (p1 i || mayTaskL (ps.drop j) i))) (fun i _ => ps.length - (intOf i).toNat)
    case atStart => exact ⟨0, (fun i => p i || decide (i = (q : Int))), Nat.zero_le _, rfl, Lib.hid (hset.out.turn (heap_old hz2.out)), Lib.hid ((hst.out.alloc _).drew), Lib.hid (by intro i hi; simp [mayTask, Bool.or_assoc])⟩
    case round =>
      obtain ⟨j, p1, hj, rfl, hA1, hT, he⟩ := hrel
      have hbw : Below B w0 wr := hb.out.trans (hT.out.below hB (fun i e => by cases e; exact hBb))
      have hsz := hT.out.size
      have hbz : b < wr.heap.size := by omega
      by_cases hlt : j < ps.length
      · obtain ⟨bq, oq, A', c', rfl, hbl, y0, y1, y2, hc', hm', hp'⟩ := hp.out.at hbw j hlt
        have hbl' : bq < wr.heap.size := by omega
        have hcall := ih.out ps[j] (List.getElem_mem _) (hfL.out _ (List.getElem_mem _)) A' c' B b p1 w0 (wr.alloc (.cells #[.int .i64 ps[j].kind, .int .i64 ps[j].n, .slice A' ps[j].parts.length c'] 36 (0, 0))) (below_al' hbw _ (by omega)) (by simp; omega) hc' hm' hp' (hA1.out.turn (heap_old hbz)) hBb
        replace hcall := Lib.hid hcall
        replace hbw := Lib.hid hbw
        clear hp'
        go_wp2_with fail
        refine hcall.out.mono ?_
        rintro e w2 ⟨⟨v, rfl⟩, hA2, hT2⟩
        have hT3 := (hT.out.alloc _).trans hT2
        have he2 : ∀ i : Nat, i < 10 → (p i || mayTask (.mk 1 q ps) i) = ((p1 i || mayTask ps[j] i) || mayTaskL (ps.drop (j + 1)) i) := fun i hi => by
          rw [he.out i hi, List.drop_eq_getElem_cons hlt, mayTaskL, Bool.or_assoc]
        replace hA2 := Lib.hid hA2
        replace hT3 := Lib.hid hT3
        replace he2 := Lib.hid he2
        clear hcall hT2 he hA1 hT y0 y1 y2
        go_wp2_with fail
        go_roundw
        case rel => exact ⟨j + 1, _, by omega, by go_num, hA2, hT3, he2⟩
        case measure => simp [intOf]; omega
      · have he2 : ∀ i : Nat, i < 10 → p1 i = (p i || mayTask (.mk 1 q ps) i) := fun i hi => by
          rw [he.out i hi, List.drop_eq_nil_of_le (by omega), mayTaskL, Bool.or_false]
        replace he2 := Lib.hid he2
        replace hbw := Lib.hid hbw
        clear he
        go_wp2_with fail
        go_end0
        exact ⟨⟨_, rfl⟩, hA1.out.congr he2.out, hT.out⟩
  by_cases k5 : k = 5
  · subst k5
    have hA0 : ArrIs (w.alloc (.cells #[.int .i64 5, .int .i64 n, .slice A ps.length c] 36 (0, 0))) b p := hA.turn (heap_old hblt)
    replace hA := Lib.hid hA
    replace hA0 := Lib.hid hA0
    clear hfn hfl
    go_enter Try.func57, Try.ntmps57
    go_wp2_with fail
    go_loopw [18] (fun i wr => ∃ (j : Nat), j ≤ 10 ∧ i = .int .i64 j ∧ w.heap.size < wr.heap.size ∧ wr.cell? ⟨w.heap.size, 2, none⟩ = some (.slice A ps.length c) ∧ Hid (ArrIs wr b (fun i => p i || decide (0 ≤ i ∧ i < j))) ∧ Hid (Turn (· = b) (· = b) w wr)) (fun i _ => 10 - (intOf i).toNat)
    case atStart => exact ⟨0, by omega, rfl, by simp, by simp, Lib.hid (hA0.out.congr (fun i hi => by simp; intro h; omega)), Lib.hid ((Turn.refl _ _).alloc _)⟩
    case round =>
      obtain ⟨j, hj, rfl, hz, hbox, hA1, hT⟩ := hrel
      have hbz : b < wr.heap.size := by omega
      by_cases hlt : j < 10
      · have y := hA1.out.cell hlt
        have f := hA1.out.frozen j
        have hset := hA1.out.set hlt
        have hset2 : ArrIs (wr.setCell ⟨b, j, none⟩ (.bool true)) b (fun i => p i || decide (0 ≤ i ∧ i < ((j + 1 : Nat) : Int))) := hset.congr (fun i hi => by
          rw [Bool.or_assoc]
          congr 1
          rw [Bool.eq_iff_iff]
          simp
          omega)
        have hst : Turn (· = b) (· = b) w (wr.setCell ⟨b, j, none⟩ (.bool true)) := hT.out.trans (setCell_turn (F := (· = b)) rfl _)
        have hne : b ≠ w.heap.size := by omega
        replace hset2 := Lib.hid hset2
        replace hst := Lib.hid hst
        clear hset
        go_wp2_with fail
        go_roundw
        case rel => exact ⟨j + 1, by omega, by go_num, by simpa using hz, (World.cell?_of_block (w := wr) (setCell_far (fun e => hne e.symm))).trans hbox, hset2, hst⟩
        case measure => simp [intOf]; omega
      · have hj10 : j = 10 := by omega
        subst hj10
        obtain ⟨w9, hw9⟩ : ∃ w9, w9 = wr := ⟨_, rfl⟩
        subst hw9
        go_wp2_with fail
        go_loopw [29] (fun i wr => ∃ (j : Nat) (p1 : Int → Bool), j ≤ ps.length ∧ i = .int .i64 j ∧ Hid (ArrIs wr b p1) ∧ Hid (Turn (· = b) (· = b) w wr) ∧ Hid (∀ i : Nat, i < 10 → (p i || mayTask (.mk 5 n ps) i) = (p1 i || mayTaskL (ps.drop j) i))) (fun i _ => ps.length - (intOf i).toNat)
        case atStart => exact ⟨0, (fun i => p i || decide (0 ≤ i ∧ i < ((10 : Nat) : Int))), Nat.zero_le _, rfl, Lib.hid hA1.out, Lib.hid hT.out, Lib.hid (by intro i hi; exact may_five p n ps i hi)⟩
        case round =>
          obtain ⟨j, p1, hj, rfl, hA1, hT, he⟩ := hrel
          have hbw : Below B w0 wr := hb.out.trans (hT.out.below hB (fun i e => by cases e; exact hBb))
          have hsz := hT.out.size
          have hbz : b < wr.heap.size := by omega
          by_cases hlt : j < ps.length
          · obtain ⟨bq, oq, A', c', rfl, hbl, y0, y1, y2, hc', hm', hp'⟩ := hp.out.at hbw j hlt
            have hbl' : bq < wr.heap.size := by omega
            have hcall := ih.out ps[j] (List.getElem_mem _) (hfL.out _ (List.getElem_mem _)) A' c' B b p1 w0 (wr.alloc (.cells #[.int .i64 ps[j].kind, .int .i64 ps[j].n, .slice A' ps[j].parts.length c'] 36 (0, 0))) (below_al' hbw _ (by omega)) (by simp; omega) hc' hm' hp' (hA1.out.turn (heap_old hbz)) hBb
            replace hcall := Lib.hid hcall
            replace hbw := Lib.hid hbw
            clear hp'
            go_wp2_with fail
            refine hcall.out.mono ?_
            rintro e w2 ⟨⟨v, rfl⟩, hA2, hT2⟩
            have hT3 := (hT.out.alloc _).trans hT2
            have he2 : ∀ i : Nat, i < 10 → (p i || mayTask (.mk 5 n ps) i) = ((p1 i || mayTask ps[j] i) || mayTaskL (ps.drop (j + 1)) i) := fun i hi => by
              rw [he.out i hi, List.drop_eq_getElem_cons hlt, mayTaskL, Bool.or_assoc]
            replace hA2 := Lib.hid hA2
            replace hT3 := Lib.hid hT3
            replace he2 := Lib.hid he2
            clear hcall hT2 he hA1 hT y0 y1 y2
            go_wp2_with fail
            go_roundw
            case rel => exact ⟨j + 1, _, by omega, by go_num, hA2, hT3, he2⟩
            case measure => simp [intOf]; omega
          · have he2 : ∀ i : Nat, i < 10 → p1 i = (p i || mayTask (.mk 5 n ps) i) := fun i hi => by
              rw [he.out i hi, List.drop_eq_nil_of_le (by omega), mayTaskL, Bool.or_false]
            replace he2 := Lib.hid he2
            replace hbw := Lib.hid hbw
            clear he
            go_wp2_with fail
            go_end0
            exact ⟨⟨_, rfl⟩, hA1.out.congr he2.out, hT.out⟩
  have e1 : (k == 1) = false := by simp [k1]
  have e5 : (k == 5) = false := by simp [k5]
  have hA0 : ArrIs (w.alloc (.cells #[.int .i64 k, .int .i64 n, .slice A ps.length c] 36 (0, 0))) b p := hA.turn (heap_old hblt)
  have hown : ∀ i, mayTask (.mk k n ps) i = mayTaskL ps i := fun i => by simp [mayTask, k1, k5]
  replace hA := Lib.hid hA
  replace hA0 := Lib.hid hA0
  replace hown := Lib.hid hown
  clear hfn hfl k1 k5
  go_enter Try.func57, Try.ntmps57
  go_wp2_with fail
  go_loopw [29] (fun i wr => ∃ (j : Nat) (p1 : Int → Bool), j ≤ ps.length ∧ i = .int .i64 j ∧ Hid (ArrIs wr b p1) ∧ Hid (Turn (· = b) (· = b) w wr) ∧ Hid (∀ i : Nat, i < 10 → (p i || mayTask (.mk k n ps) i) = (p1 i || mayTaskL (ps.drop j) i))) (fun i _ => ps.length - (intOf i).toNat)
  case atStart => exact ⟨0, p, Nat.zero_le _, rfl, Lib.hid hA0.out, Lib.hid ((Turn.refl _ _).alloc _), Lib.hid (by intro i hi; rw [hown.out]; rfl)⟩
  case round =>
    obtain ⟨j, p1, hj, rfl, hA1, hT, he⟩ := hrel
    have hbw : Below B w0 wr := hb.out.trans (hT.out.below hB (fun i e => by cases e; exact hBb))
    have hsz := hT.out.size
    have hbz : b < wr.heap.size := by omega
    by_cases hlt : j < ps.length
    · obtain ⟨bq, oq, A', c', rfl, hbl, y0, y1, y2, hc', hm', hp'⟩ := hp.out.at hbw j hlt
      have hbl' : bq < wr.heap.size := by omega
      have hcall := ih.out ps[j] (List.getElem_mem _) (hfL.out _ (List.getElem_mem _)) A' c' B b p1 w0 (wr.alloc (.cells #[.int .i64 ps[j].kind, .int .i64 ps[j].n, .slice A' ps[j].parts.length c'] 36 (0, 0))) (below_al' hbw _ (by omega)) (by simp; omega) hc' hm' hp' (hA1.out.turn (heap_old hbz)) hBb
      replace hcall := Lib.hid hcall
      replace hbw := Lib.hid hbw
      clear hp'
      go_wp2_with fail
      refine hcall.out.mono ?_
      rintro e w2 ⟨⟨v, rfl⟩, hA2, hT2⟩
      have hT3 := (hT.out.alloc _).trans hT2
      have he2 : ∀ i : Nat, i < 10 → (p i || mayTask (.mk k n ps) i) = ((p1 i || mayTask ps[j] i) || mayTaskL (ps.drop (j + 1)) i) := fun i hi => by
        rw [he.out i hi, List.drop_eq_getElem_cons hlt, mayTaskL, Bool.or_assoc]
      replace hA2 := Lib.hid hA2
      replace hT3 := Lib.hid hT3
      replace he2 := Lib.hid he2
      clear hcall hT2 he hA1 hT y0 y1 y2
      go_wp2_with fail
      go_roundw
      case rel => exact ⟨j + 1, _, by omega, by go_num, hA2, hT3, he2⟩
      case measure => simp [intOf]; omega
    · have he2 : ∀ i : Nat, i < 10 → p1 i = (p i || mayTask (.mk k n ps) i) := fun i hi => by
        rw [he.out i hi, List.drop_eq_nil_of_le (by omega), mayTaskL, Bool.or_false]
      replace he2 := Lib.hid he2
      replace hbw := Lib.hid hbw
      clear he
      go_wp2_with fail
      go_end0
      exact ⟨⟨_, rfl⟩, hA1.out.congr he2.out, hT.out⟩
end Go.Proofs.Ytagmdljdcnmpdaa
