import Derived.Test.YtkbblekengdhaaaPk4Told
import Derived.Test.YtkbblekengdhaaaPk6Told
set_option linter.unusedVariables false
set_option linter.unusedSimpArgs false
namespace Go.Proofs.Ytkbblekengdhaaa
open Go Go.RowKit

/-- an array of ten truths -/
def ArrIs (w : World) (b : Nat) (p : Int → Bool) : Prop := w.heap[b]? = some (.cells ((List.range 10).map (fun i : Nat => Value.bool (p i))).toArray 72 (0, 0))
theorem ArrIs.congr {w : World} {b : Nat} {p q : Int → Bool} (h : ArrIs w b p) (e : ∀ i : Nat, i < 10 → p i = q i) : ArrIs w b q := by
  unfold ArrIs at h ⊢
  rw [h]
  congr 3
  exact List.map_congr_left (fun i hi => by rw [e i (List.mem_range.1 hi)])
theorem ArrIs.cell {w : World} {b : Nat} {p : Int → Bool} (h : ArrIs w b p) {n : Nat} (hn : n < 10) : w.cell? ⟨b, n, none⟩ = some (.bool (p n)) := by
  rw [cellm h n]; simp [hn]
theorem ArrIs.frozen {w : World} {b : Nat} {p : Int → Bool} (h : ArrIs w b p) (n : Nat) : w.frozen? ⟨b, n, none⟩ = false := frozenm h n
theorem ArrIs.set {w : World} {b : Nat} {p : Int → Bool} (h : ArrIs w b p) {n : Nat} (hn : n < 10) : ArrIs (w.setCell ⟨b, n, none⟩ (.bool true)) b (fun i => p i || decide (i = n)) := by
  unfold ArrIs
  rw [setCell_block h n]
  congr 2
  apply Array.ext
  · simp
  · intro i h1 h2
    simp at h1
    simp [Array.getElem_setIfInBounds]
    by_cases e : n = i
    · subst e; simp
    · have e2 : ¬ i = n := fun h => e h.symm
      have e3 : ¬ (i : Int) = (n : Int) := by omega
      simp [e, e2, e3]
theorem ArrIs.turn {w w' : World} {b : Nat} {p : Int → Bool} (h : ArrIs w b p) (hk : w'.heap[b]? = w.heap[b]?) : ArrIs w' b p := hk.trans h

theorem may_five (p : Int → Bool) (n : Int) (ps : List Task) (i : Nat) (hi : i < 10) : (p i || mayTask (.mk 5 n ps) i) = ((fun i : Int => p i || decide (0 ≤ i ∧ i < ((10 : Nat) : Int))) i || mayTaskL (ps.drop 0) i) := by
  have h9 : decide (0 ≤ (i : Int) ∧ (i : Int) ≤ 9) = true := by simp; omega
  have h10 : decide (0 ≤ (i : Int) ∧ (i : Int) < ((10 : Nat) : Int)) = true := by simp; omega
  simp only [mayTask, h9, h10, decide_true, Bool.and_true, Bool.or_true, Bool.true_or, Bool.true_and]
set_option maxHeartbeats 2000000 in
theorem may_calls : ∀ (t : Task), fitAll t = true → ∀ (A : Option Addr) (c B b : Nat) (p : Int → Bool) (w0 w : World), Below B w0 w → B ≤ w.heap.size → t.parts.length ≤ c → c ≤ maxLen → PartsIs B w0 A 0 t.parts → ArrIs w b p → B ≤ b →
    Calls Try.prog 51 #[.agg #[.int .i64 t.kind, .int .i64 t.n, .slice A t.parts.length c], .pointer (some ⟨b, 0, none⟩)] w fun e w' => (∃ v, e = .returned v) ∧ ArrIs w' b (fun i => p i || mayTask t i) ∧ Turn (· = b) (· = b) w w' := by
  refine Task.ind ?_
  intro k n ps ih hfit A c B b p w0 w hb hB hc hm hp hA hBb
  simp only [Task.kind, Task.n, Task.parts] at hc hp ⊢
  unfold maxLen at hm
  rw [fitAll, Bool.and_eq_true] at hfit
  obtain ⟨hfn, hfl⟩ := hfit
  have hfL : ∀ q ∈ ps, fitAll q = true := by
    have : ∀ (l : List Task), fitAllL l = true → ∀ q ∈ l, fitAll q = true := by
      intro l
      induction l with
      | nil => intro _ q hq; cases hq
      | cons a l ihl =>
        intro h q hq
        rw [fitAllL, Bool.and_eq_true] at h
        rcases List.mem_cons.1 hq with rfl | hq
        · exact h.1
        · exact ihl h.2 q hq
    exact this ps hfl
  have hblt := block_lt hA
  -- the loop over the parts, from a world in which the node itself is done
  replace ih := Lib.hid ih
  replace hp := Lib.hid hp
  replace hfL := Lib.hid hfL
  replace hb := Lib.hid hb
  by_cases k1 : k = 1
  · subst k1
    have hn : 0 ≤ n ∧ n ≤ 9 := by
      unfold fitsN at hfn
      simp at hfn
      omega
    obtain ⟨q, rfl⟩ := Int.eq_ofNat_of_zero_le hn.1
    have hq : q < 10 := by omega
    have y := hA.cell hq
    have f := hA.frozen q
    have hset := hA.set hq
    have hst : Turn (· = b) (· = b) w (w.setCell ⟨b, q, none⟩ (.bool true)) := setCell_turn (F := (· = b)) rfl _
    have hz2 : b < (w.setCell ⟨b, q, none⟩ (.bool true)).heap.size := by rw [World.size_setCell]; exact hblt
    replace hA := Lib.hid hA
    replace hset := Lib.hid hset
    replace hst := Lib.hid hst
    replace hz2 := Lib.hid hz2
    clear hfn hfl
    go_enter Try.func51, Try.ntmps51
    go_wp2_with fail
    go_region
    go_wp2_with fail
    go_loopw [29] (fun i wr => ∃ (j : Nat) (p1 : Int → Bool), j ≤ ps.length ∧ i = .int .i64 j ∧ Hid (ArrIs wr b p1) ∧ Hid (Turn (· = b) (· = b) w wr) ∧ Hid (∀ i : Nat, i < 10 → (p i || mayTask (.mk 1 q ps) i) = (p1 i || mayTaskL (ps.drop j) i))) (fun i _ => ps.length - (intOf i).toNat)
    case atStart => exact ⟨0, (fun i => p i || decide (i = (q : Int))), Nat.zero_le _, rfl, Lib.hid (hset.out.turn (heap_old hz2.out)), Lib.hid ((hst.out.alloc _).drew), Lib.hid (by intro i hi; simp [mayTask, Bool.or_assoc])⟩
    case round =>
      obtain ⟨j, p1, hj, rfl, hA1, hT, he⟩ := hrel
      have hbw : Below B w0 wr := hb.out.trans (hT.out.below hB (fun i e => by cases e; exact hBb))
      have hsz := hT.out.size
      have hbz : b < wr.heap.size := by omega
      by_cases hlt : j < ps.length
      · obtain ⟨bq, oq, A', c', rfl, hbl, y0, y1, y2, hc', hm', hp'⟩ := hp.out.at hbw j hlt
        have hbl' : bq < wr.heap.size := by omega
        have hcall := ih.out ps[j] (List.getElem_mem _) (hfL.out _ (List.getElem_mem _)) A' c' B b p1 w0 (wr.alloc (.cells #[.int .i64 ps[j].kind, .int .i64 ps[j].n, .slice A' ps[j].parts.length c'] 39 (0, 0))) (below_al' hbw _ (by omega)) (by simp; omega) hc' hm' hp' (hA1.out.turn (heap_old hbz)) hBb
        replace hcall := Lib.hid hcall
        replace hbw := Lib.hid hbw
        clear hp'
        go_wp2_with fail
        refine hcall.out.mono ?_
        rintro e w2 ⟨⟨v, rfl⟩, hA2, hT2⟩
        have hT3 := (hT.out.alloc _).trans hT2
        have he2 : ∀ i : Nat, i < 10 → (p i || mayTask (.mk 1 q ps) i) = ((p1 i || mayTask ps[j] i) || mayTaskL (ps.drop (j + 1)) i) := fun i hi => by
          rw [he.out i hi, List.drop_eq_getElem_cons hlt, mayTaskL, Bool.or_assoc]
        replace hA2 := Lib.hid hA2
        replace hT3 := Lib.hid hT3
        replace he2 := Lib.hid he2
        clear hcall hT2 he hA1 hT y0 y1 y2
        go_wp2_with fail
        go_roundw
        case rel => exact ⟨j + 1, _, by omega, by go_num, hA2, hT3, he2⟩
        case measure => simp [intOf]; omega
      · have he2 : ∀ i : Nat, i < 10 → p1 i = (p i || mayTask (.mk 1 q ps) i) := fun i hi => by
          rw [he.out i hi, List.drop_eq_nil_of_le (by omega), mayTaskL, Bool.or_false]
        replace he2 := Lib.hid he2
        replace hbw := Lib.hid hbw
        clear he
        go_wp2_with fail
        go_end0
        exact ⟨⟨_, rfl⟩, hA1.out.congr he2.out, hT.out⟩
  by_cases k5 : k = 5
  · subst k5
    have hA0 : ArrIs (w.alloc (.cells #[.int .i64 5, .int .i64 n, .slice A ps.length c] 39 (0, 0))) b p := hA.turn (heap_old hblt)
    replace hA := Lib.hid hA
    replace hA0 := Lib.hid hA0
    clear hfn hfl
    go_enter Try.func51, Try.ntmps51
    go_wp2_with fail
    go_loopw [18] (fun i wr => ∃ (j : Nat), j ≤ 10 ∧ i = .int .i64 j ∧ w.heap.size < wr.heap.size ∧ wr.cell? ⟨w.heap.size, 2, none⟩ = some (.slice A ps.length c) ∧ Hid (ArrIs wr b (fun i => p i || decide (0 ≤ i ∧ i < j))) ∧ Hid (Turn (· = b) (· = b) w wr)) (fun i _ => 10 - (intOf i).toNat)
    case atStart => exact ⟨0, by omega, rfl, by simp, by simp, Lib.hid (hA0.out.congr (fun i hi => by simp; intro h; omega)), Lib.hid ((Turn.refl _ _).alloc _)⟩
    case round =>
      obtain ⟨j, hj, rfl, hz, hbox, hA1, hT⟩ := hrel
      have hbz : b < wr.heap.size := by omega
      by_cases hlt : j < 10
      · have y := hA1.out.cell hlt
        have f := hA1.out.frozen j
        have hset := hA1.out.set hlt
        have hset2 : ArrIs (wr.setCell ⟨b, j, none⟩ (.bool true)) b (fun i => p i || decide (0 ≤ i ∧ i < ((j + 1 : Nat) : Int))) := hset.congr (fun i hi => by
          rw [Bool.or_assoc]
          congr 1
          rw [Bool.eq_iff_iff]
          simp
          omega)
        have hst : Turn (· = b) (· = b) w (wr.setCell ⟨b, j, none⟩ (.bool true)) := hT.out.trans (setCell_turn (F := (· = b)) rfl _)
        have hne : b ≠ w.heap.size := by omega
        replace hset2 := Lib.hid hset2
        replace hst := Lib.hid hst
        clear hset
        go_wp2_with fail
        go_roundw
        case rel => exact ⟨j + 1, by omega, by go_num, by simpa using hz, (World.cell?_of_block (w := wr) (setCell_far (fun e => hne e.symm))).trans hbox, hset2, hst⟩
        case measure => simp [intOf]; omega
      · have hj10 : j = 10 := by omega
        subst hj10
        obtain ⟨w9, hw9⟩ : ∃ w9, w9 = wr := ⟨_, rfl⟩
        subst hw9
        go_wp2_with fail
        go_loopw [29] (fun i wr => ∃ (j : Nat) (p1 : Int → Bool), j ≤ ps.length ∧ i = .int .i64 j ∧ Hid (ArrIs wr b p1) ∧ Hid (Turn (· = b) (· = b) w wr) ∧ Hid (∀ i : Nat, i < 10 → (p i || mayTask (.mk 5 n ps) i) = (p1 i || mayTaskL (ps.drop j) i))) (fun i _ => ps.length - (intOf i).toNat)
        case atStart => exact ⟨0, (fun i => p i || decide (0 ≤ i ∧ i < ((10 : Nat) : Int))), Nat.zero_le _, rfl, Lib.hid hA1.out, Lib.hid hT.out, Lib.hid (by intro i hi; exact may_five p n ps i hi)⟩
        case round =>
          obtain ⟨j, p1, hj, rfl, hA1, hT, he⟩ := hrel
          have hbw : Below B w0 wr := hb.out.trans (hT.out.below hB (fun i e => by cases e; exact hBb))
          have hsz := hT.out.size
          have hbz : b < wr.heap.size := by omega
          by_cases hlt : j < ps.length
          · obtain ⟨bq, oq, A', c', rfl, hbl, y0, y1, y2, hc', hm', hp'⟩ := hp.out.at hbw j hlt
            have hbl' : bq < wr.heap.size := by omega
            have hcall := ih.out ps[j] (List.getElem_mem _) (hfL.out _ (List.getElem_mem _)) A' c' B b p1 w0 (wr.alloc (.cells #[.int .i64 ps[j].kind, .int .i64 ps[j].n, .slice A' ps[j].parts.length c'] 39 (0, 0))) (below_al' hbw _ (by omega)) (by simp; omega) hc' hm' hp' (hA1.out.turn (heap_old hbz)) hBb
            replace hcall := Lib.hid hcall
            replace hbw := Lib.hid hbw
            clear hp'
            go_wp2_with fail
            refine hcall.out.mono ?_
            rintro e w2 ⟨⟨v, rfl⟩, hA2, hT2⟩
            have hT3 := (hT.out.alloc _).trans hT2
            have he2 : ∀ i : Nat, i < 10 → (p i || mayTask (.mk 5 n ps) i) = ((p1 i || mayTask ps[j] i) || mayTaskL (ps.drop (j + 1)) i) := fun i hi => by
              rw [he.out i hi, List.drop_eq_getElem_cons hlt, mayTaskL, Bool.or_assoc]
            replace hA2 := Lib.hid hA2
            replace hT3 := Lib.hid hT3
            replace he2 := Lib.hid he2
            clear hcall hT2 he hA1 hT y0 y1 y2
            go_wp2_with fail
            go_roundw
            case rel => exact ⟨j + 1, _, by omega, by go_num, hA2, hT3, he2⟩
            case measure => simp [intOf]; omega
          · have he2 : ∀ i : Nat, i < 10 → p1 i = (p i || mayTask (.mk 5 n ps) i) := fun i hi => by
              rw [he.out i hi, List.drop_eq_nil_of_le (by omega), mayTaskL, Bool.or_false]
            replace he2 := Lib.hid he2
            replace hbw := Lib.hid hbw
            clear he
            go_wp2_with fail
            go_end0
            exact ⟨⟨_, rfl⟩, hA1.out.congr he2.out, hT.out⟩
  have e1 : (k == 1) = false := by simp [k1]
  have e5 : (k == 5) = false := by simp [k5]
  have hA0 : ArrIs (w.alloc (.cells #[.int .i64 k, .int .i64 n, .slice A ps.length c] 39 (0, 0))) b p := hA.turn (heap_old hblt)
  have hown : ∀ i, mayTask (.mk k n ps) i = mayTaskL ps i := fun i => by simp [mayTask, k1, k5]
  replace hA := Lib.hid hA
  replace hA0 := Lib.hid hA0
  replace hown := Lib.hid hown
  clear hfn hfl k1 k5
  go_enter Try.func51, Try.ntmps51
  go_wp2_with fail
  go_loopw [29] (fun i wr => ∃ (j : Nat) (p1 : Int → Bool), j ≤ ps.length ∧ i = .int .i64 j ∧ Hid (ArrIs wr b p1) ∧ Hid (Turn (· = b) (· = b) w wr) ∧ Hid (∀ i : Nat, i < 10 → (p i || mayTask (.mk k n ps) i) = (p1 i || mayTaskL (ps.drop j) i))) (fun i _ => ps.length - (intOf i).toNat)
  case atStart => exact ⟨0, p, Nat.zero_le _, rfl, Lib.hid hA0.out, Lib.hid ((Turn.refl _ _).alloc _), Lib.hid (by intro i hi; rw [hown.out]; rfl)⟩
  case round =>
    obtain ⟨j, p1, hj, rfl, hA1, hT, he⟩ := hrel
    have hbw : Below B w0 wr := hb.out.trans (hT.out.below hB (fun i e => by cases e; exact hBb))
    have hsz := hT.out.size
    have hbz : b < wr.heap.size := by omega
    by_cases hlt : j < ps.length
    · obtain ⟨bq, oq, A', c', rfl, hbl, y0, y1, y2, hc', hm', hp'⟩ := hp.out.at hbw j hlt
      have hbl' : bq < wr.heap.size := by omega
      have hcall := ih.out ps[j] (List.getElem_mem _) (hfL.out _ (List.getElem_mem _)) A' c' B b p1 w0 (wr.alloc (.cells #[.int .i64 ps[j].kind, .int .i64 ps[j].n, .slice A' ps[j].parts.length c'] 39 (0, 0))) (below_al' hbw _ (by omega)) (by simp; omega) hc' hm' hp' (hA1.out.turn (heap_old hbz)) hBb
      replace hcall := Lib.hid hcall
      replace hbw := Lib.hid hbw
      clear hp'
      go_wp2_with fail
      refine hcall.out.mono ?_
      rintro e w2 ⟨⟨v, rfl⟩, hA2, hT2⟩
      have hT3 := (hT.out.alloc _).trans hT2
      have he2 : ∀ i : Nat, i < 10 → (p i || mayTask (.mk k n ps) i) = ((p1 i || mayTask ps[j] i) || mayTaskL (ps.drop (j + 1)) i) := fun i hi => by
        rw [he.out i hi, List.drop_eq_getElem_cons hlt, mayTaskL, Bool.or_assoc]
      replace hA2 := Lib.hid hA2
      replace hT3 := Lib.hid hT3
      replace he2 := Lib.hid he2
      clear hcall hT2 he hA1 hT y0 y1 y2
      go_wp2_with fail
      go_roundw
      case rel => exact ⟨j + 1, _, by omega, by go_num, hA2, hT3, he2⟩
      case measure => simp [intOf]; omega
    · have he2 : ∀ i : Nat, i < 10 → p1 i = (p i || mayTask (.mk k n ps) i) := fun i hi => by
        rw [he.out i hi, List.drop_eq_nil_of_le (by omega), mayTaskL, Bool.or_false]
      replace he2 := Lib.hid he2
      replace hbw := Lib.hid hbw
      clear he
      go_wp2_with fail
      go_end0
      exact ⟨⟨_, rfl⟩, hA1.out.congr he2.out, hT.out⟩
end Go.Proofs.Ytkbblekengdhaaa

set_option linter.unusedVariables false
set_option linter.unusedSimpArgs false
namespace Go.Proofs.Ytkbblekengdhaaa
open Go Go.RowKit

/-- the keys that a task may fetch, from key j on -/
def mayFrom (t : Task) : Nat → List Int
  | 0 => []
  | m + 1 => (if mayTask t ((9 - m : Nat) : Int) then [((9 - m : Nat) : Int)] else []) ++ mayFrom t m
def mayList (t : Task) : List Int := if okT t then mayFrom t 10 else []
theorem mem_mayFrom (t : Task) : ∀ (m : Nat) (i : Nat), m ≤ 10 → 10 - m ≤ i → i < 10 → mayTask t i = true → (i : Int) ∈ mayFrom t m := by
  intro m
  induction m with
  | zero => intro i _ h1 h2 _; omega
  | succ m ih =>
    intro i hm h1 h2 h3
    rw [mayFrom, List.mem_append]
    by_cases e : i = 9 - m
    · left; rw [← e, if_pos h3]; simp
    · right; exact ih i (by omega) (by omega) h2 h3

set_option maxHeartbeats 2000000 in
theorem brHas_calls (A : Option Addr) (c : Nat) (xs : List Int) (x : Int) (w : World) (hx : IntsAt w.heap.size w A xs) (hl : xs.length ≤ 1000000) (hm : x ∈ xs) :
    Calls Try.prog 17 #[.slice A xs.length c, .int .i64 x] w fun e w' => e = .returned (.bool true) ∧ w = w' := by
  obtain ⟨q, hq, hqx⟩ := List.getElem_of_mem hm
  replace hx := Lib.hid hx
  replace hqx := Lib.hid hqx
  clear hm
  go_enter Try.func17, Try.ntmps17
  go_wp2_with fail
  go_loopw [5] (fun i wr => ∃ (j : Nat), j ≤ q ∧ i = .int .i64 j ∧ wr = w) (fun i _ => xs.length - (intOf i).toNat)
  case atStart => exact ⟨0, Nat.zero_le _, rfl, rfl⟩
  case round =>
    obtain ⟨j, hj, rfl, rfl⟩ := hrel
    have hlt : j < xs.length := by omega
    obtain ⟨b, o, rfl, hb, y⟩ := hx.out j hlt
    by_cases e : xs[j] = x
    · have e' : (xs[j] == x) = true := by simp [e]
      replace e := Lib.hid e
      go_wp2_with fail
      go_ret
      exact ⟨rfl, rfl⟩
    · have e' : (xs[j] == x) = false := by simp [e]
      have hjq : j ≠ q := fun h => by subst h; exact e hqx.out
      replace e := Lib.hid e
      go_wp2_with fail
      go_roundw
      case rel => exact ⟨j + 1, by omega, by go_num, by first | rfl | trivial⟩
      case measure => simp [intOf]; omega

theorem arr_index (cs : Array Value) (hs : cs.size = 10) (j : Nat) (hj : j < 10) (v : Value) (hv : cs[j]? = some v) (h1 : v.cells = #[v]) (w : World) : (Instr.index 72 (.agg cs) (.int .i64 j)).run Try.prog w = .ok v w := by
  have h : Try.prog.underlying 72 = some (.array 10 4) := Try.underlying72
  have hn : (0 ≤ (j : Int) ∧ (j : Int) < ((10 : Nat) : Int)) := by omega
  simp [Instr.index, run_underlying h, asIntOf, hn, go_sem]
  rw [if_pos hj, hv]
  rfl

set_option maxRecDepth 5000 in
set_option maxHeartbeats 4000000 in
theorem taskMay_calls (t : Task) (A : Option Addr) (c B : Nat) (w0 w : World) (hb : Below B w0 w) (hB : B ≤ w.heap.size) (hc : t.parts.length ≤ c) (hm : c ≤ maxLen) (hp : PartsIs B w0 A 0 t.parts) :
    Calls Try.prog 21 #[.agg #[.int .i64 t.kind, .int .i64 t.n, .slice A t.parts.length c]] w fun e w' => ∃ v, e = .returned v ∧ w'.ownsRow w.heap.size 3 1 v (mayList t).length (ints (mayList t)) ∧ Below w.heap.size w w' := by
  have h1 := fun w1 (hw : Below w.heap.size w w1) => taskOk_calls t A c B w0 w1 (below_up' hb hB hw) (Nat.le_trans hB hw.size) hc hm hp
  have h2 := fun (hf : fitAll t = true) w1 (hw : Below w.heap.size w w1) (b : Nat) (p : Int → Bool) (hA : ArrIs w1 b p) (hBb : B ≤ b) => may_calls t hf A c B b p w0 w1 (below_up' hb hB hw) (Nat.le_trans hB hw.size) hc hm hp hA hBb
  have hml : mayList t = if okT t then mayFrom t 10 else [] := rfl
  have hfit : okT t = true → fitAll t = true := fun h => (Bool.and_eq_true_iff.1 h).1
  replace h2 := Lib.hid h2
  clear hb hp
  cases hok : okT t with
  | false =>
    rw [hok] at h1 hml
    replace h1 := Lib.hid h1
    replace hml := Lib.hid hml
    clear hok hfit h2
    go_enter Try.func21, Try.ntmps21
    go_wp2_with fail
    refine (h1.out _ (below_al (Below.refl _ _) _)).mono ?_
    rintro e w1 ⟨rfl, h3⟩
    go_wp2_with fail
    go_ret
    rw [hml.out]
    exact ⟨_, rfl, World.ownsRow_nil _ _ _ _, below_from h3⟩
  | true =>
    have hf := hfit hok
    rw [hok, if_pos rfl] at hml
    rw [hok] at h1
    replace h1 := Lib.hid h1
    replace hml := Lib.hid hml
    replace hf := Lib.hid hf
    clear hok hfit
    go_enter Try.func21, Try.ntmps21
    go_wp2_with fail
    refine (h1.out _ (below_al (Below.refl _ _) _)).mono ?_
    rintro e w1 ⟨rfl, h3⟩
    have x0 : w1.cell? ⟨w.heap.size, 0, none⟩ = some (.int .i64 t.kind) := (h3.cell (p := ⟨w.heap.size, 0, none⟩) (by simp)).trans (by simp)
    have x1 : w1.cell? ⟨w.heap.size, 1, none⟩ = some (.int .i64 t.n) := (h3.cell (p := ⟨w.heap.size, 1, none⟩) (by simp)).trans (by simp)
    have x2 : w1.cell? ⟨w.heap.size, 2, none⟩ = some (.slice A t.parts.length c) := (h3.cell (p := ⟨w.heap.size, 2, none⟩) (by simp)).trans (by simp)
    have b1 := below_from h3
    have s1 : w.heap.size < w1.heap.size := by have := h3.size; simp at this; omega
    have hA : ArrIs (w1.alloc (.cells #[.bool false, .bool false, .bool false, .bool false, .bool false, .bool false, .bool false, .bool false, .bool false, .bool false] 72 (0, 0))) w1.heap.size (fun _ => false) := heap_new rfl
    have hcall := h2.out hf.out _ (b1.trans (below_al (Below.refl _ _) _ |>.mono b1.size)) w1.heap.size (fun _ => false) hA (Nat.le_trans hB b1.size)
    replace hcall := Lib.hid hcall
    replace b1 := Lib.hid b1
    clear h3 hA
    go_wp2_with fail
    refine hcall.out.mono ?_
    rintro e w2 ⟨⟨v, rfl⟩, hA2, hT2⟩
    have b2 : Below w.heap.size w w2 := b1.out.trans ((below_al (Below.refl _ w1) _).trans (hT2.below (by simp) (fun i e => by cases e; exact Nat.le_refl _)) |>.mono b1.out.size)
    have hA3 : ArrIs w2 w1.heap.size (fun i => mayTask t i) := hA2.congr (fun i hi => by simp)
    have c0 := hA3.cell (show 0 < 10 by omega)
    have c1 := hA3.cell (show 1 < 10 by omega)
    have c2 := hA3.cell (show 2 < 10 by omega)
    have c3 := hA3.cell (show 3 < 10 by omega)
    have c4 := hA3.cell (show 4 < 10 by omega)
    have c5 := hA3.cell (show 5 < 10 by omega)
    have c6 := hA3.cell (show 6 < 10 by omega)
    have c7 := hA3.cell (show 7 < 10 by omega)
    have c8 := hA3.cell (show 8 < 10 by omega)
    have c9 := hA3.cell (show 9 < 10 by omega)
    have hz2 := block_lt hA3
    replace b2 := Lib.hid b2
    clear hT2 hA2 hcall x0 x1 x2 hA3
    go_wp2_with fail
    have hget : ∀ j : Nat, j < 10 → (#[Value.bool (mayTask t 0), Value.bool (mayTask t 1), Value.bool (mayTask t 2), Value.bool (mayTask t 3), Value.bool (mayTask t 4), Value.bool (mayTask t 5), Value.bool (mayTask t 6), Value.bool (mayTask t 7), Value.bool (mayTask t 8), Value.bool (mayTask t 9)] : Array Value)[j]? = some (.bool (mayTask t j)) := by
      intro j hj
      rcases (show j = 0 ∨ j = 1 ∨ j = 2 ∨ j = 3 ∨ j = 4 ∨ j = 5 ∨ j = 6 ∨ j = 7 ∨ j = 8 ∨ j = 9 by omega) with rfl | rfl | rfl | rfl | rfl | rfl | rfl | rfl | rfl | rfl <;> rfl
    have hidx : ∀ (j : Nat) (W : World), j < 10 → (Instr.index 72 (.agg (#[Value.bool (mayTask t 0), Value.bool (mayTask t 1), Value.bool (mayTask t 2), Value.bool (mayTask t 3), Value.bool (mayTask t 4), Value.bool (mayTask t 5), Value.bool (mayTask t 6), Value.bool (mayTask t 7), Value.bool (mayTask t 8), Value.bool (mayTask t 9)] : Array Value)) (.int .i64 j)).run Try.prog W = .ok (.bool (mayTask t j)) W := fun j W hj => arr_index _ rfl j hj _ (hget j hj) rfl W
    clear c0 c1 c2 c3 c4 c5 c6 c7 c8 c9 hget
    generalize (#[Value.bool (mayTask t 0), Value.bool (mayTask t 1), Value.bool (mayTask t 2), Value.bool (mayTask t 3), Value.bool (mayTask t 4), Value.bool (mayTask t 5), Value.bool (mayTask t 6), Value.bool (mayTask t 7), Value.bool (mayTask t 8), Value.bool (mayTask t 9)] : Array Value) = cs at hidx ⊢
    have hml2 : ∀ j : Nat, j < 10 → mayFrom t (10 - j) = (if mayTask t j then [(j : Int)] else []) ++ mayFrom t (10 - (j + 1)) := fun j hj => by
      rw [show 10 - j = (9 - j) + 1 by omega, mayFrom, show 9 - (9 - j) = j by omega, show 10 - (j + 1) = 9 - j by omega]
    replace hidx := Lib.hid hidx
    replace hml2 := Lib.hid hml2
    go_loopw [4, 13] (fun o i wr => ∃ (j : Nat) (out : List Int), j ≤ 10 ∧ i = .int .i64 j ∧ out.length ≤ j ∧ Hid (out ++ mayFrom t (10 - j) = mayList t) ∧ Hid (wr.ownsRow w.heap.size 3 1 o out.length (ints out)) ∧ Hid (Below w.heap.size w wr)) (fun _ i _ => 10 - (intOf i).toNat)
    case atStart => exact ⟨0, [], by omega, rfl, by simp, Lib.hid (by rw [hml.out]; rfl), Lib.hid (World.ownsRow_nil _ _ _ _), b2⟩
    case round =>
      obtain ⟨j, out, hj, rfl, hol, he, hown, hw⟩ := hrel
      by_cases hlt : j < 10
      · have he2 := he.out
        rw [hml2.out j hlt] at he2
        have hsz := hw.out.size
        have hx := hidx.out j wr hlt
        cases hmj : mayTask t j with
        | false =>
          rw [hmj] at he2 hx
          have he3 : out ++ mayFrom t (10 - (j + 1)) = mayList t := by simpa using he2
          replace he3 := Lib.hid he3
          replace hmj := Lib.hid hmj
          clear he he2
          go_wp2_with fail
          go_roundw
          case rel => exact ⟨j + 1, out, by omega, by go_num, by omega, he3, hown, hw⟩
          case measure => simp [intOf]; omega
        | true =>
          rw [hmj] at he2 hx
          have he3 : (out ++ [(j : Int)]) ++ mayFrom t (10 - (j + 1)) = mayList t := by simpa using he2
          replace he3 := Lib.hid he3
          replace hmj := Lib.hid hmj
          clear he he2
          go_wp2_with (at_builtin; go_loud (with_reducible refine wpList_app1 (by rfl) (.tmp 18) (.tmp 20) 28 (by rfl) intTy w.heap.size u4 out.length (ints out) (by with_unfolding_all rfl) (hown.out.alloc _) wr.heap.size 1 [.int .i64 j] (by with_unfolding_all rfl) (by with_unfolding_all rfl) ⟨_, _, heap_alloc_new wr _, rfl⟩ (one_int _ _) ?_ ?_ ?_ ?_))
          · unfold maxLen; omega
          · omega
          · first | omega | (simp; omega)
          intro g cap w7 hown7 hgrow7 hat7
          have hw7 := (below_al' hw.out (.cells #[.int .i64 j] 3 (0, 0)) hsz).grown hgrow7 (by simp; omega) (fun i hi => (hown.out.lt i hi).1)
          have hown7' : w7.ownsRow w.heap.size 3 1 (.slice (some ⟨g, 0, none⟩) (out.length + 1) cap) (out ++ [(j : Int)]).length (ints (out ++ [(j : Int)])) := by simpa [ints_append, ints] using hown7
          replace hw7 := Lib.hid hw7
          replace hown7' := Lib.hid hown7'
          clear hown7 hgrow7 hat7 hown hw
          go_wp2_with fail
          go_roundw
          case rel => exact ⟨j + 1, out ++ [(j : Int)], by omega, by go_num, by simp; omega, he3, hown7', hw7⟩
          case measure => simp [intOf]; omega
      · have hj10 : j = 10 := by omega
        subst hj10
        have he2 : out = mayList t := by have := he.out; simpa [mayFrom] using this
        replace he2 := Lib.hid he2
        clear he
        go_wp2_with fail
        go_ret
        rw [← he2.out]
        exact ⟨_, rfl, hown.out, hw.out⟩
end Go.Proofs.Ytkbblekengdhaaa

set_option linter.unusedVariables false
set_option linter.unusedSimpArgs false
namespace Go.Proofs.Ytkbblekengdhaaa
open Go Go.RowKit

/-- a row of ten truths -/
def TenIs (w : World) (b : Nat) (p : Int → Bool) : Prop := w.heap[b]? = some (.cells ((List.range 10).map (fun i : Nat => Value.bool (p i))).toArray 4 (0, 0))
theorem TenIs.congr {w : World} {b : Nat} {p q : Int → Bool} (h : TenIs w b p) (e : ∀ i : Nat, i < 10 → p i = q i) : TenIs w b q := by
  unfold TenIs at h ⊢
  rw [h]
  congr 3
  exact List.map_congr_left (fun i hi => by rw [e i (List.mem_range.1 hi)])
theorem TenIs.cell {w : World} {b : Nat} {p : Int → Bool} (h : TenIs w b p) {n : Nat} (hn : n < 10) : w.cell? ⟨b, n, none⟩ = some (.bool (p n)) := by
  rw [cellm h n]; simp [hn]
theorem TenIs.frozen {w : World} {b : Nat} {p : Int → Bool} (h : TenIs w b p) (n : Nat) : w.frozen? ⟨b, n, none⟩ = false := frozenm h n
theorem TenIs.set {w : World} {b : Nat} {p : Int → Bool} (h : TenIs w b p) {n : Nat} (hn : n < 10) : TenIs (w.setCell ⟨b, n, none⟩ (.bool true)) b (fun i => p i || decide (i = n)) := by
  unfold TenIs
  rw [setCell_block h n]
  congr 2
  apply Array.ext
  · simp
  · intro i h1 h2
    simp at h1
    simp [Array.getElem_setIfInBounds]
    by_cases e : n = i
    · subst e; simp
    · have e2 : ¬ i = n := fun h => e h.symm
      have e3 : ¬ (i : Int) = (n : Int) := by omega
      simp [e, e2, e3]
theorem TenIs.turn {w w' : World} {b : Nat} {p : Int → Bool} (h : TenIs w b p) (hk : w'.heap[b]? = w.heap[b]?) : TenIs w' b p := hk.trans h

set_option maxHeartbeats 2000000 in
theorem l2May_calls : ∀ (t : Task), fitAll t = true → ∀ (A : Option Addr) (c B b : Nat) (p : Int → Bool) (w0 w : World), Below B w0 w → B ≤ w.heap.size → t.parts.length ≤ c → c ≤ maxLen → PartsIs B w0 A 0 t.parts → TenIs w b p → B ≤ b →
    Calls Try.prog 111 #[.agg #[.int .i64 t.kind, .int .i64 t.n, .slice A t.parts.length c], .slice (some ⟨b, 0, none⟩) 10 10] w fun e w' => (∃ v, e = .returned v) ∧ TenIs w' b (fun i => p i || mayTask t i) ∧ Turn (· = b) (· = b) w w' := by
  refine Task.ind ?_
  intro k n ps ih hfit A c B b p w0 w hb hB hc hm hp hA hBb
  simp only [Task.kind, Task.n, Task.parts] at hc hp ⊢
  unfold maxLen at hm
  rw [fitAll, Bool.and_eq_true] at hfit
  obtain ⟨hfn, hfl⟩ := hfit
  have hfL : ∀ q ∈ ps, fitAll q = true := by
    have : ∀ (l : List Task), fitAllL l = true → ∀ q ∈ l, fitAll q = true := by
      intro l
      induction l with
      | nil => intro _ q hq; cases hq
      | cons a l ihl =>
        intro h q hq
        rw [fitAllL, Bool.and_eq_true] at h
        rcases List.mem_cons.1 hq with rfl | hq
        · exact h.1
        · exact ihl h.2 q hq
    exact this ps hfl
  have hblt := block_lt hA
  -- the loop over the parts, from a world in which the node itself is done
  replace ih := Lib.hid ih
  replace hp := Lib.hid hp
  replace hfL := Lib.hid hfL
  replace hb := Lib.hid hb
  by_cases k1 : k = 1
  · subst k1
    have hn : 0 ≤ n ∧ n ≤ 9 := by
      unfold fitsN at hfn
      simp at hfn
      omega
    obtain ⟨q, rfl⟩ := Int.eq_ofNat_of_zero_le hn.1
    have hq : q < 10 := by omega
    have y := hA.cell hq
    have f := hA.frozen q
    have hset := hA.set hq
    have hst : Turn (· = b) (· = b) w (w.setCell ⟨b, q, none⟩ (.bool true)) := setCell_turn (F := (· = b)) rfl _
    have hz2 : b < (w.setCell ⟨b, q, none⟩ (.bool true)).heap.size := by rw [World.size_setCell]; exact hblt
    have hAf : TenIs ((w.setCell ⟨b, q, none⟩ (.bool true)).alloc (.cells #[.int .i64 1, .int .i64 q, .slice A ps.length c] 39 (0, 0))) b (fun i => p i || decide (i = (q : Int))) := hset.turn (heap_old hz2)
    have hTf : Turn (· = b) (· = b) w ((w.setCell ⟨b, q, none⟩ (.bool true)).alloc (.cells #[.int .i64 1, .int .i64 q, .slice A ps.length c] 39 (0, 0))) := hst.alloc _
    have hB0 : ((w.setCell ⟨b, q, none⟩ (.bool true)).alloc (.cells #[.int .i64 1, .int .i64 q, .slice A ps.length c] 39 (0, 0))).cell? ⟨w.heap.size, 0, none⟩ = some (.int .i64 1) := cellm (heap_new (by rw [World.size_setCell])) 0
    have hB2 : ((w.setCell ⟨b, q, none⟩ (.bool true)).alloc (.cells #[.int .i64 1, .int .i64 q, .slice A ps.length c] 39 (0, 0))).cell? ⟨w.heap.size, 2, none⟩ = some (.slice A ps.length c) := cellm (heap_new (by rw [World.size_setCell])) 2
    have hzf : w.heap.size < ((w.setCell ⟨b, q, none⟩ (.bool true)).alloc (.cells #[.int .i64 1, .int .i64 q, .slice A ps.length c] 39 (0, 0))).heap.size := by simp
    replace hA := Lib.hid hA
    replace hAf := Lib.hid hAf
    replace hTf := Lib.hid hTf
    clear hfn hfl hset hst hz2
    go_enter Try.func111, Try.ntmps111
    go_wp2_with fail
    generalize (w.setCell ⟨b, q, none⟩ (.bool true)).alloc (.cells #[.int .i64 1, .int .i64 q, .slice A ps.length c] 39 (0, 0)) = W at *
    go_loopw [4] (fun i wr => i = .int .i64 0 ∧ wr = W) (fun i _ => 0)
    case atStart => exact ⟨rfl, rfl⟩
    case round =>
      obtain ⟨rfl, hwr⟩ := hrel
      subst hwr
      go_wp2_with fail
      go_loopw [5] (fun i wr => ∃ (j : Nat) (p1 : Int → Bool), j ≤ ps.length ∧ i = .int .i64 j ∧ w.heap.size < wr.heap.size ∧ wr.cell? ⟨w.heap.size, 2, none⟩ = some (.slice A ps.length c) ∧ Hid (TenIs wr b p1) ∧ Hid (Turn (· = b) (· = b) w wr) ∧ Hid (∀ i : Nat, i < 10 → (p i || mayTask (.mk 1 q ps) i) = (p1 i || mayTaskL (ps.drop j) i))) (fun i _ => ps.length - (intOf i).toNat)
      case atStart => exact ⟨0, (fun i => p i || decide (i = (q : Int))), Nat.zero_le _, rfl, hzf, hB2, Lib.hid hAf.out, Lib.hid hTf.out, Lib.hid (by intro i hi; simp [mayTask, Bool.or_assoc])⟩
      case round =>
        obtain ⟨j, p1, hj, rfl, hz, hbox, hA1, hT, he⟩ := hrel
        have hbw : Below B w0 wr := hb.out.trans (hT.out.below hB (fun i e => by cases e; exact hBb))
        have hsz := hT.out.size
        have hbz : b < wr.heap.size := by omega
        by_cases hlt : j < ps.length
        · obtain ⟨bq, oq, A', c', rfl, hbl, y0, y1, y2, hc', hm', hp'⟩ := hp.out.at hbw j hlt
          have hbl' : bq < wr.heap.size := by omega
          have hcall := ih.out ps[j] (List.getElem_mem _) (hfL.out _ (List.getElem_mem _)) A' c' B b p1 w0 wr hbw (by omega) hc' hm' hp' hA1.out hBb
          replace hcall := Lib.hid hcall
          replace hbw := Lib.hid hbw
          clear hp'
          go_wp2_with fail
          refine hcall.out.mono ?_
          rintro e w2 ⟨⟨v, rfl⟩, hA2, hT2⟩
          have hT3 := hT.out.trans hT2
          have he2 : ∀ i : Nat, i < 10 → (p i || mayTask (.mk 1 q ps) i) = ((p1 i || mayTask ps[j] i) || mayTaskL (ps.drop (j + 1)) i) := fun i hi => by
            rw [he.out i hi, List.drop_eq_getElem_cons hlt, mayTaskL, Bool.or_assoc]
          have hbox2 := (hT2.cell 2 hz (fun e => by omega)).trans hbox
          have hz2 : w.heap.size < w2.heap.size := by have := hT2.size; omega
          replace hA2 := Lib.hid hA2
          replace hT3 := Lib.hid hT3
          replace he2 := Lib.hid he2
          clear hcall hT2 he hA1 hT y0 y1 y2 hbox
          go_wp2_with fail
          go_roundw
          case rel => exact ⟨j + 1, _, by omega, by go_num, hz2, hbox2, hA2, hT3, he2⟩
          case measure => simp [intOf]; omega
        · have he2 : ∀ i : Nat, i < 10 → p1 i = (p i || mayTask (.mk 1 q ps) i) := fun i hi => by
            rw [he.out i hi, List.drop_eq_nil_of_le (by omega), mayTaskL, Bool.or_false]
          replace he2 := Lib.hid he2
          replace hbw := Lib.hid hbw
          clear he
          go_wp2_with fail
          go_end0
          exact ⟨⟨_, rfl⟩, hA1.out.congr he2.out, hT.out⟩
  by_cases k5 : k = 5
  · subst k5
    have hA0 : TenIs (w.alloc (.cells #[.int .i64 5, .int .i64 n, .slice A ps.length c] 39 (0, 0))) b p := hA.turn (heap_old hblt)
    replace hA := Lib.hid hA
    replace hA0 := Lib.hid hA0
    clear hfn hfl
    go_enter Try.func111, Try.ntmps111
    go_wp2_with fail
    go_loopw [4] (fun i wr => ∃ (j : Nat), j ≤ 10 ∧ i = .int .i64 j ∧ w.heap.size < wr.heap.size ∧ wr.cell? ⟨w.heap.size, 0, none⟩ = some (.int .i64 5) ∧ wr.cell? ⟨w.heap.size, 2, none⟩ = some (.slice A ps.length c) ∧ Hid (TenIs wr b (fun i => p i || decide (0 ≤ i ∧ i < j))) ∧ Hid (Turn (· = b) (· = b) w wr)) (fun i _ => 10 - (intOf i).toNat)
    case atStart => exact ⟨0, by omega, rfl, by simp, by simp, by simp, Lib.hid (hA0.out.congr (fun i hi => by simp; intro h; omega)), Lib.hid ((Turn.refl _ _).alloc _)⟩
    case round =>
      obtain ⟨j, hj, rfl, hz, hbox0, hbox, hA1, hT⟩ := hrel
      have hbz : b < wr.heap.size := by omega
      by_cases hlt : j < 10
      · have y := hA1.out.cell hlt
        have f := hA1.out.frozen j
        have hset := hA1.out.set hlt
        have hset2 : TenIs (wr.setCell ⟨b, j, none⟩ (.bool true)) b (fun i => p i || decide (0 ≤ i ∧ i < ((j + 1 : Nat) : Int))) := hset.congr (fun i hi => by
          rw [Bool.or_assoc]
          congr 1
          rw [Bool.eq_iff_iff]
          simp
          omega)
        have hst : Turn (· = b) (· = b) w (wr.setCell ⟨b, j, none⟩ (.bool true)) := hT.out.trans (setCell_turn (F := (· = b)) rfl _)
        have hne : b ≠ w.heap.size := by omega
        replace hset2 := Lib.hid hset2
        replace hst := Lib.hid hst
        clear hset
        go_wp2_with fail
        go_roundw
        case rel => exact ⟨j + 1, by omega, by go_num, by simpa using hz, (World.cell?_of_block (w := wr) (setCell_far (fun e => hne e.symm))).trans hbox0, (World.cell?_of_block (w := wr) (setCell_far (fun e => hne e.symm))).trans hbox, hset2, hst⟩
        case measure => simp [intOf]; omega
      · have hj10 : j = 10 := by omega
        subst hj10
        obtain ⟨w9, hw9⟩ : ∃ w9, w9 = wr := ⟨_, rfl⟩
        subst hw9
        go_wp2_with fail
        go_loopw [5] (fun i wr => ∃ (j : Nat) (p1 : Int → Bool), j ≤ ps.length ∧ i = .int .i64 j ∧ w.heap.size < wr.heap.size ∧ wr.cell? ⟨w.heap.size, 2, none⟩ = some (.slice A ps.length c) ∧ Hid (TenIs wr b p1) ∧ Hid (Turn (· = b) (· = b) w wr) ∧ Hid (∀ i : Nat, i < 10 → (p i || mayTask (.mk 5 n ps) i) = (p1 i || mayTaskL (ps.drop j) i))) (fun i _ => ps.length - (intOf i).toNat)
        case atStart => exact ⟨0, (fun i => p i || decide (0 ≤ i ∧ i < ((10 : Nat) : Int))), Nat.zero_le _, rfl, hz, hbox, Lib.hid hA1.out, Lib.hid hT.out, Lib.hid (by intro i hi; exact may_five p n ps i hi)⟩
        case round =>
          obtain ⟨j, p1, hj, rfl, hz, hbox, hA1, hT, he⟩ := hrel
          have hbw : Below B w0 wr := hb.out.trans (hT.out.below hB (fun i e => by cases e; exact hBb))
          have hsz := hT.out.size
          have hbz : b < wr.heap.size := by omega
          by_cases hlt : j < ps.length
          · obtain ⟨bq, oq, A', c', rfl, hbl, y0, y1, y2, hc', hm', hp'⟩ := hp.out.at hbw j hlt
            have hbl' : bq < wr.heap.size := by omega
            have hcall := ih.out ps[j] (List.getElem_mem _) (hfL.out _ (List.getElem_mem _)) A' c' B b p1 w0 wr hbw (by omega) hc' hm' hp' hA1.out hBb
            replace hcall := Lib.hid hcall
            replace hbw := Lib.hid hbw
            clear hp'
            go_wp2_with fail
            refine hcall.out.mono ?_
            rintro e w2 ⟨⟨v, rfl⟩, hA2, hT2⟩
            have hT3 := hT.out.trans hT2
            have he2 : ∀ i : Nat, i < 10 → (p i || mayTask (.mk 5 n ps) i) = ((p1 i || mayTask ps[j] i) || mayTaskL (ps.drop (j + 1)) i) := fun i hi => by
              rw [he.out i hi, List.drop_eq_getElem_cons hlt, mayTaskL, Bool.or_assoc]
            have hbox2 := (hT2.cell 2 hz (fun e => by omega)).trans hbox
            have hz2 : w.heap.size < w2.heap.size := by have := hT2.size; omega
            replace hA2 := Lib.hid hA2
            replace hT3 := Lib.hid hT3
            replace he2 := Lib.hid he2
            clear hcall hT2 he hA1 hT y0 y1 y2 hbox
            go_wp2_with fail
            go_roundw
            case rel => exact ⟨j + 1, _, by omega, by go_num, hz2, hbox2, hA2, hT3, he2⟩
            case measure => simp [intOf]; omega
          · have he2 : ∀ i : Nat, i < 10 → p1 i = (p i || mayTask (.mk 5 n ps) i) := fun i hi => by
              rw [he.out i hi, List.drop_eq_nil_of_le (by omega), mayTaskL, Bool.or_false]
            replace he2 := Lib.hid he2
            replace hbw := Lib.hid hbw
            clear he
            go_wp2_with fail
            go_end0
            exact ⟨⟨_, rfl⟩, hA1.out.congr he2.out, hT.out⟩
  have e1 : (k == 1) = false := by simp [k1]
  have e5 : (k == 5) = false := by simp [k5]
  have hA0 : TenIs (w.alloc (.cells #[.int .i64 k, .int .i64 n, .slice A ps.length c] 39 (0, 0))) b p := hA.turn (heap_old hblt)
  have hTf : Turn (· = b) (· = b) w (w.alloc (.cells #[.int .i64 k, .int .i64 n, .slice A ps.length c] 39 (0, 0))) := (Turn.refl _ _).alloc _
  have hB0 : (w.alloc (.cells #[.int .i64 k, .int .i64 n, .slice A ps.length c] 39 (0, 0))).cell? ⟨w.heap.size, 0, none⟩ = some (.int .i64 k) := by simp
  have hB2 : (w.alloc (.cells #[.int .i64 k, .int .i64 n, .slice A ps.length c] 39 (0, 0))).cell? ⟨w.heap.size, 2, none⟩ = some (.slice A ps.length c) := by simp
  have hzf : w.heap.size < (w.alloc (.cells #[.int .i64 k, .int .i64 n, .slice A ps.length c] 39 (0, 0))).heap.size := by simp
  have hown : ∀ i, mayTask (.mk k n ps) i = mayTaskL ps i := fun i => by simp [mayTask, k1, k5]
  replace hA := Lib.hid hA
  replace hA0 := Lib.hid hA0
  replace hTf := Lib.hid hTf
  replace hown := Lib.hid hown
  clear hfn hfl k1 k5
  go_enter Try.func111, Try.ntmps111
  go_wp2_with fail
  generalize w.alloc (.cells #[.int .i64 k, .int .i64 n, .slice A ps.length c] 39 (0, 0)) = W at *
  go_loopw [4] (fun i wr => i = .int .i64 0 ∧ wr = W) (fun i _ => 0)
  case atStart => exact ⟨rfl, rfl⟩
  case round =>
    obtain ⟨rfl, hwr⟩ := hrel
    subst hwr
    go_wp2_with fail
    go_loopw [5] (fun i wr => ∃ (j : Nat) (p1 : Int → Bool), j ≤ ps.length ∧ i = .int .i64 j ∧ w.heap.size < wr.heap.size ∧ wr.cell? ⟨w.heap.size, 2, none⟩ = some (.slice A ps.length c) ∧ Hid (TenIs wr b p1) ∧ Hid (Turn (· = b) (· = b) w wr) ∧ Hid (∀ i : Nat, i < 10 → (p i || mayTask (.mk k n ps) i) = (p1 i || mayTaskL (ps.drop j) i))) (fun i _ => ps.length - (intOf i).toNat)
    case atStart => exact ⟨0, p, Nat.zero_le _, rfl, hzf, hB2, Lib.hid hA0.out, Lib.hid hTf.out, Lib.hid (by intro i hi; rw [hown.out]; rfl)⟩
    case round =>
      obtain ⟨j, p1, hj, rfl, hz, hbox, hA1, hT, he⟩ := hrel
      have hbw : Below B w0 wr := hb.out.trans (hT.out.below hB (fun i e => by cases e; exact hBb))
      have hsz := hT.out.size
      have hbz : b < wr.heap.size := by omega
      by_cases hlt : j < ps.length
      · obtain ⟨bq, oq, A', c', rfl, hbl, y0, y1, y2, hc', hm', hp'⟩ := hp.out.at hbw j hlt
        have hbl' : bq < wr.heap.size := by omega
        have hcall := ih.out ps[j] (List.getElem_mem _) (hfL.out _ (List.getElem_mem _)) A' c' B b p1 w0 wr hbw (by omega) hc' hm' hp' hA1.out hBb
        replace hcall := Lib.hid hcall
        replace hbw := Lib.hid hbw
        clear hp'
        go_wp2_with fail
        refine hcall.out.mono ?_
        rintro e w2 ⟨⟨v, rfl⟩, hA2, hT2⟩
        have hT3 := hT.out.trans hT2
        have he2 : ∀ i : Nat, i < 10 → (p i || mayTask (.mk k n ps) i) = ((p1 i || mayTask ps[j] i) || mayTaskL (ps.drop (j + 1)) i) := fun i hi => by
          rw [he.out i hi, List.drop_eq_getElem_cons hlt, mayTaskL, Bool.or_assoc]
        have hbox2 := (hT2.cell 2 hz (fun e => by omega)).trans hbox
        have hz2 : w.heap.size < w2.heap.size := by have := hT2.size; omega
        replace hA2 := Lib.hid hA2
        replace hT3 := Lib.hid hT3
        replace he2 := Lib.hid he2
        clear hcall hT2 he hA1 hT y0 y1 y2 hbox
        go_wp2_with fail
        go_roundw
        case rel => exact ⟨j + 1, _, by omega, by go_num, hz2, hbox2, hA2, hT3, he2⟩
        case measure => simp [intOf]; omega
      · have he2 : ∀ i : Nat, i < 10 → p1 i = (p i || mayTask (.mk k n ps) i) := fun i hi => by
          rw [he.out i hi, List.drop_eq_nil_of_le (by omega), mayTaskL, Bool.or_false]
        replace he2 := Lib.hid he2
        replace hbw := Lib.hid hbw
        clear he
        go_wp2_with fail
        go_end0
        exact ⟨⟨_, rfl⟩, hA1.out.congr he2.out, hT.out⟩
end Go.Proofs.Ytkbblekengdhaaa

set_option linter.unusedVariables false
set_option linter.unusedSimpArgs false
namespace Go.Proofs.Ytkbblekengdhaaa
open Go Go.RowKit

theorem made_ten : (madeCells #[Value.bool false] 10).toList = ((List.range 10).map (fun i : Nat => Value.bool ((fun _ : Int => false) i))).toArray.toList := by kernel_rfl
theorem boolTy' : ElemTy Try.prog 23 4 (.bool false) 1 1 := ⟨Try.underlying23, by kernel_rfl, rfl, by omega⟩

set_option maxRecDepth 5000 in
set_option maxHeartbeats 4000000 in
theorem specTaskMay_calls (t : Task) (hnod : nodes t ≤ 1000000000) (A : Option Addr) (c B : Nat) (w0 w : World) (hb : Below B w0 w) (hB : B ≤ w.heap.size) (hc : t.parts.length ≤ c) (hm : c ≤ maxLen) (hp : PartsIs B w0 A 0 t.parts) :
    Calls Try.prog 73 #[.agg #[.int .i64 t.kind, .int .i64 t.n, .slice A t.parts.length c]] w fun e w' => ∃ v, e = .returned v ∧ w'.ownsRow w.heap.size 3 1 v (mayList t).length (ints (mayList t)) ∧ Below w.heap.size w w' := by
  have h1 := fun w1 (hw : Below w.heap.size w w1) => specTaskOk_calls t A c B w0 w1 hnod (below_up' hb hB hw) (Nat.le_trans hB hw.size) hc hm hp
  have h2 := fun (hf : fitAll t = true) w1 (hw : Below w.heap.size w w1) (b : Nat) (p : Int → Bool) (hA : TenIs w1 b p) (hBb : B ≤ b) => l2May_calls t hf A c B b p w0 w1 (below_up' hb hB hw) (Nat.le_trans hB hw.size) hc hm hp hA hBb
  have hml : mayList t = if okT t then mayFrom t 10 else [] := rfl
  have hfit : okT t = true → fitAll t = true := fun h => (Bool.and_eq_true_iff.1 h).1
  replace h2 := Lib.hid h2
  clear hb hp
  have hown0 : ((w.alloc (.cells #[.int .i64 t.kind, .int .i64 t.n, .slice A t.parts.length c] 39 (0, 0))).alloc (.cells #[] 3 (0, 0))).ownsRow w.heap.size 3 1 (.slice (some ⟨w.heap.size + 1, 0, none⟩) 0 0) 0 (ints []) := by
    simpa [ints] using World.ownsRow_made (base := w.heap.size) (w.alloc (.cells #[.int .i64 t.kind, .int .i64 t.n, .slice A t.parts.length c] 39 (0, 0))) #[] 0 (by simp) (by simp [maxLen]) rfl
  cases hok : okT t with
  | false =>
    rw [hok] at h1 hml
    replace h1 := Lib.hid h1
    replace hml := Lib.hid hml
    replace hown0 := Lib.hid hown0
    clear hok hfit h2
    go_enter Try.func73, Try.ntmps73
    go_wp2_with fail
    refine (h1.out _ (below_al (below_al (Below.refl _ _) _) _)).mono ?_
    rintro e w1 ⟨rfl, h3⟩
    have hown1 := ownsRow_block hown0.out (fun i hi => h3.block i (hown0.out.lt i hi).2)
    have b1 : Below w.heap.size w w1 := below_from (below_from h3)
    replace hown1 := Lib.hid hown1
    clear h3
    go_wp2_with fail
    go_ret
    rw [hml.out]
    exact ⟨_, rfl, hown1.out, b1⟩
  | true =>
    have hf := hfit hok
    rw [hok, if_pos rfl] at hml
    rw [hok] at h1
    replace h1 := Lib.hid h1
    replace hml := Lib.hid hml
    replace hf := Lib.hid hf
    replace hown0 := Lib.hid hown0
    clear hok hfit
    go_enter Try.func73, Try.ntmps73
    go_wp2_with fail
    refine (h1.out _ (below_al (below_al (Below.refl _ _) _) _)).mono ?_
    rintro e w1 ⟨rfl, h3⟩
    have x0 : w1.cell? ⟨w.heap.size, 0, none⟩ = some (.int .i64 t.kind) := (h3.cell (p := ⟨w.heap.size, 0, none⟩) (by simp; omega)).trans (by simp)
    have x1 : w1.cell? ⟨w.heap.size, 1, none⟩ = some (.int .i64 t.n) := (h3.cell (p := ⟨w.heap.size, 1, none⟩) (by simp; omega)).trans (by simp)
    have x2 : w1.cell? ⟨w.heap.size, 2, none⟩ = some (.slice A t.parts.length c) := (h3.cell (p := ⟨w.heap.size, 2, none⟩) (by simp; omega)).trans (by simp)
    have b1 : Below w.heap.size w w1 := below_from (below_from h3)
    have s1 : w.heap.size + 1 < w1.heap.size := by have := h3.size; simp at this; omega
    have hown1 := ownsRow_block hown0.out (fun i hi => h3.block i (hown0.out.lt i hi).2)
    replace b1 := Lib.hid b1
    replace hown1 := Lib.hid hown1
    clear h3 hown0
    obtain ⟨ii, hi1, hi2, hi3, hi4⟩ := info_parts boolTy'.hi
    replace hi1 := Lib.hid hi1
    replace hi2 := Lib.hid hi2
    replace hi3 := Lib.hid hi3
    replace hi4 := Lib.hid hi4
    go_wp2_with (at_make; go_loud (with_reducible refine wpList_make_full _ (by rfl) _ _ 23 (by rfl) w.heap.size 4 ii (.bool false) 1 Try.underlying23 hi1.out hi2.out hi3.out .i64 .i64 10 10 10 (by with_unfolding_all rfl) (by with_unfolding_all rfl) rfl rfl ?_ ?_ ?_ ?_))
    · rw [hi4.out]; omega
    · simp [maxLen]
    · omega
    intro w2 hmk hgrow
    have hA : TenIs w2 w1.heap.size (fun _ => false) := by
      obtain ⟨hl, ⟨e, _⟩ | ⟨g, cap, cur, e, hg, hb, hn, hc, hs, ht⟩⟩ := hmk
      · cases e
      · cases e
        unfold TenIs
        rw [hb]
        congr 2
        apply Array.ext'
        have : cur.toList.take 10 = cur.toList := List.take_of_length_le (by simp; omega)
        simp only [Nat.mul_one] at ht
        rw [this] at ht
        rw [ht]
        exact made_ten
    have hb12 : Below w1.heap.size w1 w2 := ⟨hgrow.os, hgrow.tape, hgrow.output, hgrow.size, fun k hk => hgrow.block k hk (by simp)⟩
    have b2 : Below w.heap.size w w2 := b1.out.trans (hb12.mono b1.out.size)
    have hown2 := ownsRow_block hown1.out (fun i hi => hb12.block i (hown1.out.lt i hi).2)
    have y0 := kept_cell hb12 (by omega) x0
    have y1 := kept_cell hb12 (by omega) x1
    have y2 := kept_cell hb12 (by omega) x2
    have hz2 := block_lt hA
    have hcall := h2.out hf.out w2 b2 w1.heap.size (fun _ => false) hA (Nat.le_trans hB b1.out.size)
    replace hcall := Lib.hid hcall
    replace b2 := Lib.hid b2
    replace hown2 := Lib.hid hown2
    clear hA hb12 hgrow hmk x0 x1 x2 hi1 hi2 hi3 hi4
    go_wp2_with fail
    refine hcall.out.mono ?_
    rintro e w3 ⟨⟨v, rfl⟩, hA2, hT2⟩
    have hA3 : TenIs w3 w1.heap.size (fun i => mayTask t i) := hA2.congr (fun i hi => by simp)
    have b3 : Below w.heap.size w w3 := b2.out.trans (hT2.below b2.out.size (fun i e => by cases e; omega))
    have hown3 := ownsRow_block hown2.out (fun i hi => hT2.block i (hown2.out.lt i hi).2 (fun e => by cases hi; simp at e; omega))
    have hz3 := block_lt hA3
    have hml2 : ∀ j : Nat, j < 10 → mayFrom t (10 - j) = (if mayTask t j then [(j : Int)] else []) ++ mayFrom t (10 - (j + 1)) := fun j hj => by
      rw [show 10 - j = (9 - j) + 1 by omega, mayFrom, show 9 - (9 - j) = j by omega, show 10 - (j + 1) = 9 - j by omega]
    replace hml2 := Lib.hid hml2
    replace hA3 := Lib.hid hA3
    replace b3 := Lib.hid b3
    replace hown3 := Lib.hid hown3
    clear hcall hA2 hT2 y0 y1 y2
    go_wp2_with fail
    go_loopw [3, 5] (fun o i wr => ∃ (j : Nat) (out : List Int), j ≤ 10 ∧ i = .int .i64 j ∧ out.length ≤ j ∧ Hid (out ++ mayFrom t (10 - j) = mayList t) ∧ Hid (wr.ownsRow w.heap.size 3 1 o out.length (ints out)) ∧ Hid (Below w.heap.size w wr) ∧ Hid (TenIs wr w1.heap.size (fun i => mayTask t i)) ∧ Hid (o.ownBlock ≠ some w1.heap.size)) (fun _ i _ => 10 - (intOf i).toNat)
    case atStart => exact ⟨0, [], by omega, rfl, by simp, Lib.hid (by rw [hml.out]; rfl), hown3, b3, hA3, Lib.hid (by simp [Value.ownBlock]; omega)⟩
    case round =>
      obtain ⟨j, out, hj, rfl, hol, he, hown, hw, hT, hne⟩ := hrel
      have hsz := hw.out.size
      have hzt := block_lt hT.out
      by_cases hlt : j < 10
      · have he2 := he.out
        rw [hml2.out j hlt] at he2
        have y := hT.out.cell hlt
        cases hmj : mayTask t j with
        | false =>
          rw [hmj] at he2 y
          have he3 : out ++ mayFrom t (10 - (j + 1)) = mayList t := by simpa using he2
          replace he3 := Lib.hid he3
          replace hmj := Lib.hid hmj
          clear he he2
          go_wp2_with fail
          go_roundw
          case rel => exact ⟨j + 1, out, by omega, by go_num, by omega, he3, hown, hw, hT, hne⟩
          case measure => simp [intOf]; omega
        | true =>
          rw [hmj] at he2 y
          have he3 : (out ++ [(j : Int)]) ++ mayFrom t (10 - (j + 1)) = mayList t := by simpa using he2
          replace he3 := Lib.hid he3
          replace hmj := Lib.hid hmj
          clear he he2
          go_wp2_with (at_builtin; go_loud (with_reducible refine wpList_app1 (by rfl) (.tmp 25) (.tmp 27) 28 (by rfl) intTy w.heap.size u3 out.length (ints out) (by with_unfolding_all rfl) (hown.out.alloc _) wr.heap.size 1 [.int .i64 j] (by with_unfolding_all rfl) (by with_unfolding_all rfl) ⟨_, _, heap_alloc_new wr _, rfl⟩ (one_int _ _) ?_ ?_ ?_ ?_))
          · unfold maxLen; omega
          · omega
          · first | omega | (simp; omega)
          intro g cap w7 hown7 hgrow7 hat7
          have hw7 := (below_al' hw.out (.cells #[.int .i64 j] 3 (0, 0)) hsz).grown hgrow7 (by simp; omega) (fun i hi => (hown.out.lt i hi).1)
          have hown7' : w7.ownsRow w.heap.size 3 1 (.slice (some ⟨g, 0, none⟩) (out.length + 1) cap) (out ++ [(j : Int)]).length (ints (out ++ [(j : Int)])) := by simpa [ints_append, ints] using hown7
          have hT7 : TenIs w7 w1.heap.size (fun i => mayTask t i) := hT.out.turn (far_grown hgrow7 hzt hne.out)
          have hne7 : (Value.slice (some ⟨g, 0, none⟩) (out.length + 1) cap).ownBlock ≠ some w1.heap.size := fun e => by
            cases e
            rcases hat7 with e | e
            · exact hne.out e
            · simp at e; omega
          replace hw7 := Lib.hid hw7
          replace hown7' := Lib.hid hown7'
          replace hT7 := Lib.hid hT7
          replace hne7 := Lib.hid hne7
          clear hown7 hgrow7 hat7 hown hw hT hne
          go_wp2_with fail
          go_roundw
          case rel => exact ⟨j + 1, out ++ [(j : Int)], by omega, by go_num, by simp; omega, he3, hown7', hw7, hT7, hne7⟩
          case measure => simp [intOf]; omega
      · have hj10 : j = 10 := by omega
        subst hj10
        have he2 : out = mayList t := by have := he.out; simpa [mayFrom] using this
        replace he2 := Lib.hid he2
        clear he
        go_wp2_with fail
        go_ret
        rw [← he2.out]
        exact ⟨_, rfl, hown.out, hw.out⟩
end Go.Proofs.Ytkbblekengdhaaa
