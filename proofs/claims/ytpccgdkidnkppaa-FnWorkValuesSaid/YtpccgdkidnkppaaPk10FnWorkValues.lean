import Derived.Test.YtpccgdkidnkppaaPk4FnWorkValues
import Derived.Test.YtpccgdkidnkppaaPk9FnWorkValues
set_option linter.unusedVariables false
set_option linter.unusedSimpArgs false
namespace Go.Proofs.Ytpccgdkidnkppaa
open Go Go.RowKit

/-- a row of ten truths -/
def TenIs (w : World) (b : Nat) (p : Int → Bool) : Prop := w.heap[b]? = some (.cells ((List.range 10).map (fun i : Nat => Value.bool (p i))).toArray 4 (0, 0))
theorem TenIs.congr {w : World} {b : Nat} {p q : Int → Bool} (h : TenIs w b p) (e : ∀ i : Nat, i < 10 → p i = q i) : TenIs w b q := by
  unfold TenIs at h ⊢
  rw [h]
  congr 3
  exact List.map_congr_left (fun i hi => by rw [e i (List.mem_range.1 hi)])
theorem TenIs.cell {w : World} {b : Nat} {p : Int → Bool} (h : TenIs w b p) {n : Nat} (hn : n < 10) : w.cell? ⟨b, n, none⟩ = some (.bool (p n)) := by
  rw [cellm h n]; simp [hn]
theorem TenIs.frozen {w : World} {b : Nat} {p : Int → Bool} (h : TenIs w b p) (n : Nat) : w.frozen? ⟨b, n, none⟩ = false := frozenm h n
theorem TenIs.set {w : World} {b : Nat} {p : Int → Bool} (h : TenIs w b p) {n : Nat} (hn : n < 10) : TenIs (w.setCell ⟨b, n, none⟩ (.bool true)) b (fun i => p i || decide (i = n)) := by
  unfold TenIs
  rw [setCell_block h n]
  congr 2
  apply Array.ext
  · simp
  · intro i h1 h2
    simp at h1
    simp [Array.getElem_setIfInBounds]
    by_cases e : n = i
    · subst e; simp
    · have e2 : ¬ i = n := fun h => e h.symm
      have e3 : ¬ (i : Int) = (n : Int) := by omega
      simp [e, e2, e3]
theorem TenIs.turn {w w' : World} {b : Nat} {p : Int → Bool} (h : TenIs w b p) (hk : w'.heap[b]? = w.heap[b]?) : TenIs w' b p := hk.trans h

set_option maxHeartbeats 2000000 in
theorem l2May_calls : ∀ (t : Task), fitAll t = true → ∀ (A : Option Addr) (c B b : Nat) (p : Int → Bool) (w0 w : World), Below B w0 w → B ≤ w.heap.size → t.parts.length ≤ c → c ≤ maxLen → PartsIs B w0 A 0 t.parts → TenIs w b p → B ≤ b →
    Calls Try.prog 150 #[.agg #[.int .i64 t.kind, .int .i64 t.n, .slice A t.parts.length c], .slice (some ⟨b, 0, none⟩) 10 10] w fun e w' => (∃ v, e = .returned v) ∧ TenIs w' b (fun i => p i || mayTask t i) ∧ Turn (· = b) (· = b) w w' := by
  refine Task.ind ?_
  intro k n ps ih hfit A c B b p w0 w hb hB hc hm hp hA hBb
  simp only [Task.kind, Task.n, Task.parts] at hc hp ⊢
  unfold maxLen at hm
  rw [fitAll, Bool.and_eq_true] at hfit
  obtain ⟨hfn, hfl⟩ := hfit
  have hfL : ∀ q ∈ ps, fitAll q = true := by
    have : ∀ (l : List Task), fitAllL l = true → ∀ q ∈ l, fitAll q = true := by
      intro l
      induction l with
      | nil => intro _ q hq; cases hq
      | cons a l ihl =>
        intro h q hq
        rw [fitAllL, Bool.and_eq_true] at h
        rcases List.mem_cons.1 hq with rfl | hq
        · exact h.1
        · exact ihl h.2 q hq
    exact this ps hfl
  have hblt := block_lt hA
  -- the loop over the parts, from a world in which the node itself is done
  replace ih := Lib.hid ih
  replace hp := Lib.hid hp
  replace hfL := Lib.hid hfL
  replace hb := Lib.hid hb
  by_cases k1 : k = 1
  · subst k1
    have hn : 0 ≤ n ∧ n ≤ 9 := by
      unfold fitsN at hfn
      simp at hfn
      omega
    obtain ⟨q, rfl⟩ := Int.eq_ofNat_of_zero_le hn.1
    have hq : q < 10 := by omega
    have y := hA.cell hq
    have f := hA.frozen q
    have hset := hA.set hq
    have hst : Turn (· = b) (· = b) w (w.setCell ⟨b, q, none⟩ (.bool true)) := setCell_turn (F := (· = b)) rfl _
    have hz2 : b < (w.setCell ⟨b, q, none⟩ (.bool true)).heap.size := by rw [World.size_setCell]; exact hblt
    have hAf : TenIs ((w.setCell ⟨b, q, none⟩ (.bool true)).alloc (.cells #[.int .i64 1, .int .i64 q, .slice A ps.length c] 48 (0, 0))) b (fun i => p i || decide (i = (q : Int))) := hset.turn (heap_old hz2)
    have hTf : Turn (· = b) (· = b) w ((w.setCell ⟨b, q, none⟩ (.bool true)).alloc (.cells #[.int .i64 1, .int .i64 q, .slice A ps.length c] 48 (0, 0))) := hst.alloc _
    have hB0 : ((w.setCell ⟨b, q, none⟩ (.bool true)).alloc (.cells #[.int .i64 1, .int .i64 q, .slice A ps.length c] 48 (0, 0))).cell? ⟨w.heap.size, 0, none⟩ = some (.int .i64 1) := cellm (heap_new (by rw [World.size_setCell])) 0
    have hB2 : ((w.setCell ⟨b, q, none⟩ (.bool true)).alloc (.cells #[.int .i64 1, .int .i64 q, .slice A ps.length c] 48 (0, 0))).cell? ⟨w.heap.size, 2, none⟩ = some (.slice A ps.length c) := cellm (heap_new (by rw [World.size_setCell])) 2
    have hzf : w.heap.size < ((w.setCell ⟨b, q, none⟩ (.bool true)).alloc (.cells #[.int .i64 1, .int .i64 q, .slice A ps.length c] 48 (0, 0))).heap.size := by simp
    replace hA := Lib.hid hA
    replace hAf := Lib.hid hAf
    replace hTf := Lib.hid hTf
    clear hfn hfl hset hst hz2
    go_enter Try.func150, Try.ntmps150
    go_wp2_with fail
    generalize (w.setCell ⟨b, q, none⟩ (.bool true)).alloc (.cells #[.int .i64 1, .int .i64 q, .slice A ps.length c] 48 (0, 0)) = W at *
    go_loopw [4] (fun i wr => i = .int .i64 0 ∧ wr = W) (fun i _ => 0)
    case atStart => exact ⟨rfl, rfl⟩
    case round =>
      obtain ⟨rfl, hwr⟩ := hrel
      subst hwr
      go_wp2_with fail
      go_loopw [5] (fun i wr => ∃ (j : Nat) (p1 : Int → Bool), j ≤ ps.length ∧ i = .int .i64 j ∧ w.heap.size < wr.heap.size ∧ wr.cell? ⟨w.heap.size, 2, none⟩ = some (.slice A ps.length c) ∧ Hid (TenIs wr b p1) ∧ Hid (Turn (· = b) (· = b) w wr) ∧ Hid (∀ i : Nat, i < 10 → (p i || mayTask (.mk 1 q ps) i) = (p1 i || mayTaskL (ps.drop j) i))) (fun i _ => ps.length - (intOf i).toNat)
      case atStart => exact ⟨0, (fun i => p i || decide (i = (q : Int))), Nat.zero_le _, rfl, hzf, hB2, Lib.hid hAf.out, Lib.hid hTf.out, Lib.hid (by intro i hi; simp [mayTask, Bool.or_assoc])⟩
      case round =>
        obtain ⟨j, p1, hj, rfl, hz, hbox, hA1, hT, he⟩ := hrel
        have hbw : Below B w0 wr := hb.out.trans (hT.out.below hB (fun i e => by cases e; exact hBb))
        have hsz := hT.out.size
        have hbz : b < wr.heap.size := by omega
        by_cases hlt : j < ps.length
        · obtain ⟨bq, oq, A', c', rfl, hbl, y0, y1, y2, hc', hm', hp'⟩ := hp.out.at hbw j hlt
          have hbl' : bq < wr.heap.size := by omega
          have hcall := ih.out ps[j] (List.getElem_mem _) (hfL.out _ (List.getElem_mem _)) A' c' B b p1 w0 wr hbw (by omega) hc' hm' hp' hA1.out hBb
          replace hcall := Lib.hid hcall
          replace hbw := Lib.hid hbw
          clear hp'
          go_wp2_with fail
          refine hcall.out.mono ?_
          rintro e w2 ⟨⟨v, rfl⟩, hA2, hT2⟩
          have hT3 := hT.out.trans hT2
          have he2 : ∀ i : Nat, i < 10 → (p i || mayTask (.mk 1 q ps) i) = ((p1 i || mayTask ps[j] i) || mayTaskL (ps.drop (j + 1)) i) := fun i hi => by
            rw [he.out i hi, List.drop_eq_getElem_cons hlt, mayTaskL, Bool.or_assoc]
          have hbox2 := (hT2.cell 2 hz (fun e => by omega)).trans hbox
          have hz2 : w.heap.size < w2.heap.size := by have := hT2.size; omega
          replace hA2 := Lib.hid hA2
          replace hT3 := Lib.hid hT3
          replace he2 := Lib.hid he2
          clear hcall hT2 he hA1 hT y0 y1 y2 hbox
          go_wp2_with fail
          go_roundw
          case rel => exact ⟨j + 1, _, by omega, by go_num, hz2, hbox2, hA2, hT3, he2⟩
          case measure => simp [intOf]; omega
        · have he2 : ∀ i : Nat, i < 10 → p1 i = (p i || mayTask (.mk 1 q ps) i) := fun i hi => by
            rw [he.out i hi, List.drop_eq_nil_of_le (by omega), mayTaskL, Bool.or_false]
          replace he2 := Lib.hid he2
          replace hbw := Lib.hid hbw
          clear he
          go_wp2_with fail
          go_end0
          exact ⟨⟨_, rfl⟩, hA1.out.congr he2.out, hT.out⟩
  by_cases k5 : k = 5
  · subst k5
    have hA0 : TenIs (w.alloc (.cells #[.int .i64 5, .int .i64 n, .slice A ps.length c] 48 (0, 0))) b p := hA.turn (heap_old hblt)
    replace hA := Lib.hid hA
    replace hA0 := Lib.hid hA0
    clear hfn hfl
    go_enter Try.func150, Try.ntmps150
    go_wp2_with fail
    go_loopw [4] (fun i wr => ∃ (j : Nat), j ≤ 10 ∧ i = .int .i64 j ∧ w.heap.size < wr.heap.size ∧ wr.cell? ⟨w.heap.size, 0, none⟩ = some (.int .i64 5) ∧ wr.cell? ⟨w.heap.size, 2, none⟩ = some (.slice A ps.length c) ∧ Hid (TenIs wr b (fun i => p i || decide (0 ≤ i ∧ i < j))) ∧ Hid (Turn (· = b) (· = b) w wr)) (fun i _ => 10 - (intOf i).toNat)
    case atStart => exact ⟨0, by omega, rfl, by simp, by simp, by simp, Lib.hid (hA0.out.congr (fun i hi => by simp; intro h; omega)), Lib.hid ((Turn.refl _ _).alloc _)⟩
    case round =>
      obtain ⟨j, hj, rfl, hz, hbox0, hbox, hA1, hT⟩ := hrel
      have hbz : b < wr.heap.size := by omega
      by_cases hlt : j < 10
      · have y := hA1.out.cell hlt
        have f := hA1.out.frozen j
        have hset := hA1.out.set hlt
        have hset2 : TenIs (wr.setCell ⟨b, j, none⟩ (.bool true)) b (fun i => p i || decide (0 ≤ i ∧ i < ((j + 1 : Nat) : Int))) := hset.congr (fun i hi => by
          rw [Bool.or_assoc]
          congr 1
          rw [Bool.eq_iff_iff]
          simp
          omega)
        have hst : Turn (· = b) (· = b) w (wr.setCell ⟨b, j, none⟩ (.bool true)) := hT.out.trans (setCell_turn (F := (· = b)) rfl _)
        have hne : b ≠ w.heap.size := by omega
        replace hset2 := Lib.hid hset2
        replace hst := Lib.hid hst
        clear hset
        go_wp2_with fail
        go_roundw
        case rel => exact ⟨j + 1, by omega, by go_num, by simpa using hz, (World.cell?_of_block (w := wr) (setCell_far (fun e => hne e.symm))).trans hbox0, (World.cell?_of_block (w := wr) (setCell_far (fun e => hne e.symm))).trans hbox, hset2, hst⟩
        case measure => simp [intOf]; omega
      · have hj10 : j = 10 := by omega
        subst hj10
        obtain ⟨w9, hw9⟩ : ∃ w9, w9 = wr := ⟨_, rfl⟩
        subst hw9
        go_wp2_with fail
        go_loopw [5] (fun i wr => ∃ (j : Nat) (p1 : Int → Bool), j ≤ ps.length ∧ i = .int .i64 j ∧ w.heap.size < wr.heap.size ∧ wr.cell? ⟨w.heap.size, 2, none⟩ = some (.slice A ps.length c) ∧ Hid (TenIs wr b p1) ∧ Hid (Turn (· = b) (· = b) w wr) ∧ Hid (∀ i : Nat, i < 10 → (p i || mayTask (.mk 5 n ps) i) = (p1 i || mayTaskL (ps.drop j) i))) (fun i _ => ps.length - (intOf i).toNat)
        case atStart => exact ⟨0, (fun i => p i || decide (0 ≤ i ∧ i < ((10 : Nat) : Int))), Nat.zero_le _, rfl, hz, hbox, Lib.hid hA1.out, Lib.hid hT.out, Lib.hid (by intro i hi; exact may_five p n ps i hi)⟩
        case round =>
          obtain ⟨j, p1, hj, rfl, hz, hbox, hA1, hT, he⟩ := hrel
          have hbw : Below B w0 wr := hb.out.trans (hT.out.below hB (fun i e => by cases e; exact hBb))
          have hsz := hT.out.size
          have hbz : b < wr.heap.size := by omega
          by_cases hlt : j < ps.length
          · obtain ⟨bq, oq, A', c', rfl, hbl, y0, y1, y2, hc', hm', hp'⟩ := hp.out.at hbw j hlt
            have hbl' : bq < wr.heap.size := by omega
            have hcall := ih.out ps[j] (List.getElem_mem _) (hfL.out _ (List.getElem_mem _)) A' c' B b p1 w0 wr hbw (by omega) hc' hm' hp' hA1.out hBb
            replace hcall := Lib.hid hcall
            replace hbw := Lib.hid hbw
            clear hp'
            go_wp2_with fail
            refine hcall.out.mono ?_
            rintro e w2 ⟨⟨v, rfl⟩, hA2, hT2⟩
            have hT3 := hT.out.trans hT2
            have he2 : ∀ i : Nat, i < 10 → (p i || mayTask (.mk 5 n ps) i) = ((p1 i || mayTask ps[j] i) || mayTaskL (ps.drop (j + 1)) i) := fun i hi => by
              rw [he.out i hi, List.drop_eq_getElem_cons hlt, mayTaskL, Bool.or_assoc]
            have hbox2 := (hT2.cell 2 hz (fun e => by omega)).trans hbox
            have hz2 : w.heap.size < w2.heap.size := by have := hT2.size; omega
            replace hA2 := Lib.hid hA2
            replace hT3 := Lib.hid hT3
            replace he2 := Lib.hid he2
            clear hcall hT2 he hA1 hT y0 y1 y2 hbox
            go_wp2_with fail
            go_roundw
            case rel => exact ⟨j + 1, _, by omega, by go_num, hz2, hbox2, hA2, hT3, he2⟩
            case measure => simp [intOf]; omega
          · have he2 : ∀ i : Nat, i < 10 → p1 i = (p i || mayTask (.mk 5 n ps) i) := fun i hi => by
              rw [he.out i hi, List.drop_eq_nil_of_le (by omega), mayTaskL, Bool.or_false]
            replace he2 := Lib.hid he2
            replace hbw := Lib.hid hbw
            clear he
            go_wp2_with fail
            go_end0
            exact ⟨⟨_, rfl⟩, hA1.out.congr he2.out, hT.out⟩
  have e1 : (k == 1) = false := by simp [k1]
  have e5 : (k == 5) = false := by simp [k5]
  have hA0 : TenIs (w.alloc (.cells #[.int .i64 k, .int .i64 n, .slice A ps.length c] 48 (0, 0))) b p := hA.turn (heap_old hblt)
  have hTf : Turn (· = b) (· = b) w (w.alloc (.cells #[.int .i64 k, .int .i64 n, .slice A ps.length c] 48 (0, 0))) := (Turn.refl _ _).alloc _
  have hB0 : (w.alloc (.cells #[.int .i64 k, .int .i64 n, .slice A ps.length c] 48 (0, 0))).cell? ⟨w.heap.size, 0, none⟩ = some (.int .i64 k) := by simp
  have hB2 : (w.alloc (.cells #[.int .i64 k, .int .i64 n, .slice A ps.length c] 48 (0, 0))).cell? ⟨w.heap.size, 2, none⟩ = some (.slice A ps.length c) := by simp
  have hzf : w.heap.size < (w.alloc (.cells #[.int .i64 k, .int .i64 n, .slice A ps.length c] 48 (0, 0))).heap.size := by simp
  have hown : ∀ i, mayTask (.mk k n ps) i = mayTaskL ps i := fun i => by simp [mayTask, k1, k5]
  replace hA := Lib.hid hA
  replace hA0 := Lib.hid hA0
  replace hTf := Lib.hid hTf
  replace hown := Lib.hid hown
  clear hfn hfl k1 k5
  go_enter Try.func150, Try.ntmps150
  go_wp2_with fail
  generalize w.alloc (.cells #[.int .i64 k, .int .i64 n, .slice A ps.length c] 48 (0, 0)) = W at *
  go_loopw [4] (fun i wr => i = .int .i64 0 ∧ wr = W) (fun i _ => 0)
  case atStart => exact ⟨rfl, rfl⟩
  case round =>
    obtain ⟨rfl, hwr⟩ := hrel
    subst hwr
    go_wp2_with fail
    go_loopw [5] (fun i wr => ∃ (j : Nat) (p1 : Int → Bool), j ≤ ps.length ∧ i = .int .i64 j ∧ w.heap.size < wr.heap.size ∧ wr.cell? ⟨w.heap.size, 2, none⟩ = some (.slice A ps.length c) ∧ Hid (TenIs wr b p1) ∧ Hid (Turn (· = b) (· = b) w wr) ∧ Hid (∀ i : Nat, i < 10 → (p i || mayTask (.mk k n ps) i) = (p1 i || mayTaskL (ps.drop j) i))) (fun i _ => ps.length - (intOf i).toNat)
    case atStart => exact ⟨0, p, Nat.zero_le _, rfl, hzf, hB2, Lib.hid hA0.out, Lib.hid hTf.out, Lib.hid (by intro i hi; rw [hown.out]; rfl)⟩
    case round =>
      obtain ⟨j, p1, hj, rfl, hz, hbox, hA1, hT, he⟩ := hrel
      have hbw : Below B w0 wr := hb.out.trans (hT.out.below hB (fun i e => by cases e; exact hBb))
      have hsz := hT.out.size
      have hbz : b < wr.heap.size := by omega
      by_cases hlt : j < ps.length
      · obtain ⟨bq, oq, A', c', rfl, hbl, y0, y1, y2, hc', hm', hp'⟩ := hp.out.at hbw j hlt
        have hbl' : bq < wr.heap.size := by omega
        have hcall := ih.out ps[j] (List.getElem_mem _) (hfL.out _ (List.getElem_mem _)) A' c' B b p1 w0 wr hbw (by omega) hc' hm' hp' hA1.out hBb
        replace hcall := Lib.hid hcall
        replace hbw := Lib.hid hbw
        clear hp'
        go_wp2_with fail
        refine hcall.out.mono ?_
        rintro e w2 ⟨⟨v, rfl⟩, hA2, hT2⟩
        have hT3 := hT.out.trans hT2
        have he2 : ∀ i : Nat, i < 10 → (p i || mayTask (.mk k n ps) i) = ((p1 i || mayTask ps[j] i) || mayTaskL (ps.drop (j + 1)) i) := fun i hi => by
          rw [he.out i hi, List.drop_eq_getElem_cons hlt, mayTaskL, Bool.or_assoc]
        have hbox2 := (hT2.cell 2 hz (fun e => by omega)).trans hbox
        have hz2 : w.heap.size < w2.heap.size := by have := hT2.size; omega
        replace hA2 := Lib.hid hA2
        replace hT3 := Lib.hid hT3
        replace he2 := Lib.hid he2
        clear hcall hT2 he hA1 hT y0 y1 y2 hbox
        go_wp2_with fail
        go_roundw
        case rel => exact ⟨j + 1, _, by omega, by go_num, hz2, hbox2, hA2, hT3, he2⟩
        case measure => simp [intOf]; omega
      · have he2 : ∀ i : Nat, i < 10 → p1 i = (p i || mayTask (.mk k n ps) i) := fun i hi => by
          rw [he.out i hi, List.drop_eq_nil_of_le (by omega), mayTaskL, Bool.or_false]
        replace he2 := Lib.hid he2
        replace hbw := Lib.hid hbw
        clear he
        go_wp2_with fail
        go_end0
        exact ⟨⟨_, rfl⟩, hA1.out.congr he2.out, hT.out⟩
end Go.Proofs.Ytpccgdkidnkppaa

set_option linter.unusedVariables false
set_option linter.unusedSimpArgs false
namespace Go.Proofs.Ytpccgdkidnkppaa
open Go Go.RowKit

theorem made_ten : (madeCells #[Value.bool false] 10).toList = ((List.range 10).map (fun i : Nat => Value.bool ((fun _ : Int => false) i))).toArray.toList := by kernel_rfl
theorem boolTy' : ElemTy Try.prog 22 4 (.bool false) 1 1 := ⟨Try.underlying22, by kernel_rfl, rfl, by omega⟩

set_option maxRecDepth 5000 in
set_option maxHeartbeats 4000000 in
theorem specTaskMay_calls (t : Task) (hnod : nodes t ≤ 1000000000) (A : Option Addr) (c B : Nat) (w0 w : World) (hb : Below B w0 w) (hB : B ≤ w.heap.size) (hc : t.parts.length ≤ c) (hm : c ≤ maxLen) (hp : PartsIs B w0 A 0 t.parts) :
    Calls Try.prog 124 #[.agg #[.int .i64 t.kind, .int .i64 t.n, .slice A t.parts.length c]] w fun e w' => ∃ v, e = .returned v ∧ w'.ownsRow w.heap.size 3 1 v (mayList t).length (ints (mayList t)) ∧ Below w.heap.size w w' := by
  have h1 := fun w1 (hw : Below w.heap.size w w1) => specTaskOk_calls t A c B w0 w1 hnod (below_up' hb hB hw) (Nat.le_trans hB hw.size) hc hm hp
  have h2 := fun (hf : fitAll t = true) w1 (hw : Below w.heap.size w w1) (b : Nat) (p : Int → Bool) (hA : TenIs w1 b p) (hBb : B ≤ b) => l2May_calls t hf A c B b p w0 w1 (below_up' hb hB hw) (Nat.le_trans hB hw.size) hc hm hp hA hBb
  have hml : mayList t = if okT t then mayFrom t 10 else [] := rfl
  have hfit : okT t = true → fitAll t = true := fun h => (Bool.and_eq_true_iff.1 h).1
  replace h2 := Lib.hid h2
  clear hb hp
  have hown0 : ((w.alloc (.cells #[.int .i64 t.kind, .int .i64 t.n, .slice A t.parts.length c] 48 (0, 0))).alloc (.cells #[] 3 (0, 0))).ownsRow w.heap.size 3 1 (.slice (some ⟨w.heap.size + 1, 0, none⟩) 0 0) 0 (ints []) := by
    simpa [ints] using World.ownsRow_made (base := w.heap.size) (w.alloc (.cells #[.int .i64 t.kind, .int .i64 t.n, .slice A t.parts.length c] 48 (0, 0))) #[] 0 (by simp) (by simp [maxLen]) rfl
  cases hok : okT t with
  | false =>
    rw [hok] at h1 hml
    replace h1 := Lib.hid h1
    replace hml := Lib.hid hml
    replace hown0 := Lib.hid hown0
    clear hok hfit h2
    go_enter Try.func124, Try.ntmps124
    go_wp2_with fail
    refine (h1.out _ (below_al (below_al (Below.refl _ _) _) _)).mono ?_
    rintro e w1 ⟨rfl, h3⟩
    have hown1 := ownsRow_block hown0.out (fun i hi => h3.block i (hown0.out.lt i hi).2)
    have b1 : Below w.heap.size w w1 := below_from (below_from h3)
    replace hown1 := Lib.hid hown1
    clear h3
    go_wp2_with fail
    go_ret
    rw [hml.out]
    exact ⟨_, rfl, hown1.out, b1⟩
  | true =>
    have hf := hfit hok
    rw [hok, if_pos rfl] at hml
    rw [hok] at h1
    replace h1 := Lib.hid h1
    replace hml := Lib.hid hml
    replace hf := Lib.hid hf
    replace hown0 := Lib.hid hown0
    clear hok hfit
    go_enter Try.func124, Try.ntmps124
    go_wp2_with fail
    refine (h1.out _ (below_al (below_al (Below.refl _ _) _) _)).mono ?_
    rintro e w1 ⟨rfl, h3⟩
    have x0 : w1.cell? ⟨w.heap.size, 0, none⟩ = some (.int .i64 t.kind) := (h3.cell (p := ⟨w.heap.size, 0, none⟩) (by simp; omega)).trans (by simp)
    have x1 : w1.cell? ⟨w.heap.size, 1, none⟩ = some (.int .i64 t.n) := (h3.cell (p := ⟨w.heap.size, 1, none⟩) (by simp; omega)).trans (by simp)
    have x2 : w1.cell? ⟨w.heap.size, 2, none⟩ = some (.slice A t.parts.length c) := (h3.cell (p := ⟨w.heap.size, 2, none⟩) (by simp; omega)).trans (by simp)
    have b1 : Below w.heap.size w w1 := below_from (below_from h3)
    have s1 : w.heap.size + 1 < w1.heap.size := by have := h3.size; simp at this; omega
    have hown1 := ownsRow_block hown0.out (fun i hi => h3.block i (hown0.out.lt i hi).2)
    replace b1 := Lib.hid b1
    replace hown1 := Lib.hid hown1
    clear h3 hown0
    obtain ⟨ii, hi1, hi2, hi3, hi4⟩ := info_parts boolTy'.hi
    replace hi1 := Lib.hid hi1
    replace hi2 := Lib.hid hi2
    replace hi3 := Lib.hid hi3
    replace hi4 := Lib.hid hi4
    go_wp2_with (at_make; go_loud (with_reducible refine wpList_make_full _ (by rfl) _ _ 22 (by rfl) w.heap.size 4 ii (.bool false) 1 Try.underlying22 hi1.out hi2.out hi3.out .i64 .i64 10 10 10 (by with_unfolding_all rfl) (by with_unfolding_all rfl) rfl rfl ?_ ?_ ?_ ?_))
    · rw [hi4.out]; omega
    · simp [maxLen]
    · omega
    intro w2 hmk hgrow
    have hA : TenIs w2 w1.heap.size (fun _ => false) := by
      obtain ⟨hl, ⟨e, _⟩ | ⟨g, cap, cur, e, hg, hb, hn, hc, hs, ht⟩⟩ := hmk
      · cases e
      · cases e
        unfold TenIs
        rw [hb]
        congr 2
        apply Array.ext'
        have : cur.toList.take 10 = cur.toList := List.take_of_length_le (by simp; omega)
        simp only [Nat.mul_one] at ht
        rw [this] at ht
        rw [ht]
        exact made_ten
    have hb12 : Below w1.heap.size w1 w2 := ⟨hgrow.os, hgrow.tape, hgrow.output, hgrow.size, fun k hk => hgrow.block k hk (by simp)⟩
    have b2 : Below w.heap.size w w2 := b1.out.trans (hb12.mono b1.out.size)
    have hown2 := ownsRow_block hown1.out (fun i hi => hb12.block i (hown1.out.lt i hi).2)
    have y0 := kept_cell hb12 (by omega) x0
    have y1 := kept_cell hb12 (by omega) x1
    have y2 := kept_cell hb12 (by omega) x2
    have hz2 := block_lt hA
    have hcall := h2.out hf.out w2 b2 w1.heap.size (fun _ => false) hA (Nat.le_trans hB b1.out.size)
    replace hcall := Lib.hid hcall
    replace b2 := Lib.hid b2
    replace hown2 := Lib.hid hown2
    clear hA hb12 hgrow hmk x0 x1 x2 hi1 hi2 hi3 hi4
    go_wp2_with fail
    refine hcall.out.mono ?_
    rintro e w3 ⟨⟨v, rfl⟩, hA2, hT2⟩
    have hA3 : TenIs w3 w1.heap.size (fun i => mayTask t i) := hA2.congr (fun i hi => by simp)
    have b3 : Below w.heap.size w w3 := b2.out.trans (hT2.below b2.out.size (fun i e => by cases e; omega))
    have hown3 := ownsRow_block hown2.out (fun i hi => hT2.block i (hown2.out.lt i hi).2 (fun e => by cases hi; simp at e; omega))
    have hz3 := block_lt hA3
    have hml2 : ∀ j : Nat, j < 10 → mayFrom t (10 - j) = (if mayTask t j then [(j : Int)] else []) ++ mayFrom t (10 - (j + 1)) := fun j hj => by
      rw [show 10 - j = (9 - j) + 1 by omega, mayFrom, show 9 - (9 - j) = j by omega, show 10 - (j + 1) = 9 - j by omega]
    replace hml2 := Lib.hid hml2
    replace hA3 := Lib.hid hA3
    replace b3 := Lib.hid b3
    replace hown3 := Lib.hid hown3
    clear hcall hA2 hT2 y0 y1 y2
    go_wp2_with fail
    go_loopw [3, 5] (fun o i wr => ∃ (j : Nat) (out : List Int), j ≤ 10 ∧ i = .int .i64 j ∧ out.length ≤ j ∧ Hid (out ++ mayFrom t (10 - j) = mayList t) ∧ Hid (wr.ownsRow w.heap.size 3 1 o out.length (ints out)) ∧ Hid (Below w.heap.size w wr) ∧ Hid (TenIs wr w1.heap.size (fun i => mayTask t i)) ∧ Hid (o.ownBlock ≠ some w1.heap.size)) (fun _ i _ => 10 - (intOf i).toNat)
    case atStart => exact ⟨0, [], by omega, rfl, by simp, Lib.hid (by rw [hml.out]; rfl), hown3, b3, hA3, Lib.hid (by simp [Value.ownBlock]; omega)⟩
    case round =>
      obtain ⟨j, out, hj, rfl, hol, he, hown, hw, hT, hne⟩ := hrel
      have hsz := hw.out.size
      have hzt := block_lt hT.out
      by_cases hlt : j < 10
      · have he2 := he.out
        rw [hml2.out j hlt] at he2
        have y := hT.out.cell hlt
        cases hmj : mayTask t j with
        | false =>
          rw [hmj] at he2 y
          have he3 : out ++ mayFrom t (10 - (j + 1)) = mayList t := by simpa using he2
          replace he3 := Lib.hid he3
          replace hmj := Lib.hid hmj
          clear he he2
          go_wp2_with fail
          go_roundw
          case rel => exact ⟨j + 1, out, by omega, by go_num, by omega, he3, hown, hw, hT, hne⟩
          case measure => simp [intOf]; omega
        | true =>
          rw [hmj] at he2 y
          have he3 : (out ++ [(j : Int)]) ++ mayFrom t (10 - (j + 1)) = mayList t := by simpa using he2
          replace he3 := Lib.hid he3
          replace hmj := Lib.hid hmj
          clear he he2
          go_wp2_with (at_builtin; go_loud (with_reducible refine wpList_app1 (by rfl) (.tmp 25) (.tmp 27) 26 (by rfl) intTy w.heap.size u3 out.length (ints out) (by with_unfolding_all rfl) (hown.out.alloc _) wr.heap.size 1 [.int .i64 j] (by with_unfolding_all rfl) (by with_unfolding_all rfl) ⟨_, _, heap_alloc_new wr _, rfl⟩ (one_int _ _) ?_ ?_ ?_ ?_))
          · unfold maxLen; omega
          · omega
          · first | omega | (simp; omega)
          intro g cap w7 hown7 hgrow7 hat7
          have hw7 := (below_al' hw.out (.cells #[.int .i64 j] 3 (0, 0)) hsz).grown hgrow7 (by simp; omega) (fun i hi => (hown.out.lt i hi).1)
          have hown7' : w7.ownsRow w.heap.size 3 1 (.slice (some ⟨g, 0, none⟩) (out.length + 1) cap) (out ++ [(j : Int)]).length (ints (out ++ [(j : Int)])) := by simpa [ints_append, ints] using hown7
          have hT7 : TenIs w7 w1.heap.size (fun i => mayTask t i) := hT.out.turn (far_grown hgrow7 hzt hne.out)
          have hne7 : (Value.slice (some ⟨g, 0, none⟩) (out.length + 1) cap).ownBlock ≠ some w1.heap.size := fun e => by
            cases e
            rcases hat7 with e | e
            · exact hne.out e
            · simp at e; omega
          replace hw7 := Lib.hid hw7
          replace hown7' := Lib.hid hown7'
          replace hT7 := Lib.hid hT7
          replace hne7 := Lib.hid hne7
          clear hown7 hgrow7 hat7 hown hw hT hne
          go_wp2_with fail
          go_roundw
          case rel => exact ⟨j + 1, out ++ [(j : Int)], by omega, by go_num, by simp; omega, he3, hown7', hw7, hT7, hne7⟩
          case measure => simp [intOf]; omega
      · have hj10 : j = 10 := by omega
        subst hj10
        have he2 : out = mayList t := by have := he.out; simpa [mayFrom] using this
        replace he2 := Lib.hid he2
        clear he
        go_wp2_with fail
        go_ret
        rw [← he2.out]
        exact ⟨_, rfl, hown.out, hw.out⟩
end Go.Proofs.Ytpccgdkidnkppaa

set_option linter.unusedVariables false
set_option linter.unusedSimpArgs false
namespace Go.Proofs.Ytpccgdkidnkppaa
open Go Go.RowKit

theorem mayFrom_range (t : Task) : ∀ (m : Nat), m ≤ 10 → ∀ x ∈ mayFrom t m, 0 ≤ x ∧ x ≤ 9 := by
  intro m
  induction m with
  | zero => intro _ x hx; cases hx
  | succ m ih =>
    intro hm x hx
    rw [mayFrom, List.mem_append] at hx
    rcases hx with hx | hx
    · split at hx
      · rw [List.mem_singleton.1 hx]; omega
      · cases hx
    · exact ih (by omega) x hx
theorem mayFrom_len (t : Task) : ∀ (m : Nat), (mayFrom t m).length ≤ m := by
  intro m
  induction m with
  | zero => simp [mayFrom]
  | succ m ih => rw [mayFrom, List.length_append]; split <;> simp <;> omega
theorem mayList_len (t : Task) : (mayList t).length ≤ 10 := by
  unfold mayList
  split
  · exact mayFrom_len t 10
  · simp
theorem mayList_range (t : Task) : ∀ x ∈ mayList t, 0 ≤ x ∧ x ≤ 9 := by
  intro x hx
  unfold mayList at hx
  split at hx
  · exact mayFrom_range t 10 (by omega) x hx
  · cases hx
theorem ownsRow.drewH {w : World} {base : Nat} {e : TypeId} {size : Nat} {v : Value} {n : Nat} {xs : List Value} (h : Hid (w.ownsRow base e size v n xs)) : Hid (w.drew.ownsRow base e size v n xs) := Lib.hid h.out.drew
/-- the made keys that a task may fetch -/
def mayMade (made : List Bool) (t : Task) : List Int := (mayList t).filter fun k => mkK made k

set_option maxHeartbeats 4000000 in
theorem l3May_calls (Am At : Option Addr) (cm ct : Nat) (made : List Bool) (tasks : List Task) (B : Nat) (w0 w : World) (hb : Below B w0 w) (hB : B ≤ w.heap.size) (hs : SheetAt B w0 Am cm At ct made tasks) (q : Nat) (hq : q < tasks.length) (hq9 : q ≤ 9) (hml : made.length ≤ 10) (hnod : nodes tasks[q] ≤ 1000000000) :
    Calls Try.prog 79 #[.agg #[.slice Am made.length cm, .slice At tasks.length ct], .int .i64 q] w fun e w' => ∃ v, e = .returned v ∧ w'.ownsRow w.heap.size 3 1 v (mayMade made tasks[q]).length (ints (mayMade made tasks[q])) ∧ Below w.heap.size w w' := by
  obtain ⟨bt, ot, At', ct', et, hbt, ht0, ht1, ht2, htc, htm, htp⟩ := hs.tasks.at hb q hq
  subst et
  have hbt4 : bt < w.heap.size := by omega
  have hms := hs.made
  have hcall := fun w1 (hw : Below w.heap.size w w1) => specTaskMay_calls tasks[q] hnod At' ct' B w0 w1 (below_up' hb hB hw) (Nat.le_trans hB hw.size) htc htm htp
  have hdef : mayMade made tasks[q] = (mayList tasks[q]).filter fun k => mkK made k := rfl
  have hL10 := mayList_len tasks[q]
  have hLr := mayList_range tasks[q]
  have hown0 : ((w.alloc (.cells #[.slice Am made.length cm, .slice (some ⟨bt, ot, none⟩) tasks.length ct] 31 (0, 0))).alloc (.cells #[] 3 (0, 0))).ownsRow w.heap.size 3 1 (.slice (some ⟨w.heap.size + 1, 0, none⟩) 0 0) 0 (ints []) := by
    simpa [ints] using World.ownsRow_made (base := w.heap.size) (w.alloc (.cells #[.slice Am made.length cm, .slice (some ⟨bt, ot, none⟩) tasks.length ct] 31 (0, 0))) #[] 0 (by simp) (by simp [maxLen]) rfl
  generalize mayMade made tasks[q] = M at *
  generalize mayList tasks[q] = L at *
  replace hcall := Lib.hid hcall
  replace hdef := Lib.hid hdef
  replace hLr := Lib.hid hLr
  replace hb := Lib.hid hb
  replace hms := Lib.hid hms
  replace hown0 := Lib.hid hown0
  clear htp hs htc
  go_enter Try.func79, Try.ntmps79
  go_wp2_with fail
  refine (hcall.out _ (below_al (below_al (Below.refl _ _) _) _)).mono ?_
  rintro e w1 ⟨v, rfl, hownL, h1⟩
  obtain ⟨AL, cL, rfl, hl1, hl2, hl3⟩ := ownsRow_ints hownL
  have hown1 := ownsRow_block hown0.out (fun i hi => h1.block i (hown0.out.lt i hi).2)
  have x0 : w1.cell? ⟨w.heap.size, 0, none⟩ = some (.slice Am made.length cm) := (h1.cell (p := ⟨w.heap.size, 0, none⟩) (by simp; omega)).trans (by simp)
  have b1 : Below w.heap.size w w1 := below_from (below_from h1)
  have s1 : w.heap.size < w1.heap.size := by have := h1.size; simp at this; omega
  have hfarL : ∀ i, (Value.slice AL L.length cL).ownBlock = some i → w.heap.size + 2 ≤ i := fun i hi => by have := (hownL.lt i hi).1; simpa using this
  replace hl3 := Lib.hid hl3
  replace hown1 := Lib.hid hown1
  replace b1 := Lib.hid b1
  replace hfarL := Lib.hid hfarL
  clear h1 hownL hown0 hcall ht0 ht1 ht2
  go_wp2_with fail
  have hfarL2 : ∀ b o, AL = some ⟨b, o, none⟩ → w.heap.size + 2 ≤ b ∧ 0 < 1 := fun b o e => ⟨hfarL.out b (by rw [e]; rfl), by omega⟩
  replace hfarL2 := Lib.hid hfarL2
  go_loopw [5, 7] (fun o i wr => ∃ (j : Nat) (out : List Int), j ≤ L.length ∧ i = .int .i64 j ∧ out.length ≤ j ∧ w.heap.size < wr.heap.size ∧ wr.cell? ⟨w.heap.size, 0, none⟩ = some (.slice Am made.length cm) ∧ Hid (out ++ (L.drop j).filter (fun k => mkK made k) = M) ∧ Hid (wr.ownsRow w.heap.size 3 1 o out.length (ints out)) ∧ Hid (Below w.heap.size w wr) ∧ Hid (IntsAt wr.heap.size wr AL L) ∧ Hid (∀ b oo, AL = some ⟨b, oo, none⟩ → o.ownBlock ≠ some b) ∧ Hid (o.ownBlock ≠ some w.heap.size)) (fun _ i _ => L.length - (intOf i).toNat)
  case atStart => exact ⟨0, [], Nat.zero_le _, rfl, by simp, s1, x0, Lib.hid (by rw [hdef.out]; rfl), hown1, b1, hl3, Lib.hid (fun b oo e => by have := (hfarL2.out b oo e).1; simp [Value.ownBlock]; omega), Lib.hid (by simp [Value.ownBlock])⟩
  case round =>
    obtain ⟨j, out, hj, rfl, hol, hz, hbox, he, hown, hw, hL, hfar, hne⟩ := hrel
    have hsz := hw.out.size
    by_cases hlt : j < L.length
    · obtain ⟨bL, oL, eL, hbL, y⟩ := hL.out j hlt
      have he2 := he.out
      rw [List.drop_eq_getElem_cons hlt, List.filter_cons] at he2
      have hr := hLr.out L[j] (List.getElem_mem _)
      have hfb := hfar.out bL oL eL
      obtain ⟨kq, hkq⟩ := Int.eq_ofNat_of_zero_le hr.1
      rw [hkq] at y he2
      have hkq9 : kq ≤ 9 := by omega
      subst eL
      replace hkq := Lib.hid hkq
      replace hfb := Lib.hid hfb
      cases hm : mkK made kq with
      | false =>
        rw [hm] at he2
        have he3 : out ++ (L.drop (j + 1)).filter (fun k => mkK made k) = M := by simpa using he2
        replace he3 := Lib.hid he3
        by_cases hk : kq < made.length
        · obtain ⟨bm, om, em, hbm, cmq⟩ := hms.out.at (hb.out.trans (hw.out.mono hB)) (by omega) kq hk
          have hmq : made[kq] = false := by
            unfold mkK at hm
            rw [if_neg (by omega), Int.toNat_natCast, getD_at _ hk] at hm
            exact hm
          rw [hmq] at cmq
          rw [em] at hbox
          subst em
          replace hm := Lib.hid hm
          replace hmq := Lib.hid hmq
          clear he he2
          go_wp2_with fail
          go_region
          go_wp2_with fail
          go_roundw
          case rel => exact ⟨j + 1, out, by omega, by go_num, by omega, hz, hbox, he3, ownsRow.drewH hown, Lib.hid hw.out.drew, hL, hfar, hne⟩
          case measure => simp [intOf]; omega
        · replace hm := Lib.hid hm
          clear he he2
          go_wp2_with fail
          go_region
          go_wp2_with fail
          go_roundw
          case rel => exact ⟨j + 1, out, by omega, by go_num, by omega, hz, hbox, he3, ownsRow.drewH hown, Lib.hid hw.out.drew, hL, hfar, hne⟩
          case measure => simp [intOf]; omega
      | true =>
        rw [hm] at he2
        have he3 : (out ++ [(kq : Int)]) ++ (L.drop (j + 1)).filter (fun k => mkK made k) = M := by simpa using he2
        replace he3 := Lib.hid he3
        have hk : kq < made.length := by have := mkK_range (show mkK made kq ≠ false by rw [hm]; simp); omega
        obtain ⟨bm, om, em, hbm, cmq⟩ := hms.out.at (hb.out.trans (hw.out.mono hB)) (by omega) kq hk
        have hmq : made[kq] = true := by
          unfold mkK at hm
          rw [if_neg (by omega), Int.toNat_natCast, getD_at _ hk] at hm
          exact hm
        rw [hmq] at cmq
        subst em
        replace hm := Lib.hid hm
        replace hmq := Lib.hid hmq
        have hownd := ownsRow.drewH hown
        clear he he2
        go_wp2_with fail
        go_region
        go_wp2_with (at_builtin; go_loud (with_reducible refine wpList_app1 (by rfl) (.tmp 39) (.tmp 44) 26 (by rfl) intTy w.heap.size u5 out.length (ints out) (by with_unfolding_all rfl) ((hown.out.alloc _).drew) wr.heap.size 1 [.int .i64 kq] (by with_unfolding_all rfl) (by with_unfolding_all rfl) ?_ (one_int _ _) ?_ ?_ ?_ ?_))
        · exact ⟨_, _, heap_alloc_new wr _, rfl⟩
        · unfold maxLen; omega
        · omega
        · first | omega | (simp; omega)
        intro g cap w7 hown7 hgrow7 hat7
        have hw7 := (below_al' hw.out (.cells #[.int .i64 kq] 3 (0, 0)) hsz).drew.grown hgrow7 (by simp; omega) (fun i hi => (hown.out.lt i hi).1)
        have hown7' : w7.ownsRow w.heap.size 3 1 (.slice (some ⟨g, 0, none⟩) (out.length + 1) cap) (out ++ [(kq : Int)]).length (ints (out ++ [(kq : Int)])) := by simpa [ints_append, ints] using hown7
        have hk0 : w7.heap[w.heap.size]? = wr.heap[w.heap.size]? := far_grown_drew hgrow7 hz hne.out
        have hkL : w7.heap[bL]? = wr.heap[bL]? := far_grown_drew hgrow7 hbL hfb.out
        have hbox7 := (World.cell?_of_block (w := wr) (a := ⟨w.heap.size, 0, none⟩) hk0).trans hbox
        have hz7 : wr.heap.size < w7.heap.size := by have := hgrow7.size; simp at this; omega
        have hL7 : IntsAt w7.heap.size w7 (some ⟨bL, oL, none⟩) L := fun i hi => by
          obtain ⟨b', o', e', hb', c'⟩ := hL.out i hi
          cases e'
          exact ⟨_, _, rfl, by omega, (World.cell?_of_block (w := wr) hkL).trans c'⟩
        have hg7 : ∀ b : Nat, u5.ownBlock ≠ some b → b < wr.heap.size → (Value.slice (some ⟨g, 0, none⟩) (out.length + 1) cap).ownBlock ≠ some b := fun b h1 h2 e => by
          cases e
          rcases hat7 with e | e
          · exact h1 e
          · first | omega | (dsimp only at h2; omega) | (simp at e; dsimp only at h2; omega)
        have hfar7 : ∀ b oo, (some ⟨bL, oL, none⟩ : Option Addr) = some ⟨b, oo, none⟩ → (Value.slice (some ⟨g, 0, none⟩) (out.length + 1) cap).ownBlock ≠ some b := fun b oo e => by cases e; exact hg7 _ hfb.out hbL
        have hne7 := hg7 _ hne.out hz
        have hz8 : w.heap.size < w7.heap.size := by omega
        replace hw7 := Lib.hid hw7
        replace hown7' := Lib.hid hown7'
        replace hL7 := Lib.hid hL7
        replace hfar7 := Lib.hid hfar7
        replace hne7 := Lib.hid hne7
        clear hown7 hgrow7 hat7 hk0 hkL hg7 hown hownd hL hfar hne hw
        go_wp2_with fail
        go_roundw
        case rel => exact ⟨j + 1, out ++ [(kq : Int)], by omega, by go_num, by simp; omega, hz8, hbox7, he3, hown7', hw7, hL7, hfar7, hne7⟩
        case measure => simp [intOf]; omega
    · have he2 : out = M := by
        have := he.out
        rw [List.drop_eq_nil_of_le (by omega)] at this
        simpa using this
      replace he2 := Lib.hid he2
      clear he
      go_wp2_with fail
      go_ret
      rw [← he2.out]
      exact ⟨_, rfl, hown.out, hw.out⟩
end Go.Proofs.Ytpccgdkidnkppaa

set_option linter.unusedVariables false
set_option linter.unusedSimpArgs false
namespace Go.Proofs.Ytpccgdkidnkppaa
open Go Go.RowKit

/-- a key that leads to no circle -/
inductive Wf (may : Int → List Int) : Int → Prop
  | mk (k : Int) : (∀ j, j ∈ may k → Wf may j) → Wf may k

/-- no key of a circle is one -/
theorem wf_no_cycle {may : Int → List Int} {l : List Int} (hn : l ≠ []) (hc : ∀ i (h : i < l.length), l[(i + 1) % l.length]'(Nat.mod_lt _ (by omega)) ∈ may l[i]) : ∀ k, Wf may k → k ∉ l := by
  intro k h
  induction h with
  | mk k _ ih =>
    intro hk
    obtain ⟨i, hi, rfl⟩ := List.getElem_of_mem hk
    exact ih _ (hc i hi) (List.getElem_mem _)

/-! the reference's passes -/
def passKs (may : Int → List Int) : List Int → (Int → Bool) → (Int → Bool)
  | [], d => d
  | k :: ks, d => passKs may ks (fun i => if i = k then (may k).all d else d i)
theorem passKs_wf {may : Int → List Int} : ∀ (ks : List Int) (d : Int → Bool), (∀ i, d i = true → Wf may i) → ∀ i, passKs may ks d i = true → Wf may i := by
  intro ks
  induction ks with
  | nil => intro d h i hi; exact h i hi
  | cons k ks ih =>
    intro d h i hi
    refine ih _ (fun j hj => ?_) i hi
    by_cases e : j = k
    · subst e
      simp only [if_true] at hj
      rw [List.all_eq_true] at hj
      exact .mk _ (fun m hm => h m (hj m hm))
    · simp only [e, if_false] at hj
      exact h j hj

/-- what is done stays done -/
theorem passKs_mono {may : Int → List Int} : ∀ (ks : List Int) (d : Int → Bool), (∀ i, d i = true → ∀ j ∈ may i, d j = true) → (∀ i, d i = true → passKs may ks d i = true) ∧ (∀ i, passKs may ks d i = true → ∀ j ∈ may i, passKs may ks d j = true) := by
  intro ks
  induction ks with
  | nil => intro d h; exact ⟨fun i hi => hi, h⟩
  | cons k ks ih =>
    intro d h
    have h1 : ∀ i, d i = true → (if i = k then (may k).all d else d i) = true := fun i hi => by
      by_cases e : i = k
      · subst e; rw [if_pos rfl, List.all_eq_true]; exact h i hi
      · rw [if_neg e]; exact hi
    have h2 : ∀ i, (if i = k then (may k).all d else d i) = true → ∀ j ∈ may i, (if j = k then (may k).all d else d j) = true := fun i hi j hj => by
      by_cases e : i = k
      · subst e
        rw [if_pos rfl, List.all_eq_true] at hi
        exact h1 j (hi j hj)
      · rw [if_neg e] at hi
        exact h1 j (h i hi j hj)
    obtain ⟨a, b⟩ := ih _ h2
    exact ⟨fun i hi => a i (h1 i hi), b⟩

/-- a key all of whose keys are done is done behind a pass -/
theorem passKs_adds {may : Int → List Int} : ∀ (ks : List Int) (d : Int → Bool), (∀ i, d i = true → ∀ j ∈ may i, d j = true) → ∀ k ∈ ks, (∀ j ∈ may k, d j = true) → passKs may ks d k = true := by
  intro ks
  induction ks with
  | nil => intro d _ k hk; cases hk
  | cons q ks ih =>
    intro d h k hk hm
    have h1 : ∀ i, d i = true → (if i = q then (may q).all d else d i) = true := fun i hi => by
      by_cases e : i = q
      · subst e; rw [if_pos rfl, List.all_eq_true]; exact h i hi
      · rw [if_neg e]; exact hi
    have h2 : ∀ i, (if i = q then (may q).all d else d i) = true → ∀ j ∈ may i, (if j = q then (may q).all d else d j) = true := fun i hi j hj => by
      by_cases e : i = q
      · subst e
        rw [if_pos rfl, List.all_eq_true] at hi
        exact h1 j (hi j hj)
      · rw [if_neg e] at hi
        exact h1 j (h i hi j hj)
    rcases List.mem_cons.1 hk with rfl | hk
    · exact (passKs_mono ks _ h2).1 k (by rw [if_pos rfl, List.all_eq_true]; exact hm)
    · exact ih _ h2 k hk (fun j hj => h1 j (hm j hj))
end Go.Proofs.Ytpccgdkidnkppaa

set_option linter.unusedVariables false
set_option linter.unusedSimpArgs false
namespace Go.Proofs.Ytpccgdkidnkppaa
open Go Go.RowKit

/-! what is reached -/
inductive Reach (mk : Int → Bool) (nx : Int → List Int) (l : List Int) : Int → Prop
  | here (k : Int) : k ∈ l → mk k = true → Reach mk nx l k
  | next (k j : Int) : Reach mk nx l k → j ∈ nx k → mk j = true → Reach mk nx l j
section
variable {mk : Int → Bool} {nx : Int → List Int}
theorem Reach.lift {l l' : List Int} (h : ∀ k ∈ l', mk k = true → Reach mk nx l k) : ∀ {k}, Reach mk nx l' k → Reach mk nx l k := by
  intro k hk
  induction hk with
  | here k h1 h2 => exact h k h1 h2
  | next k j _ h2 h3 ih => exact .next k j ih h2 h3
theorem Reach.mono {l l' : List Int} (h : ∀ k ∈ l', k ∈ l) {k : Int} : Reach mk nx l' k → Reach mk nx l k := Reach.lift fun k hk hm => .here k (h k hk) hm
theorem Reach.isMade {l : List Int} {k : Int} (h : Reach mk nx l k) : mk k = true := by cases h <;> assumption

/-- what a walk over a list adds -/
structure RStep (mk : Int → Bool) (nx : Int → List Int) (X : Int → Bool) (l : List Int) (Y : Int → Bool) : Prop where
  mono : ∀ k, X k = true → Y k = true
  hit : ∀ k ∈ l, mk k = true → Y k = true
  new : ∀ k, Y k = true → X k = false → Reach mk nx l k
  closed : ∀ k, Y k = true → X k = false → ∀ j ∈ nx k, mk j = true → Y j = true
theorem RStep.nil (X : Int → Bool) : RStep mk nx X [] X := ⟨fun _ h => h, fun k h => (by cases h), fun k h1 h2 => (by rw [h1] at h2; cases h2), fun k h1 h2 => (by rw [h1] at h2; cases h2)⟩
/-- a key that is not walked into -/
theorem RStep.skip {X Y : Int → Bool} {l : List Int} {k : Int} (h : RStep mk nx X l Y) (hk : mk k = false ∨ Y k = true) : RStep mk nx X (l ++ [k]) Y := by
  refine ⟨h.mono, fun j hj hm => ?_, fun j h1 h2 => Reach.mono (by simp +contextual) (h.new j h1 h2), h.closed⟩
  rcases List.mem_append.1 hj with hj | hj
  · exact h.hit j hj hm
  · rw [List.mem_singleton.1 hj] at hm ⊢
    exact hk.elim (fun e => by rw [e] at hm; cases hm) id
def setX (X : Int → Bool) (k : Int) : Int → Bool := fun j => if j = k then true else X j
theorem RStep.walk {X Y Z : Int → Bool} {l : List Int} {k : Int} (h : RStep mk nx X l Y) (hm : mk k = true) (hy : Y k = false) (h2 : RStep mk nx (setX Y k) (nx k) Z) : RStep mk nx X (l ++ [k]) Z := by
  have hYZ : ∀ j, Y j = true → Z j = true := fun j hj => h2.mono j (by simp only [setX]; split <;> simp [hj])
  have hkZ : Z k = true := h2.mono k (by simp [setX])
  have hin : Reach mk nx (l ++ [k]) k := .here k (by simp) hm
  refine ⟨fun j hj => hYZ j (h.mono j hj), fun j hj hmj => ?_, fun j h1 h3 => ?_, fun j h1 h3 i hi hmi => ?_⟩
  · rcases List.mem_append.1 hj with hj | hj
    · exact hYZ j (h.hit j hj hmj)
    · rw [List.mem_singleton.1 hj]; exact hkZ
  · by_cases hYj : Y j = true
    · exact Reach.mono (by simp +contextual) (h.new j hYj h3)
    · by_cases e : j = k
      · subst e; exact hin
      · have := h2.new j h1 (by simp only [setX, if_neg e]; simpa using hYj)
        exact Reach.lift (fun i hi hmi => .next k i hin hi hmi) this
  · by_cases hYj : Y j = true
    · exact hYZ i (h.closed j hYj h3 i hi hmi)
    · by_cases e : j = k
      · subst e; exact h2.hit i hi hmi
      · exact h2.closed j h1 (by simp only [setX, if_neg e]; simpa using hYj) i hi hmi
/-- from nothing: just what is reached -/
theorem RStep.reach {l : List Int} {Y : Int → Bool} (h : RStep mk nx (fun _ => false) l Y) (k : Int) : Y k = true ↔ Reach mk nx l k := by
  refine ⟨fun hk => h.new k hk rfl, fun hk => ?_⟩
  induction hk with
  | here k h1 h2 => exact h.hit k h1 h2
  | next k j _ h2 h3 ih => exact h.closed k ih rfl j h2 h3
end

/-! how many there are -/
def cntN (X : Int → Bool) (n : Nat) : Nat := ((List.range n).filter fun q : Nat => X q).length
theorem cntN_le (X : Int → Bool) (n : Nat) : cntN X n ≤ n := by
  have := List.length_filter_le (fun q : Nat => X q) (List.range n)
  simpa [cntN] using this
theorem cntN_congr {X Y : Int → Bool} {n : Nat} (h : ∀ q : Nat, q < n → X q = Y q) : cntN X n = cntN Y n := by
  unfold cntN
  congr 1
  apply List.filter_congr
  intro q hq
  exact h q (List.mem_range.1 hq)
theorem cntN_set {X : Int → Bool} : ∀ {n : Nat} {k : Nat}, k < n → X k = false → cntN (setX X k) n = cntN X n + 1 := by
  intro n
  induction n with
  | zero => intro k h; omega
  | succ n ih =>
    intro k hk hX
    unfold cntN
    rw [List.range_succ, List.filter_append, List.filter_append, List.length_append, List.length_append]
    by_cases e : k = n
    · subst e
      have h1 := cntN_congr (X := setX X k) (Y := X) (n := k) (fun q hq => by simp only [setX]; rw [if_neg (by omega)])
      unfold cntN at h1
      rw [h1]
      simp [setX, hX]
    · have h1 := ih (k := k) (by omega) hX
      unfold cntN at h1
      rw [h1]
      have h2 : setX X k n = X n := by simp only [setX]; rw [if_neg (by omega)]
      simp only [List.filter_cons, h2, List.filter_nil]
      split <;> simp <;> omega
theorem cntN_zero (n : Nat) : cntN (fun _ => false) n = 0 := by simp [cntN]
theorem nodup_sub_len {α : Type} [BEq α] [LawfulBEq α] : ∀ {l m : List α}, l.Nodup → (∀ x ∈ l, x ∈ m) → l.length ≤ m.length := by
  intro l
  induction l with
  | nil => intro m _ _; simp
  | cons a l ih =>
    intro m hn h
    obtain ⟨h1, h2⟩ := List.nodup_cons.1 hn
    have ha := h a (by simp)
    have h3 := ih (m := m.erase a) h2 (fun x hx => (List.mem_erase_of_ne (fun e : x = a => h1 (by rw [← e]; exact hx))).2 (h x (by simp [hx])))
    have h4 := List.length_erase_of_mem ha
    have h5 := List.length_pos_of_mem ha
    simp; omega
/-- members of a set, each once, are not more than there are; if as many, they are all -/
theorem sub_cnt {X : Int → Bool} {n : Nat} {l : List Int} (hn : l.Nodup) (hl : ∀ x ∈ l, 0 ≤ x ∧ x < n ∧ X x = true) : l.length ≤ cntN X n ∧ (l.length = cntN X n → ∀ q : Nat, q < n → X q = true → (q : Int) ∈ l) := by
  have h0 : ∀ (l : List Int), l.Nodup → (∀ x ∈ l, 0 ≤ x ∧ x < n ∧ X x = true) → l.length ≤ cntN X n := by
    intro l hn hl
    have e : ∀ (m : Nat) (l : List Int), l.Nodup → (∀ x ∈ l, 0 ≤ x ∧ x < (m : Int) ∧ X x = true) → l.length ≤ cntN X m := by
      intro m
      induction m with
      | zero =>
        intro l _ h
        cases l with
        | nil => simp
        | cons a l => have := h a (by simp); omega
      | succ m ih =>
        intro l hn h
        have h1 := ih (l.erase (m : Int)) (hn.erase _) (fun x hx => by
          have h2 := (hn.mem_erase_iff).1 hx
          have := h x h2.2
          exact ⟨this.1, by have := h2.1; omega, this.2.2⟩)
        have h2 := List.length_erase (a := (m : Int)) (l := l)
        have h3 : cntN X (m + 1) = cntN X m + if X m then 1 else 0 := by
          unfold cntN
          rw [List.range_succ, List.filter_append, List.length_append]
          simp only [List.filter_cons, List.filter_nil]
          split <;> simp
        split at h2
        · rename_i hm
          rw [if_pos (h _ hm).2.2] at h3
          omega
        · omega
    exact e n l hn hl
  refine ⟨h0 l hn hl, fun he q hq hX => ?_⟩
  by_cases hm : (q : Int) ∈ l
  · exact hm
  · exfalso
    have := h0 ((q : Int) :: l) (List.nodup_cons.2 ⟨hm, hn⟩) (fun x hx => by
      rcases List.mem_cons.1 hx with rfl | hx
      · exact ⟨by omega, by omega, hX⟩
      · exact hl x hx)
    simp at this
    omega

/-! topological order: always the least one that is free -/
def freeK (X : Int → Bool) (may : Int → List Int) (out : List Int) (k : Int) : Bool := X k && !out.contains k && (may k).all fun j => out.contains j
def nextK (X : Int → Bool) (may : Int → List Int) (n : Nat) (out : List Int) : Option Nat := (List.range n).find? fun q : Nat => freeK X may out q
def topoP (X : Int → Bool) (may : Int → List Int) (n : Nat) : Nat → List Int → List Int × Bool
  | 0, out => (out, true)
  | m + 1, out => match nextK X may n out with
    | none => ([], false)
    | some q => topoP X may n m (out ++ [(q : Int)])
section
variable {X : Int → Bool} {may : Int → List Int} {n : Nat}
theorem nextK_some {out : List Int} {q : Nat} (h : nextK X may n out = some q) : q < n ∧ freeK X may out q = true := by
  unfold nextK at h
  have h1 := List.find?_some h
  have h2 := List.mem_of_find?_eq_some h
  exact ⟨List.mem_range.1 h2, h1⟩
theorem nextK_none {out : List Int} (h : nextK X may n out = none) : ∀ q : Nat, q < n → freeK X may out q = false := by
  intro q hq
  unfold nextK at h
  have := List.find?_eq_none.1 h q (List.mem_range.2 hq)
  simpa using this
theorem nextK_at {out : List Int} {q : Nat} (hq : q < n) (hf : freeK X may out q = true) (h : ∀ j : Nat, j < q → freeK X may out j = false) : nextK X may n out = some q := by
  unfold nextK
  rw [List.find?_range_eq_some]
  exact ⟨hf, by simpa using hq, fun j hj => by simp [h j hj]⟩
/-- what is put out so far -/
structure TOk (X : Int → Bool) (may : Int → List Int) (n : Nat) (out : List Int) : Prop where
  nodup : out.Nodup
  sub : ∀ x ∈ out, 0 ≤ x ∧ x < n ∧ X x = true
  behind : ∀ i (h : i < out.length), ∀ j ∈ may out[i], j ∈ out.take i
theorem TOk.nil : TOk X may n [] := ⟨List.nodup_nil, fun x h => (by cases h), fun i h => (by simp at h)⟩
theorem TOk.push {out : List Int} {q : Nat} (h : TOk X may n out) (hq : q < n) (hf : freeK X may out q = true) : TOk X may n (out ++ [(q : Int)]) := by
  simp only [freeK, Bool.and_eq_true, Bool.not_eq_true', List.contains_eq_mem, decide_eq_false_iff_not, List.all_eq_true, decide_eq_true_eq] at hf
  obtain ⟨⟨h1, h2⟩, h3⟩ := hf
  refine ⟨?_, fun x hx => ?_, fun i hi j hj => ?_⟩
  · rw [List.nodup_append]
    exact ⟨h.nodup, by simp, fun a ha b hb => by simp only [List.mem_singleton] at hb; subst hb; intro e; exact h2 (e ▸ ha)⟩
  · rcases List.mem_append.1 hx with hx | hx
    · exact h.sub x hx
    · rw [List.mem_singleton.1 hx]; exact ⟨by omega, by omega, h1⟩
  · simp only [List.length_append, List.length_cons, List.length_nil] at hi
    by_cases hlt : i < out.length
    · rw [List.getElem_append_left hlt] at hj
      rw [List.take_append_of_le_length (by omega)]
      exact h.behind i hlt j hj
    · have e : i = out.length := by omega
      subst e
      simp only [List.getElem_concat_length] at hj
      rw [List.take_append_of_le_length (by omega), List.take_length]
      exact h3 j hj
theorem TOk.wf {out : List Int} (h : TOk X may n out) : ∀ x ∈ out, Wf may x := by
  have : ∀ i (hi : i < out.length), Wf may out[i] := by
    intro i
    induction i using Nat.strongRecOn with
    | ind i ih =>
      intro hi
      refine .mk _ fun j hj => ?_
      have hm := h.behind i hi j hj
      obtain ⟨q, hq, rfl⟩ := List.getElem_of_mem hm
      simp only [List.length_take] at hq
      rw [List.getElem_take]
      exact ih q (by omega) (by omega)
  intro x hx
  obtain ⟨i, hi, rfl⟩ := List.getElem_of_mem hx
  exact this i hi
/-- when it stands still, no key that is left leads to no circle -/
theorem stuck_wf {out : List Int} (hcl : ∀ k : Nat, k < n → X k = true → ∀ j ∈ may k, X j = true ∧ 0 ≤ j ∧ j < n) (hn : nextK X may n out = none) : ∀ k, Wf may k → 0 ≤ k → k < n → X k = true → k ∈ out := by
  intro k hk
  induction hk with
  | mk k _ ih =>
    intro h0 h1 hX
    obtain ⟨q, rfl⟩ := Int.eq_ofNat_of_zero_le h0
    have hf := nextK_none hn q (by omega)
    by_cases hm : (q : Int) ∈ out
    · exact hm
    · exfalso
      have : freeK X may out q = true := by
        simp only [freeK, Bool.and_eq_true, Bool.not_eq_true', List.contains_eq_mem, decide_eq_false_iff_not, List.all_eq_true, decide_eq_true_eq]
        refine ⟨⟨hX, hm⟩, fun j hj => ?_⟩
        obtain ⟨a, b, c⟩ := hcl q (by omega) hX j hj
        exact ih j hj b c a
      rw [this] at hf; cases hf
/-- a topological order of a set is one of all its keys, or some key leads to a circle -/
theorem topoP_spec (hcl : ∀ k : Nat, k < n → X k = true → ∀ j ∈ may k, X j = true ∧ 0 ≤ j ∧ j < n) : ∀ (m : Nat) (out : List Int), TOk X may n out → out.length + m = cntN X n →
    ((topoP X may n m out).2 = true ∧ TOk X may n (topoP X may n m out).1 ∧ (topoP X may n m out).1.length = cntN X n) ∨ (topoP X may n m out = ([], false) ∧ ∃ k : Nat, k < n ∧ X k = true ∧ ¬ Wf may k) := by
  intro m
  induction m with
  | zero => intro out h hl; exact .inl ⟨rfl, h, by simpa [topoP] using hl⟩
  | succ m ih =>
    intro out h hl
    rw [topoP]
    cases e : nextK X may n out with
    | some q =>
      obtain ⟨h1, h2⟩ := nextK_some e
      exact ih _ (h.push h1 h2) (by simp; omega)
    | none =>
      right
      refine ⟨rfl, ?_⟩
      have hle := sub_cnt h.nodup h.sub
      by_cases hall : ∀ q : Nat, q < n → X q = true → (q : Int) ∈ out
      · exfalso
        have : cntN X n ≤ out.length := by
          have h1 : ((List.range n).filter fun q : Nat => X q).length ≤ out.length := by
            have h2 : (((List.range n).filter fun q : Nat => X q).map fun q : Nat => (q : Int)).length ≤ out.length := by
              refine nodup_sub_len ?_ ?_
              · refine List.Pairwise.map _ (fun a b (h : a ≠ b) => ?_) (List.Pairwise.filter _ List.nodup_range)
                omega
              · intro x hx
                obtain ⟨q, hq, rfl⟩ := List.mem_map.1 hx
                obtain ⟨h3, h4⟩ := List.mem_filter.1 hq
                exact hall q (List.mem_range.1 h3) h4
            simpa using h2
          exact h1
        omega
      · simp only [Classical.not_forall] at hall
        obtain ⟨q, hq, hX, hno⟩ := hall
        exact ⟨q, hq, hX, fun hw => hno (stuck_wf hcl e q hw (by omega) (by omega) hX)⟩
theorem topoP_ok (hcl : ∀ k : Nat, k < n → X k = true → ∀ j ∈ may k, X j = true ∧ 0 ≤ j ∧ j < n) : (topoP X may n (cntN X n) []).2 = true ↔ ∀ k : Nat, k < n → X k = true → Wf may k := by
  rcases topoP_spec hcl (cntN X n) [] TOk.nil (by simp) with ⟨h1, h2, h3⟩ | ⟨h1, k, h2, h3, h4⟩
  · exact ⟨fun _ k hk hX => h2.wf k ((sub_cnt h2.nodup h2.sub).2 h3 k hk hX), fun _ => h1⟩
  · rw [h1]
    exact ⟨fun h => (by cases h), fun h => (h4 (h k h2 h3)).elim⟩
end
end Go.Proofs.Ytpccgdkidnkppaa
