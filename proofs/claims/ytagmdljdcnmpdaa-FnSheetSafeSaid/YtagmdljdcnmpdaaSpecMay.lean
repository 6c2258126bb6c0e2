import Derived.Test.YtagmdljdcnmpdaaL2May
set_option linter.unusedVariables false
set_option linter.unusedSimpArgs false
namespace Go.Proofs.Ytagmdljdcnmpdaa
open Go Go.RowKit

theorem made_ten : (madeCells #[Value.bool false] 10).toList = ((List.range 10).map (fun i : Nat => Value.bool ((fun _ : Int => false) i))).toArray.toList := by kernel_rfl
theorem boolTy' : ElemTy Try.prog 23 4 (.bool false) 1 1 := ⟨Try.underlying23, by kernel_rfl, rfl, by omega⟩

set_option maxRecDepth 5000 in
set_option maxHeartbeats 4000000 in
theorem specTaskMay_calls (t : Task) (hnod : nodes t ≤ 1000000000) (A : Option Addr) (c B : Nat) (w0 w : World) (hb : Below B w0 w) (hB : B ≤ w.heap.size) (hc : t.parts.length ≤ c) (hm : c ≤ maxLen) (hp : PartsIs B w0 A 0 t.parts) :
    Calls Try.prog 87 #[.agg #[.int .i64 t.kind, .int .i64 t.n, .slice A t.parts.length c]] w fun e w' => ∃ v, e = .returned v ∧ w'.ownsRow w.heap.size 3 1 v (mayList t).length (ints (mayList t)) ∧ Below w.heap.size w w' := by
  have h1 := fun w1 (hw : Below w.heap.size w w1) => specTaskOk_calls t A c B w0 w1 hnod (below_up' hb hB hw) (Nat.le_trans hB hw.size) hc hm hp
  have h2 := fun (hf : fitAll t = true) w1 (hw : Below w.heap.size w w1) (b : Nat) (p : Int → Bool) (hA : TenIs w1 b p) (hBb : B ≤ b) => l2May_calls t hf A c B b p w0 w1 (below_up' hb hB hw) (Nat.le_trans hB hw.size) hc hm hp hA hBb
  have hml : mayList t = if okT t then mayFrom t 10 else [] := rfl
  have hfit : okT t = true → fitAll t = true := fun h => (Bool.and_eq_true_iff.1 h).1
  replace h2 := Lib.hid h2
  clear hb hp
  have hown0 : ((w.alloc (.cells #[.int .i64 t.kind, .int .i64 t.n, .slice A t.parts.length c] 36 (0, 0))).alloc (.cells #[] 3 (0, 0))).ownsRow w.heap.size 3 1 (.slice (some ⟨w.heap.size + 1, 0, none⟩) 0 0) 0 (ints []) := by
    simpa [ints] using World.ownsRow_made (base := w.heap.size) (w.alloc (.cells #[.int .i64 t.kind, .int .i64 t.n, .slice A t.parts.length c] 36 (0, 0))) #[] 0 (by simp) (by simp [maxLen]) rfl
  cases hok : okT t with
  | false =>
    rw [hok] at h1 hml
    replace h1 := Lib.hid h1
    replace hml := Lib.hid hml
    replace hown0 := Lib.hid hown0
    clear hok hfit h2
    go_enter Try.func87, Try.ntmps87
    go_wp2_with fail
    refine (h1.out _ (below_al (below_al (Below.refl _ _) _) _)).mono ?_
    rintro e w1 ⟨rfl, h3⟩
    have hown1 := ownsRow_block hown0.out (fun i hi => h3.block i (hown0.out.lt i hi).2)
    have b1 : Below w.heap.size w w1 := below_from (below_from h3)
    replace hown1 := Lib.hid hown1
    clear h3
    go_wp2_with fail
    go_ret
    rw [hml.out]
    exact ⟨_, rfl, hown1.out, b1⟩
  | true =>
    have hf := hfit hok
    rw [hok, if_pos rfl] at hml
    rw [hok] at h1
    replace h1 := Lib.hid h1
    replace hml := Lib.hid hml
    replace hf := Lib.hid hf
    replace hown0 := Lib.hid hown0
    clear hok hfit
    go_enter Try.func87, Try.ntmps87
    go_wp2_with fail
    refine (h1.out _ (below_al (below_al (Below.refl _ _) _) _)).mono ?_
    rintro e w1 ⟨rfl, h3⟩
    have x0 : w1.cell? ⟨w.heap.size, 0, none⟩ = some (.int .i64 t.kind) := (h3.cell (p := ⟨w.heap.size, 0, none⟩) (by simp; omega)).trans (by simp)
    have x1 : w1.cell? ⟨w.heap.size, 1, none⟩ = some (.int .i64 t.n) := (h3.cell (p := ⟨w.heap.size, 1, none⟩) (by simp; omega)).trans (by simp)
    have x2 : w1.cell? ⟨w.heap.size, 2, none⟩ = some (.slice A t.parts.length c) := (h3.cell (p := ⟨w.heap.size, 2, none⟩) (by simp; omega)).trans (by simp)
    have b1 : Below w.heap.size w w1 := below_from (below_from h3)
    have s1 : w.heap.size + 1 < w1.heap.size := by have := h3.size; simp at this; omega
    have hown1 := ownsRow_block hown0.out (fun i hi => h3.block i (hown0.out.lt i hi).2)
    replace b1 := Lib.hid b1
    replace hown1 := Lib.hid hown1
    clear h3 hown0
    obtain ⟨ii, hi1, hi2, hi3, hi4⟩ := info_parts boolTy'.hi
    replace hi1 := Lib.hid hi1
    replace hi2 := Lib.hid hi2
    replace hi3 := Lib.hid hi3
    replace hi4 := Lib.hid hi4
    go_wp2_with (at_make; go_loud (with_reducible refine wpList_make_full _ (by rfl) _ _ 23 (by rfl) w.heap.size 4 ii (.bool false) 1 Try.underlying23 hi1.out hi2.out hi3.out .i64 .i64 10 10 10 (by with_unfolding_all rfl) (by with_unfolding_all rfl) rfl rfl ?_ ?_ ?_ ?_))
    · rw [hi4.out]; omega
    · simp [maxLen]
    · omega
    intro w2 hmk hgrow
    have hA : TenIs w2 w1.heap.size (fun _ => false) := by
      obtain ⟨hl, ⟨e, _⟩ | ⟨g, cap, cur, e, hg, hb, hn, hc, hs, ht⟩⟩ := hmk
      · cases e
      · cases e
        unfold TenIs
        rw [hb]
        congr 2
        apply Array.ext'
        have : cur.toList.take 10 = cur.toList := List.take_of_length_le (by simp; omega)
        simp only [Nat.mul_one] at ht
        rw [this] at ht
        rw [ht]
        exact made_ten
    have hb12 : Below w1.heap.size w1 w2 := ⟨hgrow.os, hgrow.tape, hgrow.output, hgrow.size, fun k hk => hgrow.block k hk (by simp)⟩
    have b2 : Below w.heap.size w w2 := b1.out.trans (hb12.mono b1.out.size)
    have hown2 := ownsRow_block hown1.out (fun i hi => hb12.block i (hown1.out.lt i hi).2)
    have y0 := kept_cell hb12 (by omega) x0
    have y1 := kept_cell hb12 (by omega) x1
    have y2 := kept_cell hb12 (by omega) x2
    have hz2 := block_lt hA
    have hcall := h2.out hf.out w2 b2 w1.heap.size (fun _ => false) hA (Nat.le_trans hB b1.out.size)
    replace hcall := Lib.hid hcall
    replace b2 := Lib.hid b2
    replace hown2 := Lib.hid hown2
    clear hA hb12 hgrow hmk x0 x1 x2 hi1 hi2 hi3 hi4
    go_wp2_with fail
    refine hcall.out.mono ?_
    rintro e w3 ⟨⟨v, rfl⟩, hA2, hT2⟩
    have hA3 : TenIs w3 w1.heap.size (fun i => mayTask t i) := hA2.congr (fun i hi => by simp)
    have b3 : Below w.heap.size w w3 := b2.out.trans (hT2.below b2.out.size (fun i e => by cases e; omega))
    have hown3 := ownsRow_block hown2.out (fun i hi => hT2.block i (hown2.out.lt i hi).2 (fun e => by cases hi; simp at e; omega))
    have hz3 := block_lt hA3
    have hml2 : ∀ j : Nat, j < 10 → mayFrom t (10 - j) = (if mayTask t j then [(j : Int)] else []) ++ mayFrom t (10 - (j + 1)) := fun j hj => by
      rw [show 10 - j = (9 - j) + 1 by omega, mayFrom, show 9 - (9 - j) = j by omega, show 10 - (j + 1) = 9 - j by omega]
    replace hml2 := Lib.hid hml2
    replace hA3 := Lib.hid hA3
    replace b3 := Lib.hid b3
    replace hown3 := Lib.hid hown3
    clear hcall hA2 hT2 y0 y1 y2
    go_wp2_with fail
    go_loopw [3, 5] (fun o i wr => ∃ (j : Nat) (out : List Int), j ≤ 10 ∧ i = .int .i64 j ∧ out.length ≤ j ∧ Hid (out ++ mayFrom t (10 - j) = mayList t) ∧ Hid (wr.ownsRow w.heap.size 3 1 o out.length (ints out)) ∧ Hid (Below w.heap.size w wr) ∧ Hid (TenIs wr w1.heap.size (fun i => mayTask t i)) ∧ Hid (o.ownBlock ≠ some w1.heap.size)) (fun _ i _ => 10 - (intOf i).toNat)
    case atStart => exact ⟨0, [], by omega, rfl, by simp, Lib.hid (by rw [hml.out]; rfl), hown3, b3, hA3, Lib.hid (by simp [Value.ownBlock]; omega)⟩
    case round =>
      obtain ⟨j, out, hj, rfl, hol, he, hown, hw, hT, hne⟩ := hrel
      have hsz := hw.out.size
      have hzt := block_lt hT.out
      by_cases hlt : j < 10
      · have he2 := he.out
        rw [hml2.out j hlt] at he2
        have y := hT.out.cell hlt
        cases hmj : mayTask t j with
        | false =>
          rw [hmj] at he2 y
          have he3 : out ++ mayFrom t (10 - (j + 1)) = mayList t := by simpa using he2
          replace he3 := Lib.hid he3
          replace hmj := Lib.hid hmj
          clear he he2
          go_wp2_with fail
          go_roundw
          case rel => exact ⟨j + 1, out, by omega, by go_num, by omega, he3, hown, hw, hT, hne⟩
          case measure => simp [intOf]; omega
        | true =>
          rw [hmj] at he2 y
          have he3 : (out ++ [(j : Int)]) ++ mayFrom t (10 - (j + 1)) = mayList t := by simpa using he2
          replace he3 := Lib.hid he3
          replace hmj := Lib.hid hmj
          clear he he2
          go_wp2_with (at_builtin; go_loud (with_reducible refine wpList_app1 (by rfl) (.tmp 25) (.tmp 27) 27 (by rfl) intTy w.heap.size u3 out.length (ints out) (by with_unfolding_all rfl) (hown.out.alloc _) wr.heap.size 1 [.int .i64 j] (by with_unfolding_all rfl) (by with_unfolding_all rfl) ⟨_, _, heap_alloc_new wr _, rfl⟩ (one_int _ _) ?_ ?_ ?_ ?_))
          · unfold maxLen; omega
          · omega
          · first | omega | (simp; omega)
          intro g cap w7 hown7 hgrow7 hat7
          have hw7 := (below_al' hw.out (.cells #[.int .i64 j] 3 (0, 0)) hsz).grown hgrow7 (by simp; omega) (fun i hi => (hown.out.lt i hi).1)
          have hown7' : w7.ownsRow w.heap.size 3 1 (.slice (some ⟨g, 0, none⟩) (out.length + 1) cap) (out ++ [(j : Int)]).length (ints (out ++ [(j : Int)])) := by simpa [ints_append, ints] using hown7
          have hT7 : TenIs w7 w1.heap.size (fun i => mayTask t i) := hT.out.turn (far_grown hgrow7 hzt hne.out)
          have hne7 : (Value.slice (some ⟨g, 0, none⟩) (out.length + 1) cap).ownBlock ≠ some w1.heap.size := fun e => by
            cases e
            rcases hat7 with e | e
            · exact hne.out e
            · simp at e; omega
          replace hw7 := Lib.hid hw7
          replace hown7' := Lib.hid hown7'
          replace hT7 := Lib.hid hT7
          replace hne7 := Lib.hid hne7
          clear hown7 hgrow7 hat7 hown hw hT hne
          go_wp2_with fail
          go_roundw
          case rel => exact ⟨j + 1, out ++ [(j : Int)], by omega, by go_num, by simp; omega, he3, hown7', hw7, hT7, hne7⟩
          case measure => simp [intOf]; omega
      · have hj10 : j = 10 := by omega
        subst hj10
        have he2 : out = mayList t := by have := he.out; simpa [mayFrom] using this
        replace he2 := Lib.hid he2
        clear he
        go_wp2_with fail
        go_ret
        rw [← he2.out]
        exact ⟨_, rfl, hown.out, hw.out⟩
end Go.Proofs.Ytagmdljdcnmpdaa
