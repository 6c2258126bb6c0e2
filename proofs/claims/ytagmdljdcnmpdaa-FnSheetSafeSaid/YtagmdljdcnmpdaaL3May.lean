import Derived.Test.YtagmdljdcnmpdaaSpecMay
set_option linter.unusedVariables false
set_option linter.unusedSimpArgs false
namespace Go.Proofs.Ytagmdljdcnmpdaa
open Go Go.RowKit

theorem mayFrom_range (t : Task) : ∀ (m : Nat), m ≤ 10 → ∀ x ∈ mayFrom t m, 0 ≤ x ∧ x ≤ 9 := by
  intro m
  induction m with
  | zero => intro _ x hx; cases hx
  | succ m ih =>
    intro hm x hx
    rw [mayFrom, List.mem_append] at hx
    rcases hx with hx | hx
    · split at hx
      · rw [List.mem_singleton.1 hx]; omega
      · cases hx
    · exact ih (by omega) x hx
theorem mayFrom_len (t : Task) : ∀ (m : Nat), (mayFrom t m).length ≤ m := by
  intro m
  induction m with
  | zero => simp [mayFrom]
  | succ m ih => rw [mayFrom, List.length_append]; split <;> simp <;> omega
theorem mayList_len (t : Task) : (mayList t).length ≤ 10 := by
  unfold mayList
  split
  · exact mayFrom_len t 10
  · simp
theorem mayList_range (t : Task) : ∀ x ∈ mayList t, 0 ≤ x ∧ x ≤ 9 := by
  intro x hx
  unfold mayList at hx
  split at hx
  · exact mayFrom_range t 10 (by omega) x hx
  · cases hx
theorem ownsRow.drewH {w : World} {base : Nat} {e : TypeId} {size : Nat} {v : Value} {n : Nat} {xs : List Value} (h : Hid (w.ownsRow base e size v n xs)) : Hid (w.drew.ownsRow base e size v n xs) := Lib.hid h.out.drew
/-- the made keys that a task may fetch -/
def mayMade (made : List Bool) (t : Task) : List Int := (mayList t).filter fun k => mkK made k

set_option maxHeartbeats 4000000 in
theorem l3May_calls (Am At : Option Addr) (cm ct : Nat) (made : List Bool) (tasks : List Task) (B : Nat) (w0 w : World) (hb : Below B w0 w) (hB : B ≤ w.heap.size) (hs : SheetAt B w0 Am cm At ct made tasks) (q : Nat) (hq : q < tasks.length) (hq9 : q ≤ 9) (hml : made.length ≤ 10) (hnod : nodes tasks[q] ≤ 1000000000) :
    Calls Try.prog 56 #[.agg #[.slice Am made.length cm, .slice At tasks.length ct], .int .i64 q] w fun e w' => ∃ v, e = .returned v ∧ w'.ownsRow w.heap.size 3 1 v (mayMade made tasks[q]).length (ints (mayMade made tasks[q])) ∧ Below w.heap.size w w' := by
  obtain ⟨bt, ot, At', ct', et, hbt, ht0, ht1, ht2, htc, htm, htp⟩ := hs.tasks.at hb q hq
  subst et
  have hbt4 : bt < w.heap.size := by omega
  have hms := hs.made
  have hcall := fun w1 (hw : Below w.heap.size w w1) => specTaskMay_calls tasks[q] hnod At' ct' B w0 w1 (below_up' hb hB hw) (Nat.le_trans hB hw.size) htc htm htp
  have hdef : mayMade made tasks[q] = (mayList tasks[q]).filter fun k => mkK made k := rfl
  have hL10 := mayList_len tasks[q]
  have hLr := mayList_range tasks[q]
  have hown0 : ((w.alloc (.cells #[.slice Am made.length cm, .slice (some ⟨bt, ot, none⟩) tasks.length ct] 26 (0, 0))).alloc (.cells #[] 3 (0, 0))).ownsRow w.heap.size 3 1 (.slice (some ⟨w.heap.size + 1, 0, none⟩) 0 0) 0 (ints []) := by
    simpa [ints] using World.ownsRow_made (base := w.heap.size) (w.alloc (.cells #[.slice Am made.length cm, .slice (some ⟨bt, ot, none⟩) tasks.length ct] 26 (0, 0))) #[] 0 (by simp) (by simp [maxLen]) rfl
  generalize mayMade made tasks[q] = M at *
  generalize mayList tasks[q] = L at *
  replace hcall := Lib.hid hcall
  replace hdef := Lib.hid hdef
  replace hLr := Lib.hid hLr
  replace hb := Lib.hid hb
  replace hms := Lib.hid hms
  replace hown0 := Lib.hid hown0
  clear htp hs htc
  go_enter Try.func56, Try.ntmps56
  go_wp2_with fail
  refine (hcall.out _ (below_al (below_al (Below.refl _ _) _) _)).mono ?_
  rintro e w1 ⟨v, rfl, hownL, h1⟩
  obtain ⟨AL, cL, rfl, hl1, hl2, hl3⟩ := ownsRow_ints hownL
  have hown1 := ownsRow_block hown0.out (fun i hi => h1.block i (hown0.out.lt i hi).2)
  have x0 : w1.cell? ⟨w.heap.size, 0, none⟩ = some (.slice Am made.length cm) := (h1.cell (p := ⟨w.heap.size, 0, none⟩) (by simp; omega)).trans (by simp)
  have b1 : Below w.heap.size w w1 := below_from (below_from h1)
  have s1 : w.heap.size < w1.heap.size := by have := h1.size; simp at this; omega
  have hfarL : ∀ i, (Value.slice AL L.length cL).ownBlock = some i → w.heap.size + 2 ≤ i := fun i hi => by have := (hownL.lt i hi).1; simpa using this
  replace hl3 := Lib.hid hl3
  replace hown1 := Lib.hid hown1
  replace b1 := Lib.hid b1
  replace hfarL := Lib.hid hfarL
  clear h1 hownL hown0 hcall ht0 ht1 ht2
  go_wp2_with fail
  have hfarL2 : ∀ b o, AL = some ⟨b, o, none⟩ → w.heap.size + 2 ≤ b ∧ 0 < 1 := fun b o e => ⟨hfarL.out b (by rw [e]; rfl), by omega⟩
  replace hfarL2 := Lib.hid hfarL2
  go_loopw [5, 7] (fun o i wr => ∃ (j : Nat) (out : List Int), j ≤ L.length ∧ i = .int .i64 j ∧ out.length ≤ j ∧ w.heap.size < wr.heap.size ∧ wr.cell? ⟨w.heap.size, 0, none⟩ = some (.slice Am made.length cm) ∧ Hid (out ++ (L.drop j).filter (fun k => mkK made k) = M) ∧ Hid (wr.ownsRow w.heap.size 3 1 o out.length (ints out)) ∧ Hid (Below w.heap.size w wr) ∧ Hid (IntsAt wr.heap.size wr AL L) ∧ Hid (∀ b oo, AL = some ⟨b, oo, none⟩ → o.ownBlock ≠ some b) ∧ Hid (o.ownBlock ≠ some w.heap.size)) (fun _ i _ => L.length - (intOf i).toNat)
  case atStart => exact ⟨0, [], Nat.zero_le _, rfl, by simp, s1, x0, Lib.hid (by rw [hdef.out]; rfl), hown1, b1, hl3, Lib.hid (fun b oo e => by have := (hfarL2.out b oo e).1; simp [Value.ownBlock]; omega), Lib.hid (by simp [Value.ownBlock])⟩
  case round =>
    obtain ⟨j, out, hj, rfl, hol, hz, hbox, he, hown, hw, hL, hfar, hne⟩ := hrel
    have hsz := hw.out.size
    by_cases hlt : j < L.length
    · obtain ⟨bL, oL, eL, hbL, y⟩ := hL.out j hlt
      have he2 := he.out
      rw [List.drop_eq_getElem_cons hlt, List.filter_cons] at he2
      have hr := hLr.out L[j] (List.getElem_mem _)
      have hfb := hfar.out bL oL eL
      obtain ⟨kq, hkq⟩ := Int.eq_ofNat_of_zero_le hr.1
      rw [hkq] at y he2
      have hkq9 : kq ≤ 9 := by omega
      subst eL
      replace hkq := Lib.hid hkq
      replace hfb := Lib.hid hfb
      cases hm : mkK made kq with
      | false =>
        rw [hm] at he2
        have he3 : out ++ (L.drop (j + 1)).filter (fun k => mkK made k) = M := by simpa using he2
        replace he3 := Lib.hid he3
        by_cases hk : kq < made.length
        · obtain ⟨bm, om, em, hbm, cmq⟩ := hms.out.at (hb.out.trans (hw.out.mono hB)) (by omega) kq hk
          have hmq : made[kq] = false := by
            unfold mkK at hm
            rw [if_neg (by omega), Int.toNat_natCast, getD_at _ hk] at hm
            exact hm
          rw [hmq] at cmq
          rw [em] at hbox
          subst em
          replace hm := Lib.hid hm
          replace hmq := Lib.hid hmq
          clear he he2
          go_wp2_with fail
          go_region
          go_wp2_with fail
          go_roundw
          case rel => exact ⟨j + 1, out, by omega, by go_num, by omega, hz, hbox, he3, ownsRow.drewH hown, Lib.hid hw.out.drew, hL, hfar, hne⟩
          case measure => simp [intOf]; omega
        · replace hm := Lib.hid hm
          clear he he2
          go_wp2_with fail
          go_region
          go_wp2_with fail
          go_roundw
          case rel => exact ⟨j + 1, out, by omega, by go_num, by omega, hz, hbox, he3, ownsRow.drewH hown, Lib.hid hw.out.drew, hL, hfar, hne⟩
          case measure => simp [intOf]; omega
      | true =>
        rw [hm] at he2
        have he3 : (out ++ [(kq : Int)]) ++ (L.drop (j + 1)).filter (fun k => mkK made k) = M := by simpa using he2
        replace he3 := Lib.hid he3
        have hk : kq < made.length := by have := mkK_range (show mkK made kq ≠ false by rw [hm]; simp); omega
        obtain ⟨bm, om, em, hbm, cmq⟩ := hms.out.at (hb.out.trans (hw.out.mono hB)) (by omega) kq hk
        have hmq : made[kq] = true := by
          unfold mkK at hm
          rw [if_neg (by omega), Int.toNat_natCast, getD_at _ hk] at hm
          exact hm
        rw [hmq] at cmq
        subst em
        replace hm := Lib.hid hm
        replace hmq := Lib.hid hmq
        have hownd := ownsRow.drewH hown
        clear he he2
        go_wp2_with fail
        go_region
        go_wp2_with (at_builtin; go_loud (with_reducible refine wpList_app1 (by rfl) (.tmp 39) (.tmp 44) 27 (by rfl) intTy w.heap.size u5 out.length (ints out) (by with_unfolding_all rfl) ((hown.out.alloc _).drew) wr.heap.size 1 [.int .i64 kq] (by with_unfolding_all rfl) (by with_unfolding_all rfl) ?_ (one_int _ _) ?_ ?_ ?_ ?_))
        · exact ⟨_, _, heap_alloc_new wr _, rfl⟩
        · unfold maxLen; omega
        · omega
        · first | omega | (simp; omega)
        intro g cap w7 hown7 hgrow7 hat7
        have hw7 := (below_al' hw.out (.cells #[.int .i64 kq] 3 (0, 0)) hsz).drew.grown hgrow7 (by simp; omega) (fun i hi => (hown.out.lt i hi).1)
        have hown7' : w7.ownsRow w.heap.size 3 1 (.slice (some ⟨g, 0, none⟩) (out.length + 1) cap) (out ++ [(kq : Int)]).length (ints (out ++ [(kq : Int)])) := by simpa [ints_append, ints] using hown7
        have hk0 : w7.heap[w.heap.size]? = wr.heap[w.heap.size]? := far_grown_drew hgrow7 hz hne.out
        have hkL : w7.heap[bL]? = wr.heap[bL]? := far_grown_drew hgrow7 hbL hfb.out
        have hbox7 := (World.cell?_of_block (w := wr) (a := ⟨w.heap.size, 0, none⟩) hk0).trans hbox
        have hz7 : wr.heap.size < w7.heap.size := by have := hgrow7.size; simp at this; omega
        have hL7 : IntsAt w7.heap.size w7 (some ⟨bL, oL, none⟩) L := fun i hi => by
          obtain ⟨b', o', e', hb', c'⟩ := hL.out i hi
          cases e'
          exact ⟨_, _, rfl, by omega, (World.cell?_of_block (w := wr) hkL).trans c'⟩
        have hg7 : ∀ b : Nat, u5.ownBlock ≠ some b → b < wr.heap.size → (Value.slice (some ⟨g, 0, none⟩) (out.length + 1) cap).ownBlock ≠ some b := fun b h1 h2 e => by
          cases e
          rcases hat7 with e | e
          · exact h1 e
          · first | omega | (dsimp only at h2; omega) | (simp at e; dsimp only at h2; omega)
        have hfar7 : ∀ b oo, (some ⟨bL, oL, none⟩ : Option Addr) = some ⟨b, oo, none⟩ → (Value.slice (some ⟨g, 0, none⟩) (out.length + 1) cap).ownBlock ≠ some b := fun b oo e => by cases e; exact hg7 _ hfb.out hbL
        have hne7 := hg7 _ hne.out hz
        have hz8 : w.heap.size < w7.heap.size := by omega
        replace hw7 := Lib.hid hw7
        replace hown7' := Lib.hid hown7'
        replace hL7 := Lib.hid hL7
        replace hfar7 := Lib.hid hfar7
        replace hne7 := Lib.hid hne7
        clear hown7 hgrow7 hat7 hk0 hkL hg7 hown hownd hL hfar hne hw
        go_wp2_with fail
        go_roundw
        case rel => exact ⟨j + 1, out ++ [(kq : Int)], by omega, by go_num, by simp; omega, hz8, hbox7, he3, hown7', hw7, hL7, hfar7, hne7⟩
        case measure => simp [intOf]; omega
    · have he2 : out = M := by
        have := he.out
        rw [List.drop_eq_nil_of_le (by omega)] at this
        simpa using this
      replace he2 := Lib.hid he2
      clear he
      go_wp2_with fail
      go_ret
      rw [← he2.out]
      exact ⟨_, rfl, hown.out, hw.out⟩
end Go.Proofs.Ytagmdljdcnmpdaa
