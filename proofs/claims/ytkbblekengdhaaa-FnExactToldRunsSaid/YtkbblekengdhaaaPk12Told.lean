import Derived.Test.YtkbblekengdhaaaPk3Told
import Derived.Test.YtkbblekengdhaaaPk5Told
import Derived.Test.YtkbblekengdhaaaPk6Told
import Derived.Test.YtkbblekengdhaaaPk10Told
import Derived.Test.YtkbblekengdhaaaPk11Told
set_option linter.unusedVariables false
set_option linter.unusedSimpArgs false
namespace Go.Proofs.Ytkbblekengdhaaa
open Go Go.RowKit

/-! building by what is told, without a program -/
theorem val_only {xs ys : List Int} : ∀ (m : Itr), (∀ j ∈ m.path xs, atK ys j = atK xs j) → m.val ys = m.val xs := by
  intro m
  induction m with
  | done v => intro _; rfl
  | ask k c ih =>
    intro h
    rw [Itr.path] at h
    rw [Itr.val, Itr.val, h k (List.mem_cons_self ..)]
    exact ih _ fun j hj => h j (List.mem_cons_of_mem _ hj)
theorem val_range {t : Tk} (ht : t.ok) (xs : List Int) (hx : ∀ x ∈ xs, 0 ≤ x ∧ x ≤ 96) : 0 ≤ t.itr.val xs ∧ t.itr.val xs ≤ 96 := by
  have h := Tk.run_value (f := fetF xs) (J := fun _ => True) (fun _ _ _ _ _ => trivial) (fun s k _ _ _ => by
    simp only [fetF]
    unfold atK
    split
    · omega
    · by_cases h1 : k.toNat < xs.length
      · rw [getD_at _ h1]; exact hx _ (List.getElem_mem _)
      · rw [getD_out _ (by omega)]; omega) t ([] : List (Int × Int)) ht trivial
  have e : (t.run (fetF xs) []).1 = (t.itr.val xs, true) := fetched_val t xs
  rw [e] at h
  exact h
def chg (n : Nat) (bef : List Int) (st : List Int × List Int) (j : Int) : Bool := decide (0 ≤ j ∧ j < n) && (st.1.contains j || (atK st.2 j != atK bef j))
def tkAt (made : List Bool) (tks : List Tk) (k : Int) : Tk := (⟨made, tks, []⟩ : Sh).tk k
def toldAt (told : List (List Int)) (k : Int) : List Int := told.getD k.toNat []
def toldStep (made : List Bool) (tks : List Tk) (bef : List Int) (told : List (List Int)) (st : List Int × List Int) (k : Int) : List Int × List Int :=
  if (toldAt told k).any (chg made.length bef st) then (st.1 ++ [k], st.2.set k.toNat ((tkAt made tks k).itr.val st.2)) else st
def toldStart (made : List Bool) (bef inputs : List Int) : List Int := (List.range made.length).map fun q : Nat => if mkK made q then atK bef q else atK inputs q
def toldP (made : List Bool) (tks : List Tk) (bef inputs : List Int) (told : List (List Int)) (order : List Int) : List Int × List Int :=
  order.foldl (toldStep made tks bef told) ([], toldStart made bef inputs)
structure TInv (made : List Bool) (bef inputs : List Int) (done : List Int) (st : List Int × List Int) : Prop where
  len : st.2.length = made.length
  val : ∀ x ∈ st.2, 0 ≤ x ∧ x ≤ 96
  sub : ∀ x ∈ st.1, x ∈ done
  nodup : st.1.Nodup
  unm : ∀ k : Nat, k < made.length → mkK made k = false → atK st.2 k = atK inputs k
  yet : ∀ k : Nat, k < made.length → mkK made k = true → (k : Int) ∉ st.1 → atK st.2 k = atK bef k
  madeOf : ∀ x ∈ done, mkK made x = true
section
variable {made : List Bool} {tks : List Tk} {bef inputs : List Int} {told : List (List Int)} {done : List Int} {st : List Int × List Int}
theorem start_at {k : Nat} (h : k < made.length) : atK (toldStart made bef inputs) (k : Nat) = if mkK made k then atK bef k else atK inputs k := by
  rw [atK_in (by simpa [toldStart] using h)]
  simp [toldStart]
theorem TInv.start (hb : ∀ k, 0 ≤ atK bef k ∧ atK bef k ≤ 96) (hi : ∀ k, 0 ≤ atK inputs k ∧ atK inputs k ≤ 96) : TInv made bef inputs [] ([], toldStart made bef inputs) := by
  refine ⟨by simp [toldStart], fun x hx => ?_, fun x hx => (by cases hx), List.nodup_nil, fun k hk hm => ?_, fun k hk hm _ => ?_, fun x hx => (by cases hx)⟩
  · simp only [toldStart, List.mem_map, List.mem_range] at hx
    obtain ⟨q, hq, rfl⟩ := hx
    split
    · exact hb _
    · exact hi _
  · rw [start_at hk, hm]; simp
  · rw [start_at hk, hm]; simp
theorem TInv.step (h : TInv made bef inputs done st) {k : Int} (hm : mkK made k = true) (hk : k ∉ done) (ht : ∀ q : Nat, q < made.length → (tkAt made tks q).ok) : TInv made bef inputs (done ++ [k]) (toldStep made tks bef told st k) := by
  have hr := mkK_range (show mkK made k ≠ false by rw [hm]; simp)
  obtain ⟨q, rfl⟩ := Int.eq_ofNat_of_zero_le hr.1
  have hmk : ∀ x ∈ done ++ [(q : Int)], mkK made x = true := fun x hx => by
    rcases List.mem_append.1 hx with hx | hx
    · exact h.madeOf x hx
    · rw [List.mem_singleton.1 hx]; exact hm
  have hql : q < made.length := by omega
  unfold toldStep
  split
  · have hv := val_range (ht q hql) st.2 h.val
    refine ⟨by simpa using h.len, fun x hx => ?_, fun x hx => ?_, ?_, fun j hj hjm => ?_, fun j hj hjm hjn => ?_, hmk⟩
    · rcases List.mem_or_eq_of_mem_set hx with hx | rfl
      · exact h.val x hx
      · exact hv
    · rcases List.mem_append.1 hx with hx | hx
      · exact List.mem_append_left _ (h.sub x hx)
      · exact List.mem_append_right _ hx
    · rw [List.nodup_append]
      exact ⟨h.nodup, by simp, fun a ha b hb => by rw [List.mem_singleton.1 hb]; intro e; exact hk (e ▸ h.sub a ha)⟩
    · rw [atK_set ⟨hr.1, by rw [h.len]; exact hr.2⟩, if_neg (by intro e; rw [e, hm] at hjm; cases hjm)]
      exact h.unm j hj hjm
    · have hne : (j : Int) ≠ q := fun e => hjn (by simp [e])
      rw [atK_set ⟨hr.1, by rw [h.len]; exact hr.2⟩, if_neg hne]
      exact h.yet j hj hjm (fun e => hjn (List.mem_append_left _ e))
  · exact ⟨h.len, h.val, fun x hx => List.mem_append_left _ (h.sub x hx), h.nodup, h.unm, h.yet, hmk⟩
theorem TInv.all : ∀ (order : List Int) {done : List Int} {st : List Int × List Int}, TInv made bef inputs done st → (∀ x ∈ order, mkK made x = true) → (done ++ order).Nodup → (∀ q : Nat, q < made.length → (tkAt made tks q).ok) → TInv made bef inputs (done ++ order) (order.foldl (toldStep made tks bef told) st)
  | [], done, st, h, _, _, _ => by simpa using h
  | k :: order, done, st, h, hm, hn, ht => by
    rw [List.foldl_cons, show done ++ k :: order = (done ++ [k]) ++ order by simp]
    refine TInv.all order (h.step (hm k (List.mem_cons_self ..)) (fun hk => ?_) ht) (fun x hx => hm x (List.mem_cons_of_mem _ hx)) (by simpa using hn) ht
    rw [List.nodup_append] at hn
    exact hn.2.2 k hk k (List.mem_cons_self ..) rfl
end
end Go.Proofs.Ytkbblekengdhaaa

set_option linter.unusedVariables false
set_option linter.unusedSimpArgs false
namespace Go.Proofs.Ytkbblekengdhaaa
open Go Go.RowKit

section
variable {made : List Bool} {tks : List Tk} {old inputs bef new : List Int} {told : List (List Int)} {done : List Int} {st : List Int × List Int}
/-- what is told takes in all that may be fetched -/
def Tells (made : List Bool) (tks : List Tk) (told : List (List Int)) : Prop := ∀ q : Nat, q < made.length → mkK made q = true → ∀ j : Int, 0 ≤ j ∧ j ≤ 9 → mayTask (tkAt made tks q).enc j = true → j ∈ toldAt told q
theorem tkAt_tk {made : List Bool} {tks : List Tk} {x : List Int} (k : Int) : tkAt made tks k = (⟨made, tks, x⟩ : Sh).tk k := rfl
theorem atK_ge {xs : List Int} {k : Int} (h : (xs.length : Int) ≤ k) : atK xs k = 0 := by
  unfold atK
  split
  · rfl
  · rw [getD_out _ (by omega)]
structure RInv (made : List Bool) (bef inputs new : List Int) (done : List Int) (st : List Int × List Int) : Prop where
  base : TInv made bef inputs done st
  right : ∀ j : Nat, j < made.length → (mkK made j = false ∨ (j : Int) ∈ done) → atK st.2 j = atK new j
theorem RInv.step (hS0 : Sh.Ok ⟨made, tks, old⟩) (hS1 : Sh.Ok ⟨made, tks, inputs⟩) (h0 : buildAllP ⟨made, tks, old⟩ = (bef, true)) (h1 : buildAllP ⟨made, tks, inputs⟩ = (new, true)) (ht : Tells made tks told)
    (h : RInv made bef inputs new done st) {k : Int} (hm : mkK made k = true) (hk : k ∉ done) (hb : ∀ j ∈ mayS made (tks.map Tk.enc) k, j ∈ done) : RInv made bef inputs new (done ++ [k]) (toldStep made tks bef told st k) := by
  have hr := mkK_range (show mkK made k ≠ false by rw [hm]; simp)
  obtain ⟨q, rfl⟩ := Int.eq_ofNat_of_zero_le hr.1
  have hql : q < made.length := by omega
  have hok : ∀ q : Nat, q < made.length → (tkAt made tks q).ok := fun q hq => by
    have hl := hS1.len
    simp only at hl
    rw [tkAt_tk (x := inputs), tk_at (by simp only; omega)]
    exact hS1.tks _ (List.getElem_mem _)
  have hT := h.base.step (tks := tks) (told := told) hm hk hok
  obtain ⟨l0, -, -, -⟩ := all_law hS0 h0
  obtain ⟨l1, -, -, -⟩ := all_law hS1 h1
  dsimp only at l0 l1
  have hpath : ∀ xs : List Int, ∀ j ∈ (tkAt made tks q).itr.path xs, 0 ≤ j ∧ j ≤ 9 ∧ mayTask (tkAt made tks q).enc j = true ∧ (mkK made j = true → j ∈ done) := fun xs j hj => by
    have hu : j ∈ usesP (tkAt made tks q) xs := (mem_uses _ _ _).2 hj
    have hrng := path_ok xs _ ((tkAt made tks q).itr_ok (hok q hql)) j hj
    exact ⟨hrng.1, hrng.2, uses_may _ _ j hu, fun hmj => hb j (uses_mayS hS1 hql xs (by rw [tkAt_tk (x := inputs)] at hu; exact hu) hmj)⟩
  have hnew : ∀ xs : List Int, ∀ j ∈ (tkAt made tks q).itr.path xs, atK new j = atK st.2 j := fun xs j hj => by
    obtain ⟨p1, p2, p3, p4⟩ := hpath xs j hj
    obtain ⟨i, rfl⟩ := Int.eq_ofNat_of_zero_le p1
    by_cases hi : i < made.length
    · refine (h.right i hi ?_).symm
      cases hmi : mkK made (i : Int) with
      | true => exact .inr (p4 hmi)
      | false => exact .inl rfl
    · rw [atK_ge (by omega), atK_ge (by have := h.base.len; omega)]
  have e1 : (tkAt made tks q).itr.val new = (tkAt made tks q).itr.val st.2 := val_only _ (hnew st.2)
  have e2 : atK new q = (tkAt made tks q).itr.val new := all_made hS1 h1 hm
  refine ⟨hT, fun j hj hj2 => ?_⟩
  by_cases ejk : j = q
  · subst ejk
    unfold toldStep
    split
    · rw [atK_set ⟨hr.1, by rw [h.base.len]; exact hr.2⟩, if_pos rfl, ← e1, ← e2]
    · rename_i hno
      have hno' : ∀ i ∈ toldAt told j, chg made.length bef st i = false := by
        intro i hi
        cases hc : chg made.length bef st i with
        | false => rfl
        | true => exact (hno (List.any_eq_true.2 ⟨i, hi, hc⟩)).elim
      have e3 : (tkAt made tks j).itr.val st.2 = (tkAt made tks j).itr.val bef := val_only _ fun i hi => by
        obtain ⟨p1, p2, p3, p4⟩ := hpath bef i hi
        have hc := hno' i (ht j hql hm i ⟨p1, p2⟩ p3)
        by_cases hil : i < made.length
        · simp only [chg, decide_eq_true (show 0 ≤ i ∧ i < (made.length : Int) from ⟨p1, hil⟩), Bool.true_and, Bool.or_eq_false_iff, bne_eq_false_iff_eq] at hc
          exact hc.2
        · rw [atK_ge (by have := h.base.len; omega), atK_ge (by omega)]
      have e4 : atK bef j = (tkAt made tks j).itr.val bef := all_made hS0 h0 hm
      rw [h.base.yet j hql hm (fun hx => hk (h.base.sub _ hx)), e4, ← e3, ← e1, ← e2]
  · have hjd : mkK made j = false ∨ (j : Int) ∈ done := by
      rcases hj2 with h | h
      · exact .inl h
      · rcases List.mem_append.1 h with h | h
        · exact .inr h
        · rw [List.mem_singleton] at h; omega
    unfold toldStep
    split
    · rw [atK_set ⟨hr.1, by rw [h.base.len]; exact hr.2⟩, if_neg (by omega)]
      exact h.right j hj hjd
    · exact h.right j hj hjd
theorem RInv.all (hS0 : Sh.Ok ⟨made, tks, old⟩) (hS1 : Sh.Ok ⟨made, tks, inputs⟩) (h0 : buildAllP ⟨made, tks, old⟩ = (bef, true)) (h1 : buildAllP ⟨made, tks, inputs⟩ = (new, true)) (ht : Tells made tks told) : ∀ (order : List Int) {done : List Int} {st : List Int × List Int},
    RInv made bef inputs new done st → (∀ x ∈ order, mkK made x = true) → (done ++ order).Nodup → (∀ i (h : i < (done ++ order).length), ∀ j ∈ mayS made (tks.map Tk.enc) (done ++ order)[i], j ∈ (done ++ order).take i) → RInv made bef inputs new (done ++ order) (order.foldl (toldStep made tks bef told) st)
  | [], done, st, h, _, _, _ => by simpa using h
  | k :: order, done, st, h, hm, hn, hb => by
    rw [List.foldl_cons, show done ++ k :: order = (done ++ [k]) ++ order by simp]
    have hbk := hb done.length (by simp)
    rw [List.getElem_append_right (Nat.le_refl _), List.take_left'] at hbk
    · simp only [Nat.sub_self, List.getElem_cons_zero] at hbk
      refine RInv.all hS0 hS1 h0 h1 ht order (h.step hS0 hS1 h0 h1 ht (hm k (List.mem_cons_self ..)) (fun hk => ?_) hbk) (fun x hx => hm x (List.mem_cons_of_mem _ hx)) (by simpa using hn) ?_
      · rw [List.nodup_append] at hn
        exact hn.2.2 k hk k (List.mem_cons_self ..) rfl
      · simpa using hb
    · rfl
theorem told_right (hS0 : Sh.Ok ⟨made, tks, old⟩) (hS1 : Sh.Ok ⟨made, tks, inputs⟩) (h0 : buildAllP ⟨made, tks, old⟩ = (bef, true)) (h1 : buildAllP ⟨made, tks, inputs⟩ = (new, true)) (ht : Tells made tks told) {order : List Int}
    (hm : ∀ x ∈ order, mkK made x = true) (hn : order.Nodup) (hb : ∀ i (h : i < order.length), ∀ j ∈ mayS made (tks.map Tk.enc) order[i], j ∈ order.take i) (hall : ∀ k : Nat, k < made.length → mkK made k = true → (k : Int) ∈ order) :
    (toldP made tks bef inputs told order).2 = new := by
  obtain ⟨l0, v0, -, -⟩ := all_law hS0 h0
  obtain ⟨l1, v1, -, -⟩ := all_law hS1 h1
  dsimp only at l0 l1
  have hat : ∀ (xs : List Int), (∀ x ∈ xs, 0 ≤ x ∧ x ≤ 96) → ∀ k, 0 ≤ atK xs k ∧ atK xs k ≤ 96 := fun xs hx k => by
    unfold atK
    split
    · omega
    · by_cases h1 : k.toNat < xs.length
      · rw [getD_at _ h1]; exact hx _ (List.getElem_mem _)
      · rw [getD_out _ (by omega)]; omega
  have hst : RInv made bef inputs new [] ([], toldStart made bef inputs) := ⟨TInv.start (hat _ v0) (fun k => atK_value hS1 k), fun j hj h => by
    rcases h with h | h
    · rw [start_at hj, h, all_unmade hS1 h1 h]; simp
    · cases h⟩
  have hR := RInv.all hS0 hS1 h0 h1 ht order hst hm (by simpa using hn) (by simpa using hb)
  rw [List.nil_append] at hR
  have hlen := hR.base.len
  apply List.ext_getElem
  · show (toldP made tks bef inputs told order).2.length = new.length
    unfold toldP; omega
  · intro i h2 h3
    have hi : i < made.length := by omega
    have := hR.right i hi (by
      cases hmi : mkK made (i : Int) with
      | true => exact .inr (hall i hi hmi)
      | false => exact .inl rfl)
    rw [atK_in (by omega), atK_in h3] at this
    exact this
end
end Go.Proofs.Ytkbblekengdhaaa

set_option linter.unusedVariables false
set_option linter.unusedSimpArgs false
namespace Go.Proofs.Ytkbblekengdhaaa
open Go Go.RowKit

abbrev vB : Bool → Value := fun b => Value.bool b
theorem keysN_set {n k : Nat} (d : Int → Bool) (v : Bool) : ((keysN n).map d).set k v = (keysN n).map (fun i => if i = (k : Int) then v else d i) := by
  apply List.ext_getElem
  · simp
  · intro i h1 h2
    simp only [List.length_set, List.length_map] at h1
    rw [List.getElem_set, List.getElem_map, List.getElem_map, keysN_get (by simpa using h1)]
    by_cases e : k = i
    · subst e; simp
    · rw [if_neg e, if_neg (by omega)]
theorem keysN_rep (n : Nat) : List.replicate n false = (keysN n).map (fun _ => false) := by
  apply List.ext_getElem
  · simp [keysN]
  · intro i h1 h2
    simp

set_option maxRecDepth 5000 in
set_option maxHeartbeats 8000000 in
theorem specSheetSafe_calls (Am At : Option Addr) (cm ct : Nat) (made : List Bool) (tasks : List Task) (B : Nat) (w0 w : World) (hb : Below B w0 w) (hB : B ≤ w.heap.size) (hs : SheetAt B w0 Am cm At ct made tasks) (hnod : ∀ T ∈ tasks, nodes T ≤ 1000000000) :
    Calls Try.prog 84 #[.agg #[.slice Am made.length cm, .slice At tasks.length ct]] w fun e w' => e = .returned (.bool (safeP made tasks)) ∧ Below w.heap.size w w' := by
  have hc1 := fun w1 (hw : Below w.heap.size w w1) => specSheetOk_calls Am At cm ct made tasks B w0 w1 (below_up' hb hB hw) (Nat.le_trans hB hw.size) hs hnod
  have hc2 := fun w1 (hw : Below w.heap.size w w1) (q : Nat) (hq : q < tasks.length) (hq9 : q ≤ 9) (h10 : made.length ≤ 10) => l3May_calls Am At cm ct made tasks B w0 w1 (below_up' hb hB hw) (Nat.le_trans hB hw.size) hs q hq hq9 h10 (hnod _ (List.getElem_mem hq))
  have hsf : safeP made tasks = (sheetOk made tasks && safeB (mayS made tasks) made.length) := rfl
  cases hok : sheetOk made tasks with
  | false =>
    rw [hok] at hc1 hsf
    replace hc1 := Lib.hid hc1
    replace hsf := Lib.hid hsf
    clear hc2 hok hs hnod hb
    go_enter Try.func84, Try.ntmps84
    go_wp2_with fail
    refine (hc1.out _ (below_al (Below.refl _ _) _)).mono ?_
    rintro e w1 ⟨rfl, h1⟩
    go_wp2_with fail
    go_ret
    exact ⟨by rw [hsf.out]; rfl, below_from h1⟩
  | true =>
    rw [hok, Bool.true_and] at hsf
    rw [hok] at hc1
    simp only [sheetOk, Bool.and_eq_true, decide_eq_true_eq] at hok
    have hlen := hok.1.1
    have hten := hok.1.2
    have hmay : ∀ (q : Nat) (hq : q < tasks.length), mayMade made tasks[q] = mayS made tasks q := fun q hq => by unfold mayS; rw [taskAt_get hq]
    have hmr : ∀ (k : Int), ∀ j ∈ mayS made tasks k, 0 ≤ j ∧ j < made.length := fun k j hj => (mayS_made j hj).2
    have hml : ∀ k : Int, (mayS made tasks k).length ≤ 10 := fun k => Nat.le_trans (List.length_filter_le _ _) (mayList_len _)
    generalize mayS made tasks = may at *
    replace hc1 := Lib.hid hc1
    replace hc2 := Lib.hid hc2
    replace hsf := Lib.hid hsf
    replace hmay := Lib.hid hmay
    replace hmr := Lib.hid hmr
    replace hml := Lib.hid hml
    replace hlen := Lib.hid hlen
    clear hok hs hnod hb
    obtain ⟨ii, hi1, hi2, hi3, hi4⟩ := info_parts boolTy'.hi
    replace hi1 := Lib.hid hi1
    replace hi2 := Lib.hid hi2
    replace hi3 := Lib.hid hi3
    replace hi4 := Lib.hid hi4
    go_enter Try.func84, Try.ntmps84
    go_wp2_with fail
    refine (hc1.out _ (below_al (Below.refl _ _) _)).mono ?_
    rintro e w1 ⟨rfl, h1⟩
    have x0 : w1.cell? ⟨w.heap.size, 0, none⟩ = some (.slice Am made.length cm) := (h1.cell (p := ⟨w.heap.size, 0, none⟩) (by simp)).trans (by simp)
    have x1 : w1.cell? ⟨w.heap.size, 1, none⟩ = some (.slice At tasks.length ct) := (h1.cell (p := ⟨w.heap.size, 1, none⟩) (by simp)).trans (by simp)
    have b1 : Below w.heap.size w w1 := below_from h1
    have s1 : w.heap.size < w1.heap.size := by have := h1.size; simp at this; omega
    replace b1 := Lib.hid b1
    clear h1 hc1
    go_wp2_with (at_make; go_loud (with_reducible refine wpList_make_full _ (by rfl) _ _ 23 (by rfl) w.heap.size 4 ii (.bool false) 1 Try.underlying23 hi1.out hi2.out hi3.out .i64 .i64 made.length made.length made.length (by with_unfolding_all rfl) (by with_unfolding_all rfl) rfl rfl ?_ ?_ ?_ ?_))
    · rw [hi4.out]; omega
    · simp [maxLen]; omega
    · omega
    intro w2 hmk hgrow
    have hR : RowBlk vB 4 w2 w1.heap.size ((keysN made.length).map (fun _ => false)) := by
      rw [← keysN_rep]; exact made_row (z := false) (by simpa using hmk) rfl
    have hb12 : Below w1.heap.size w1 w2 := ⟨hgrow.os, hgrow.tape, hgrow.output, hgrow.size, fun k hk => hgrow.block k hk (by simp)⟩
    have b2 : Below w.heap.size w w2 := b1.out.trans (hb12.mono b1.out.size)
    have y0 := kept_cell hb12 (by omega) x0
    have y1 := kept_cell hb12 (by omega) x1
    obtain ⟨bd, hbd⟩ : ∃ bd, bd = w1.heap.size := ⟨_, rfl⟩
    rw [← hbd] at hR s1 ⊢
    replace b2 := Lib.hid b2
    replace hR := Lib.hid hR
    clear hb12 hgrow hmk x0 x1 hi1 hi2 hi3 hi4 b1 hbd
    go_wp2_with fail
    go_loopw [4, 5, 6, 7, 8] (fun i _ _ _ _ wr => ∃ (a : Nat) (d : Int → Bool), a ≤ made.length + 1 ∧ i = .int .i64 a ∧ wr.cell? ⟨w.heap.size, 0, none⟩ = some (.slice Am made.length cm) ∧ wr.cell? ⟨w.heap.size, 1, none⟩ = some (.slice At tasks.length ct) ∧ Hid (RowBlk vB 4 wr bd ((keysN made.length).map d)) ∧ Hid (Below w.heap.size w wr) ∧ Hid (passN may made.length (made.length + 1 - a) d = passN may made.length (made.length + 1) (fun _ => false))) (fun i _ _ _ _ _ => made.length + 1 - (intOf i).toNat)
    case atStart => exact ⟨0, fun _ => false, by omega, rfl, y0, y1, hR, b2, Lib.hid rfl⟩
    case round =>
      obtain ⟨a, d, ha, rfl, y0, y1, hR, hw, hp⟩ := hrel
      by_cases hlt : a ≤ made.length
      · have hp2 := hp.out
        rw [show made.length + 1 - a = (made.length + 1 - (a + 1)) + 1 by omega, passN] at hp2
        replace hp2 := Lib.hid hp2
        clear hp
        go_wp2_with fail
        obtain ⟨w9, hw9⟩ : ∃ w9, w9 = wr := ⟨_, rfl⟩
        subst hw9
        go_loopw [5, 6, 7, 8] (fun i _ _ _ wr => ∃ (q : Nat) (d' : Int → Bool), q ≤ made.length ∧ i = .int .i64 q ∧ wr.cell? ⟨w.heap.size, 0, none⟩ = some (.slice Am made.length cm) ∧ wr.cell? ⟨w.heap.size, 1, none⟩ = some (.slice At tasks.length ct) ∧ Hid (RowBlk vB 4 wr bd ((keysN made.length).map d')) ∧ Hid (Below w.heap.size w wr) ∧ Hid (passKs may ((keysN made.length).drop q) d' = passKs may (keysN made.length) d)) (fun i _ _ _ _ => made.length - (intOf i).toNat)
        case atStart => exact ⟨0, d, by omega, rfl, y0, y1, hR, hw, Lib.hid rfl⟩
        case round =>
          obtain ⟨q, d', hq, rfl, y0, y1, hR, hw, hp⟩ := hrel
          by_cases hlt2 : q < made.length
          · have hqt : q < tasks.length := by have := hlen.out; omega
            have hp3 := hp.out
            rw [keysN_drop hlt2, passKs] at hp3
            have hcall := hc2.out wr hw.out q hqt (by omega) hten
            rw [hmay.out q hqt] at hcall
            have hmr' := hmr.out q
            have hml' := hml.out q
            generalize may q = L at *
            replace hp3 := Lib.hid hp3
            replace hcall := Lib.hid hcall
            replace hmr' := Lib.hid hmr'
            clear hp
            go_wp2_with fail
            refine hcall.out.mono ?_
            rintro e w3 ⟨v, rfl, hownL, h3⟩
            obtain ⟨AL, cL, rfl, hl1, hl2, hl3⟩ := ownsRow_ints hownL
            have hbz := hR.out.lt
            have y0' := kept_cell h3 (by have := hw.out.size; omega) y0
            have y1' := kept_cell h3 (by have := hw.out.size; omega) y1
            have hR3 : RowBlk vB 4 w3 bd ((keysN made.length).map d') := hR.out.turn (h3.block _ hbz)
            have b3 : Below w.heap.size w w3 := below_up hw.out h3
            replace hR3 := Lib.hid hR3
            replace b3 := Lib.hid b3
            replace hl3 := Lib.hid hl3
            clear h3 hownL y0 y1 hR hw hcall
            unfold maxLen at hl2
            go_wp2_with fail
            go_loopw [6, 8] (fun f i wr => ∃ (j : Nat) (fr : Bool), j ≤ L.length ∧ i = .int .i64 j ∧ f = .bool fr ∧ wr = w3 ∧ Hid (fr = (L.take j).all d')) (fun _ i _ => L.length - (intOf i).toNat)
            case atStart => exact ⟨0, true, by omega, rfl, rfl, rfl, Lib.hid rfl⟩
            case round =>
              obtain ⟨j, fr, hj, rfl, rfl, rfl, hfr⟩ := hrel
              by_cases hlt3 : j < L.length
              · obtain ⟨bL, oL, eL, hbL, y⟩ := hl3.out j hlt3
                subst eL
                obtain ⟨r0, r1⟩ := hmr'.out L[j] (List.getElem_mem _)
                obtain ⟨kq, hkq⟩ := Int.eq_ofNat_of_zero_le r0
                have hkl : kq < made.length := by omega
                have z := hR3.out.cell (i := kq) (by simpa [keysN] using hkl)
                simp only [List.getElem_map, keysN_get] at z
                have htk : (L.take (j + 1)).all d' = (fr && d' kq) := by
                  rw [hfr.out, List.take_succ_eq_append_getElem hlt3, List.all_append, hkq]; simp
                rw [hkq] at y
                obtain ⟨dv, hdv⟩ : ∃ dv, d' kq = dv := ⟨_, rfl⟩
                rw [hdv] at z htk
                replace htk := Lib.hid htk
                replace hkq := Lib.hid hkq
                replace hdv := Lib.hid hdv
                have hb9 : kq ≤ 10 := by omega
                clear r0 r1
                cases fr with
                | false =>
                  go_wp2_with fail
                  go_roundw
                  case rel => exact ⟨j + 1, false, by omega, by go_num, by first | rfl | trivial, by first | rfl | trivial, Lib.hid (by rw [htk.out]; rfl)⟩
                  case measure => simp [intOf]; omega
                | true =>
                  go_wp2_with fail
                  go_roundw
                  case rel => exact ⟨j + 1, dv, by omega, by go_num, by first | rfl | trivial, by first | rfl | trivial, Lib.hid (by rw [htk.out]; rfl)⟩
                  case measure => simp [intOf]; omega
              · have hfr2 : L.all d' = fr := by rw [hfr.out, List.take_of_length_le (by omega)]
                rw [hfr2] at hp3
                have hz3 := hR3.out.lt
                have f0 := hR3.out.frozen q
                have z := hR3.out.cell (i := q) (by simpa [keysN] using hlt2)
                have hset := hR3.out.set q fr
                rw [keysN_set] at hset
                have hbs : Below w.heap.size w (wr.setCell ⟨bd, q, none⟩ (.bool fr)) := b3.out.setCell (by simp; omega) _
                have q0 : (wr.setCell ⟨bd, q, none⟩ (.bool fr)).cell? ⟨w.heap.size, 0, none⟩ = some (.slice Am made.length cm) := (World.cell?_of_block (setCell_far (show w.heap.size ≠ bd by omega))).trans y0'
                have q1 : (wr.setCell ⟨bd, q, none⟩ (.bool fr)).cell? ⟨w.heap.size, 1, none⟩ = some (.slice At tasks.length ct) := (World.cell?_of_block (setCell_far (show w.heap.size ≠ bd by omega))).trans y1'
                replace hset := Lib.hid hset
                replace hbs := Lib.hid hbs
                replace q0 := Lib.hid q0
                replace q1 := Lib.hid q1
                replace hfr2 := Lib.hid hfr2
                clear hfr
                go_wp2_with fail
                go_roundw
                case rel => exact ⟨q + 1, _, by omega, by go_num, q0.out, q1.out, hset, hbs, hp3⟩
                case measure => simp [intOf]; omega
          · have hd : (keysN made.length).drop q = [] := List.drop_eq_nil_of_le (by simp [keysN]; omega)
            have hp3 := hp.out
            rw [hd, passKs] at hp3
            have hp4 := hp2.out
            rw [← hp3] at hp4
            replace hp4 := Lib.hid hp4
            clear hp hp3 hd
            go_wp2_with fail
            go_roundw
            case rel => exact ⟨a + 1, d', by omega, by go_num, y0, y1, hR, hw, hp4⟩
            case measure => simp [intOf]; omega
      · have ha2 : a = made.length + 1 := by omega
        subst ha2
        have hp2 := hp.out
        rw [Nat.sub_self, passN] at hp2
        have hsf2 : safeP made tasks = (keysN made.length).all d := by rw [hsf.out, safeB, ← hp2]
        replace hsf2 := Lib.hid hsf2
        clear hp hp2 hsf
        go_wp2_with fail
        obtain ⟨w9, hw9⟩ : ∃ w9, w9 = wr := ⟨_, rfl⟩
        subst hw9
        go_loopw [9] (fun i wr => ∃ (q : Nat), q ≤ made.length ∧ i = .int .i64 q ∧ wr = w9 ∧ Hid (∀ k : Nat, k < q → d k = true)) (fun i _ => made.length - (intOf i).toNat)
        case atStart => exact ⟨0, by omega, rfl, rfl, Lib.hid (fun k hk => by omega)⟩
        case round =>
          obtain ⟨q, hq, rfl, rfl, hall⟩ := hrel
          by_cases hlt2 : q < made.length
          · have z := hR.out.cell (i := q) (by simpa [keysN] using hlt2)
            simp only [List.getElem_map, keysN_get] at z
            have hz3 := hR.out.lt
            cases hdq : d q with
            | false =>
              rw [hdq] at z
              have hfin : safeP made tasks = false := by
                rw [hsf2.out]
                apply Bool.eq_false_iff.2
                intro h
                have := (List.all_eq_true.1 h) q (mem_keysN.2 (by omega))
                rw [hdq] at this; cases this
              replace hfin := Lib.hid hfin
              replace hdq := Lib.hid hdq
              go_wp2_with fail
              go_ret
              exact ⟨by rw [hfin.out]; rfl, hw.out⟩
            | true =>
              rw [hdq] at z
              replace hdq := Lib.hid hdq
              go_wp2_with fail
              go_roundw
              case rel => exact ⟨q + 1, by omega, by go_num, by first | rfl | trivial, Lib.hid (fun k hk => if e : k = q then by subst e; exact hdq.out else hall.out k (by omega))⟩
              case measure => simp [intOf]; omega
          · have hfin : safeP made tasks = true := by
              rw [hsf2.out, List.all_eq_true]
              intro k hk
              obtain ⟨h0, h1⟩ := mem_keysN.1 hk
              obtain ⟨k', rfl⟩ := Int.eq_ofNat_of_zero_le h0
              exact hall.out k' (by omega)
            replace hfin := Lib.hid hfin
            go_wp2_with fail
            go_ret
            exact ⟨by rw [hfin.out]; rfl, hw.out⟩
end Go.Proofs.Ytkbblekengdhaaa

set_option linter.unusedVariables false
set_option linter.unusedSimpArgs false
namespace Go.Proofs.Ytkbblekengdhaaa
open Go Go.RowKit

/-! an object in a block of its own, and what it owns: rows, maps, in blocks apart -/
structure Part where
  F : Nat → Prop
  P : World → Prop
structure Part.Ok (B : Nat) (p : Part) (w : World) : Prop where
  hold : p.P w
  bnd : ∀ i, p.F i → B ≤ i ∧ i < w.heap.size
  stab : ∀ w1 w2 : World, (∀ i, p.F i → w2.heap[i]? = w1.heap[i]?) → p.P w1 → p.P w2
def Foot (m : Nat) (ps : List Part) (i : Nat) : Prop := i = m ∨ ∃ p ∈ ps, p.F i
structure ObjAt (B : Nat) (w0 : World) (m : Nat) (T : TypeId) (cs : Array Value) (ps : List Part) (w : World) : Prop where
  blk : w.heap[m]? = some (.cells cs T (0, 0))
  ok : ∀ p ∈ ps, p.Ok B w
  ne : ∀ i j (hi : i < ps.length) (hj : j < ps.length), i ≠ j → ∀ b, ps[i].F b → ¬ ps[j].F b
  far : ∀ p ∈ ps, ¬ p.F m
  hm : B ≤ m
  below : Below B w0 w
  size : B ≤ w.heap.size
section
variable {B : Nat} {w0 : World} {m : Nat} {T : TypeId} {cs : Array Value} {ps : List Part} {w w' : World}
theorem ObjAt.bounds (h : ObjAt B w0 m T cs ps w) : ∀ i, Foot m ps i → B ≤ i ∧ i < w.heap.size := by
  intro i hi
  rcases hi with rfl | ⟨p, hp, hf⟩
  · exact ⟨h.hm, block_lt h.blk⟩
  · exact (h.ok p hp).bnd i hf
theorem Part.Ok.kept {p : Part} (h : p.Ok B w) (hk : ∀ i, p.F i → w'.heap[i]? = w.heap[i]?) (hs : w.heap.size ≤ w'.heap.size) : p.Ok B w' :=
  ⟨h.stab w w' hk h.hold, fun i hi => ⟨(h.bnd i hi).1, Nat.lt_of_lt_of_le (h.bnd i hi).2 hs⟩, h.stab⟩
theorem ObjAt.kept (h : ObjAt B w0 m T cs ps w) (hk : ∀ i, Foot m ps i → w'.heap[i]? = w.heap[i]?) (hb : Below B w0 w') (hs : w.heap.size ≤ w'.heap.size) : ObjAt B w0 m T cs ps w' :=
  ⟨(hk m (.inl rfl)).trans h.blk, fun p hp => (h.ok p hp).kept (fun i hi => hk i (.inr ⟨p, hp, hi⟩)) hs, h.ne, h.far, h.hm, hb, Nat.le_trans h.size hs⟩
theorem ObjAt.up (h : ObjAt B w0 m T cs ps w) (hb : Below w.heap.size w w') : ObjAt B w0 m T cs ps w' :=
  h.kept (fun i hi => hb.block i (h.bounds i hi).2) (below_up' h.below h.size hb) hb.size
theorem ObjAt.alloc (h : ObjAt B w0 m T cs ps w) (o : Obj) : ObjAt B w0 m T cs ps (w.alloc o) := h.up (below_al (Below.refl _ _) o)
theorem ObjAt.drew (h : ObjAt B w0 m T cs ps w) : ObjAt B w0 m T cs ps w.drew := h.up (Below.refl _ _).drew
/-- what else turned is apart from it -/
theorem ObjAt.aside (h : ObjAt B w0 m T cs ps w) {F F' : Nat → Prop} (t : Turn F F' w w') (hF : ∀ i, F i → B ≤ i ∧ ¬ Foot m ps i) : ObjAt B w0 m T cs ps w' :=
  h.kept (fun i hi => t.block i (h.bounds i hi).2 (fun hf => (hF i hf).2 hi)) (h.below.trans (t.below h.size (fun i hi => (hF i hi).1))) t.size
/-- a part turns into another one -/
theorem ObjAt.turn (h : ObjAt B w0 m T cs ps w) (i : Nat) (hi : i < ps.length) (p' : Part) (hp' : p'.P w') (hst : ∀ w1 w2 : World, (∀ i, p'.F i → w2.heap[i]? = w1.heap[i]?) → p'.P w1 → p'.P w2) (hlt : ∀ i, p'.F i → i < w'.heap.size) (t : Turn ps[i].F p'.F w w') :
    ObjAt B w0 m T cs (ps.set i p') w' ∧ Turn (Foot m ps) (Foot m (ps.set i p')) w w' := by
  have hin := List.getElem_mem hi
  have hfar : ∀ b, b < w.heap.size → ¬ ps[i].F b → w'.heap[b]? = w.heap[b]? := fun b hb hn => t.block b hb hn
  have hfr : ∀ b, p'.F b → ps[i].F b ∨ w.heap.size ≤ b := t.fresh
  refine ⟨⟨(hfar m (block_lt h.blk) (h.far _ hin)).trans h.blk, fun p hp => ?_, fun a b ha hb hab q hq => ?_, fun p hp => ?_, h.hm, h.below.trans (t.below h.size (fun b hb => ((h.ok _ hin).bnd b hb).1)), Nat.le_trans h.size t.size⟩, ?_⟩
  · obtain ⟨j, hj, rfl⟩ := List.getElem_of_mem hp
    simp only [List.length_set] at hj
    rw [List.getElem_set]
    by_cases e : i = j
    · rw [if_pos e]
      exact ⟨hp', fun b hb => ⟨(hfr b hb).elim (fun hf => ((h.ok _ hin).bnd b hf).1) (fun hge => Nat.le_trans h.size hge), hlt b hb⟩, hst⟩
    · rw [if_neg e]
      have hok := h.ok _ (List.getElem_mem hj)
      exact hok.kept (fun b hb => hfar b (hok.bnd b hb).2 (h.ne j i hj hi (fun e' => e e'.symm) b hb)) t.size
  · simp only [List.length_set] at ha hb
    rw [List.getElem_set] at hq ⊢
    by_cases ea : i = a
    · rw [if_pos ea] at hq
      by_cases eb : i = b
      · exact (hab (ea.symm.trans eb)).elim
      · rw [if_neg eb]
        rcases hfr q hq with hf | hge
        · exact h.ne i b hi hb eb q hf
        · intro hf2
          have := ((h.ok _ (List.getElem_mem hb)).bnd q hf2).2
          omega
    · rw [if_neg ea] at hq
      by_cases eb : i = b
      · rw [if_pos eb]
        intro hf2
        rcases hfr q hf2 with hf | hge
        · exact h.ne a i ha hi (fun e => ea e.symm) q hq hf
        · have := ((h.ok _ (List.getElem_mem ha)).bnd q hq).2
          omega
      · rw [if_neg eb]; exact h.ne a b ha hb hab q hq
  · obtain ⟨j, hj, rfl⟩ := List.getElem_of_mem hp
    simp only [List.length_set] at hj
    rw [List.getElem_set]
    by_cases e : i = j
    · rw [if_pos e]
      intro hf
      rcases hfr m hf with hf | hge
      · exact h.far _ hin hf
      · have := block_lt h.blk; omega
    · rw [if_neg e]; exact h.far _ (List.getElem_mem hj)
  · refine ⟨t.os, t.tape, t.output, t.size, fun b hb hn => hfar b hb (fun hf => hn (.inr ⟨_, hin, hf⟩)), fun b hb => ?_⟩
    rcases hb with rfl | ⟨p, hp, hf⟩
    · exact .inl (.inl rfl)
    · obtain ⟨j, hj, rfl⟩ := List.getElem_of_mem hp
      simp only [List.length_set] at hj
      rw [List.getElem_set] at hf
      by_cases e : i = j
      · rw [if_pos e] at hf
        exact (hfr b hf).imp (fun hf => .inr ⟨_, hin, hf⟩) id
      · rw [if_neg e] at hf
        exact .inl (.inr ⟨_, List.getElem_mem hj, hf⟩)
/-- a field is stored -/
theorem ObjAt.store (h : ObjAt B w0 m T cs ps w) (j : Nat) (v : Value) : ObjAt B w0 m T (cs.setIfInBounds j v) ps (w.setCell ⟨m, j, none⟩ v) ∧ Turn (Foot m ps) (Foot m ps) w (w.setCell ⟨m, j, none⟩ v) := by
  have t := setCell_turn (F := Foot m ps) (w := w) (a := ⟨m, j, none⟩) (.inl rfl) v
  exact ⟨⟨setCell_block h.blk j v, fun p hp => (h.ok p hp).kept (fun i hi => setCell_far (fun e => h.far p hp (e ▸ hi))) t.size, h.ne, h.far, h.hm, h.below.trans (t.below h.size (fun i hi => (h.bounds i hi).1)), Nat.le_trans h.size t.size⟩, t⟩
theorem ObjAt.cell (h : ObjAt B w0 m T cs ps w) (j : Nat) : w.cell? ⟨m, j, none⟩ = cs[j]? := cellm h.blk j
theorem ObjAt.frozen (h : ObjAt B w0 m T cs ps w) (j : Nat) : w.frozen? ⟨m, j, none⟩ = false := frozenm h.blk j
theorem ObjAt.lt (h : ObjAt B w0 m T cs ps w) : m < w.heap.size := block_lt h.blk
end

/-! rows and maps as parts -/
def rowP (B : Nat) (e : TypeId) (size : Nat) (v : Value) (n : Nat) (xs : List Value) : Part := ⟨fun i => v.ownBlock = some i, fun w => w.ownsRow B e size v n xs⟩
theorem rowP_stab {B : Nat} {e : TypeId} {size : Nat} {v : Value} {n : Nat} {xs : List Value} : ∀ w1 w2 : World, (∀ i, (rowP B e size v n xs).F i → w2.heap[i]? = w1.heap[i]?) → (rowP B e size v n xs).P w1 → (rowP B e size v n xs).P w2 := fun w1 w2 hk h => ownsRow_block h hk
theorem rowP_ok {B : Nat} {e : TypeId} {size : Nat} {v : Value} {n : Nat} {xs : List Value} {w : World} (h : w.ownsRow B e size v n xs) : (rowP B e size v n xs).Ok B w := ⟨h, fun i hi => h.lt i hi, rowP_stab⟩
def mapP (P : Program) (tk : TypeId) (b : Nat) (f : Int → Option Value) (c : Nat) : Part := ⟨(· = b), fun w => VMap P tk w b f c⟩
theorem mapP_stab {P : Program} {tk : TypeId} {b : Nat} {f : Int → Option Value} {c : Nat} : ∀ w1 w2 : World, (∀ i, (mapP P tk b f c).F i → w2.heap[i]? = w1.heap[i]?) → (mapP P tk b f c).P w1 → (mapP P tk b f c).P w2 := fun w1 w2 hk h => VMap.block h (hk b rfl)
theorem mapP_ok {P : Program} {tk : TypeId} {B b : Nat} {f : Int → Option Value} {c : Nat} {w : World} (h : VMap P tk w b f c) (hb : B ≤ b) : (mapP P tk b f c).Ok B w := ⟨h, fun i hi => by cases hi; exact ⟨hb, h.lt⟩, mapP_stab⟩
section
variable {B : Nat} {w0 : World} {m : Nat} {T : TypeId} {cs : Array Value} {ps : List Part} {w w' : World}
theorem ObjAt.row (h : ObjAt B w0 m T cs ps w) (i : Nat) {e : TypeId} {size : Nat} {v : Value} {n : Nat} {xs : List Value} (hi : ps[i]? = some (rowP B e size v n xs)) : w.ownsRow B e size v n xs := by
  have := (h.ok _ (List.mem_of_getElem? hi)).hold
  exact this
theorem ObjAt.map (h : ObjAt B w0 m T cs ps w) (i : Nat) {P : Program} {tk : TypeId} {b : Nat} {f : Int → Option Value} {c : Nat} (hi : ps[i]? = some (mapP P tk b f c)) : VMap P tk w b f c := by
  have := (h.ok _ (List.mem_of_getElem? hi)).hold
  exact this
/-- a row has grown, and is stored in its field -/
theorem ObjAt.set_row (h : ObjAt B w0 m T cs ps w) (i j : Nat) {e : TypeId} {size : Nat} {v : Value} {n : Nat} {xs : List Value} (hi : ps[i]? = some (rowP B e size v n xs)) {v' : Value} {n' : Nat} {xs' : List Value} (hg : w.grownBy w' v.ownBlock) (ho : w'.ownsRow B e size v' n' xs') (hv : ∀ b, v'.ownBlock = some b → v.ownBlock = some b ∨ w.heap.size ≤ b) :
    ObjAt B w0 m T (cs.setIfInBounds j v') (ps.set i (rowP B e size v' n' xs')) (w'.setCell ⟨m, j, none⟩ v') ∧ Turn (Foot m ps) (Foot m (ps.set i (rowP B e size v' n' xs'))) w (w'.setCell ⟨m, j, none⟩ v') := by
  obtain ⟨hlt, hge⟩ := List.getElem?_eq_some_iff.1 hi
  have t : Turn ps[i].F (rowP B e size v' n' xs').F w w' := by
    rw [hge]
    exact ⟨hg.os, hg.tape, hg.output, hg.size, fun b hb hn => hg.block b hb (fun e => hn e.symm), hv⟩
  obtain ⟨h1, t1⟩ := h.turn i hlt (rowP B e size v' n' xs') ho rowP_stab (fun b hb => (ho.lt b hb).2) t
  obtain ⟨h2, t2⟩ := h1.store j v'
  exact ⟨h2, t1.trans t2⟩
/-- an element of a row is stored in its place -/
theorem ObjAt.put_row (h : ObjAt B w0 m T cs ps w) (i q : Nat) {e : TypeId} {g cap n : Nat} {xs : List Value} (hi : ps[i]? = some (rowP B e 1 (.slice (some ⟨g, 0, none⟩) n cap) n xs)) (x : Value) (hq : q < n) :
    ObjAt B w0 m T cs (ps.set i (rowP B e 1 (.slice (some ⟨g, 0, none⟩) n cap) n (xs.set q x))) (w.setCell ⟨g, q, none⟩ x) ∧ Turn (Foot m ps) (Foot m (ps.set i (rowP B e 1 (.slice (some ⟨g, 0, none⟩) n cap) n (xs.set q x)))) w (w.setCell ⟨g, q, none⟩ x) := by
  obtain ⟨hlt, hge⟩ := List.getElem?_eq_some_iff.1 hi
  have ho := ownsRow_set (h.row i hi) q x hq
  refine h.turn i hlt _ ho rowP_stab (fun b hb => (ho.lt b hb).2) ?_
  rw [hge]
  exact setCell_turn (F := (rowP B e 1 (.slice (some ⟨g, 0, none⟩) n cap) n xs).F) (a := ⟨g, q, none⟩) rfl x
/-- a map has a key more -/
theorem ObjAt.put_map (h : ObjAt B w0 m T cs ps w) (i : Nat) {P : Program} {tk : TypeId} {b : Nat} {f f' : Int → Option Value} {c c' : Nat} (hi : ps[i]? = some (mapP P tk b f c)) (hM : VMap P tk w' b f' c') (hg : w.grownBy w' (some b)) :
    ObjAt B w0 m T cs (ps.set i (mapP P tk b f' c')) w' ∧ Turn (Foot m ps) (Foot m (ps.set i (mapP P tk b f' c'))) w w' := by
  obtain ⟨hlt, hge⟩ := List.getElem?_eq_some_iff.1 hi
  refine h.turn i hlt _ hM mapP_stab (fun q hq => by cases hq; exact hM.lt) ?_
  rw [hge]
  exact ⟨hg.os, hg.tape, hg.output, hg.size, fun q hq hn => hg.block q hq (fun e => hn (by cases e; rfl)), fun q hq => .inl hq⟩
end
end Go.Proofs.Ytkbblekengdhaaa

set_option linter.unusedVariables false
set_option linter.unusedSimpArgs false
namespace Go.Proofs.Ytkbblekengdhaaa
open Go Go.RowKit

/-- the last one is taken off a row -/
theorem ObjAt.pop_row {B : Nat} {w0 : World} {m : Nat} {T : TypeId} {cs : Array Value} {ps : List Part} {w : World} (h : ObjAt B w0 m T cs ps w) (i j : Nat) {e : TypeId} {v : Value} {u : List Int} {k : Int} (hi : ps[i]? = some (rowP B e 1 v (u ++ [k]).length (ints (u ++ [k])))) :
    ∃ g co, v = .slice (some ⟨g, 0, none⟩) (u.length + 1) co ∧ u.length + 1 ≤ co ∧ co ≤ maxLen ∧ g < w.heap.size ∧ B ≤ g ∧
      ObjAt B w0 m T (cs.setIfInBounds j (.slice (some ⟨g, 0, none⟩) u.length co)) (ps.set i (rowP B e 1 (.slice (some ⟨g, 0, none⟩) u.length co) u.length (ints u))) (w.setCell ⟨m, j, none⟩ (.slice (some ⟨g, 0, none⟩) u.length co)) ∧
        Turn (Foot m ps) (Foot m (ps.set i (rowP B e 1 (.slice (some ⟨g, 0, none⟩) u.length co) u.length (ints u)))) w (w.setCell ⟨m, j, none⟩ (.slice (some ⟨g, 0, none⟩) u.length co)) := by
  have hoo := h.row i hi
  have e1 : (u ++ [k]).length = u.length + 1 := by simp
  rw [ints_append, e1] at hoo
  obtain ⟨g, co, hvo, hBg, hgl⟩ := hoo.form (by omega)
  subst hvo
  have hm : u.length + 1 ≤ co ∧ co ≤ maxLen := by
    rcases hoo.2 with ⟨e, _⟩ | ⟨_, _, _, e, _, _, hc, hm, _⟩
    · cases e
    · cases e; exact ⟨hc, hm⟩
  have hpop := ownsRow_pop (by simp [ints]) hoo
  rw [ints_append, e1] at hi
  obtain ⟨h1, h2⟩ := h.set_row i j hi (World.grownBy.refl _ _) hpop (fun b hb => .inl hb)
  exact ⟨g, co, rfl, hm.1, hm.2, hgl, hBg, h1, h2⟩

/-- between two fetches of a task: an object that is worked on, and a row of what was got -/
structure LpO (B : Nat) (w0 : World) (m : Nat) (T : TypeId) (cs : Array Value) (ps : List Part) (w : World) (F : Nat → Prop) (got : List Int) (vg : Value) (wr : World) : Prop where
  ob : ObjAt B w0 m T cs ps wr
  own : wr.ownsRow w.heap.size 3 1 vg got.length (ints got)
  far : ∀ i, vg.ownBlock = some i → ¬ Foot m ps i
  vals : ∀ x ∈ got, 0 ≤ x ∧ x ≤ 96
  turn : Turn F (Foot m ps) w wr
  low : B ≤ w.heap.size
section
variable {B : Nat} {w0 : World} {m : Nat} {T : TypeId} {cs cs2 : Array Value} {ps ps2 : List Part} {w wr w2 : World} {F : Nat → Prop} {got : List Int} {vg v' : Value}
theorem LpO.up (h : LpO B w0 m T cs ps w F got vg wr) (hb : Below wr.heap.size wr w2) : LpO B w0 m T cs ps w F got vg w2 :=
  ⟨h.ob.up hb, ownsRow_block h.own (fun i hi => hb.block i (h.own.lt i hi).2), h.far, h.vals, h.turn.trans (below_turn hb), h.low⟩
theorem LpO.key (h : LpO B w0 m T cs ps w F got vg wr) (hs : ObjAt B w0 m T cs2 ps2 w2) (t : Turn (Foot m ps) (Foot m ps2) wr w2) : LpO B w0 m T cs2 ps2 w F got vg w2 :=
  ⟨hs, ownsRow_block h.own (fun i hi => t.block i (h.own.lt i hi).2 (h.far i hi)), fun i hi hf => (t.fresh i hf).elim (h.far i hi) (fun e => by have := (h.own.lt i hi).2; omega), h.vals, h.turn.trans t, h.low⟩
theorem LpO.app (h : LpO B w0 m T cs ps w F got vg wr) {o : Obj} {x : Int} (hg : (wr.alloc o).grownBy w2 vg.ownBlock) (ho : w2.ownsRow w.heap.size 3 1 v' (got.length + 1) (ints got ++ [.int .i64 x])) (hx : 0 ≤ x ∧ x ≤ 96)
    (hat : ∀ i, v'.ownBlock = some i → vg.ownBlock = some i ∨ wr.heap.size ≤ i) : LpO B w0 m T cs ps w F (got ++ [x]) v' w2 := by
  have ha := h.ob.alloc o
  have t : Turn (fun i => vg.ownBlock = some i) (fun i => vg.ownBlock = some i) (wr.alloc o) w2 := grown_turn hg (fun k hk => hk) (fun i hi => .inl hi)
  exact ⟨ha.aside t (fun i hi => ⟨Nat.le_trans h.low (h.own.lt i hi).1, h.far i hi⟩), by simpa [ints_append, ints] using ho, fun i hi hf => (hat i hi).elim (fun e => h.far i e hf) (fun e => by have := (h.ob.bounds i hf).2; omega),
    fun y hy => (List.mem_append.1 hy).elim (h.vals y) (fun e => by rw [List.mem_singleton.1 e]; exact hx), (h.turn.alloc o).grown_new hg (fun i hi => (h.own.lt i hi).1), h.low⟩
theorem LpO.start (h : ObjAt B w0 m T cs ps wr) (t : Turn F (Foot m ps) w wr) (hl : B ≤ w.heap.size) : LpO B w0 m T cs ps w F [] (.slice (some ⟨wr.heap.size, 0, none⟩) 0 0) (wr.alloc (.cells #[] 3 (0, 0))) :=
  ⟨h.alloc _, by simpa [ints] using World.ownsRow_made (base := w.heap.size) wr #[] 0 t.size (by simp [maxLen]) rfl, fun i hi hf => (by cases hi; exact Nat.lt_irrefl _ (h.bounds _ hf).2), fun x hx => (by cases hx), t.alloc _, hl⟩
end

set_option maxHeartbeats 1000000 in
theorem l2Has_calls (A : Option Addr) (c : Nat) (xs : List Int) (x : Int) (B : Nat) (w0 w : World) (hb : Below B w0 w) (hB : B ≤ w.heap.size) (hl : xs.length ≤ maxLen) (hx : IntsAt B w0 A xs) :
    Calls Try.prog 122 #[.slice A xs.length c, .int .i64 x] w fun e w' => e = .returned (.bool (xs.contains x)) ∧ w = w' := by
  unfold maxLen at hl
  replace hx := Lib.hid hx
  replace hb := Lib.hid hb
  go_enter Try.func122, Try.ntmps122
  go_wp2_with fail
  go_loopw [5] (fun i wr => ∃ (j : Nat), j ≤ xs.length ∧ i = .int .i64 j ∧ wr = w ∧ Hid (x ∉ xs.take j)) (fun i _ => xs.length - (intOf i).toNat)
  case atStart => exact ⟨0, Nat.zero_le _, rfl, rfl, Lib.hid (by simp)⟩
  case round =>
    obtain ⟨j, hj, rfl, rfl, hno⟩ := hrel
    by_cases hlt : j < xs.length
    · obtain ⟨b, o, rfl, hbl, y⟩ := hx.out.at hb.out hB j hlt
      by_cases e : xs[j] = x
      · have e' : (xs[j] == x) = true := by simp [e]
        have hr : xs.contains x = true := by rw [← e]; simp
        replace e := Lib.hid e
        replace hr := Lib.hid hr
        go_wp2_with fail
        go_ret
        exact ⟨by rw [hr.out]; rfl, rfl⟩
      · have e' : (xs[j] == x) = false := by simp [e]
        have hno2 : x ∉ xs.take (j + 1) := by
          rw [List.take_succ_eq_append_getElem hlt, List.mem_append, List.mem_singleton]
          exact fun h => h.elim hno.out (fun h => e h.symm)
        replace e := Lib.hid e
        replace hno2 := Lib.hid hno2
        go_wp2_with fail
        go_roundw
        case rel => exact ⟨j + 1, by omega, by go_num, by first | rfl | trivial, hno2⟩
        case measure => simp [intOf]; omega
    · have hr : xs.contains x = false := by
        have := hno.out
        rw [List.take_of_length_le (by omega)] at this
        simpa using this
      replace hr := Lib.hid hr
      go_wp2_with fail
      go_ret
      exact ⟨by rw [hr.out]; rfl, rfl⟩
end Go.Proofs.Ytkbblekengdhaaa

set_option linter.unusedVariables false
set_option linter.unusedSimpArgs false
namespace Go.Proofs.Ytkbblekengdhaaa
open Go Go.RowKit

/-! l4Once in memory -/
abbrev onCs (E : MkEnv) (S : Sh) (vv vd vu : Value) : Array Value := #[.slice E.Am S.made.length E.cm, .slice E.At S.tks.length E.ct, vv, vd, vu]
abbrev onPs (E : MkEnv) (vv vd vu : Value) (st : OSt) : List Part := [rowP E.B 3 1 vv st.vals.length (ints st.vals), rowP E.B 3 1 vd st.done.length (ints st.done), rowP E.B 3 1 vu st.under.length (ints st.under)]
theorem ints_set (xs : List Int) (q : Nat) (x : Int) : (ints xs).set q (.int .i64 x) = ints (xs.set q x) := (List.map_set).symm
theorem onPs_under (E : MkEnv) (vv vd vu v : Value) (st : OSt) (k : Int) : (onPs E vv vd vu st).set 2 (rowP E.B 3 1 v (st.under.length + 1) (ints (st.under ++ [k]))) = onPs E vv vd v ⟨st.vals, st.done, st.under ++ [k]⟩ := by
  simp only [onPs, List.set, List.length_append, List.length_singleton]
theorem onPs_done (E : MkEnv) (vv vd vu v : Value) (st : OSt) (k : Int) : (onPs E vv vd vu st).set 1 (rowP E.B 3 1 v (st.done.length + 1) (ints (st.done ++ [k]))) = onPs E vv v vu ⟨st.vals, st.done ++ [k], st.under⟩ := by
  simp only [onPs, List.set, List.length_append, List.length_singleton]
theorem onPs_val (E : MkEnv) (vv vd vu : Value) (st : OSt) (q : Nat) (x : Int) : (onPs E vv vd vu st).set 0 (rowP E.B 3 1 vv st.vals.length ((ints st.vals).set q (.int .i64 x))) = onPs E vv vd vu ⟨st.vals.set q x, st.done, st.under⟩ := by
  simp only [onPs, List.set, List.length_set, ints_set]
section
variable {E : MkEnv} {S : Sh} {m : Nat} {vv vd vu : Value} {st : OSt} {w w' : World}
end

end Go.Proofs.Ytkbblekengdhaaa

set_option linter.unusedVariables false
set_option linter.unusedSimpArgs false
namespace Go.Proofs.Ytkbblekengdhaaa
open Go Go.RowKit

theorem keysOk_drop {n : Nat} {keys : List Int} {j : Nat} (h : j < keys.length) : keysOk n (keys.drop j) = (decide (0 ≤ keys[j] ∧ keys[j] < n) && keysOk n (keys.drop (j + 1))) := by
  unfold keysOk
  rw [List.drop_eq_getElem_cons h, List.all_cons]
set_option maxHeartbeats 1000000 in
theorem l4Keys_calls (Am At Ak : Option Addr) (cm ct ck : Nat) (made : List Bool) (tasks : List Task) (keys : List Int) (B : Nat) (w0 w : World) (hb : Below B w0 w) (hB : B ≤ w.heap.size) (hs : SheetAt B w0 Am cm At ct made tasks) (hnod : ∀ T ∈ tasks, nodes T ≤ 1000000000) (hml : (made.length : Int) ≤ 9223372036854775807) (hm : keys.length ≤ maxLen) (hx : IntsAt B w0 Ak keys) :
    Calls Try.prog 120 #[.agg #[.slice Am made.length cm, .slice At tasks.length ct], .slice Ak keys.length ck] w fun e w' => e = .returned (.bool (keysOk made.length keys && sheetOk made tasks)) ∧ Below w.heap.size w w' := by
  have hc1 := fun w1 (hw : Below w.heap.size w w1) => specSheetOk_calls Am At cm ct made tasks B w0 w1 (below_up' hb hB hw) (Nat.le_trans hB hw.size) hs hnod
  have hc2 := fun k w1 => l6In_calls k 0 ((made.length : Int) - 1) w1
  have hwr : IntKind.i64.wrap ((made.length : Int) - 1) = (made.length : Int) - 1 := by simp [IntKind.wrap, IntKind.bits, IntKind.signed]; omega
  generalize hsk : sheetOk made tasks = sk at *
  replace hc1 := Lib.hid hc1
  replace hc2 := Lib.hid hc2
  replace hx := Lib.hid hx
  replace hb := Lib.hid hb
  replace hsk := Lib.hid hsk
  unfold maxLen at hm
  clear hs hnod
  go_enter Try.func120, Try.ntmps120
  go_wp2_with fail
  go_loopw [5] (fun i wr => ∃ (j : Nat), j ≤ keys.length ∧ i = .int .i64 j ∧ Hid (Below w.heap.size w wr) ∧ w.heap.size < wr.heap.size ∧ wr.cell? ⟨w.heap.size, 0, none⟩ = some (.slice Am made.length cm) ∧ wr.cell? ⟨w.heap.size, 1, none⟩ = some (.slice At tasks.length ct) ∧
    Hid (keysOk made.length keys = keysOk made.length (keys.drop j))) (fun i _ => keys.length - (intOf i).toNat)
  case atStart => exact ⟨0, Nat.zero_le _, rfl, Lib.hid (below_al (Below.refl _ _) _), by simp, by simp, by simp, Lib.hid rfl⟩
  case round =>
    obtain ⟨j, hj, rfl, hw, hz, x0, x1, he⟩ := hrel
    by_cases hlt : j < keys.length
    · have he2 := he.out
      rw [keysOk_drop hlt] at he2
      obtain ⟨b, o, rfl, hbb, y⟩ := hx.out.at (below_up' hb.out hB hw.out) (Nat.le_trans hB hw.out.size) j hlt
      have hcall := hc2.out keys[j]
      generalize keys[j] = k at *
      have hdd : decide (0 ≤ k ∧ k ≤ (made.length : Int) - 1) = decide (0 ≤ k ∧ k < (made.length : Int)) := by
        by_cases h1 : 0 ≤ k ∧ k < (made.length : Int)
        · rw [decide_eq_true h1, decide_eq_true (by omega)]
        · rw [decide_eq_false h1, decide_eq_false (by omega)]
      rw [hdd] at hcall
      generalize decide (0 ≤ k ∧ k < (made.length : Int)) = d at *
      replace hcall := Lib.hid hcall
      replace hdd := Lib.hid hdd
      replace he2 := Lib.hid he2
      clear he
      go_wp2_with fail
      go_region_law (go_simp; go_at_call 87; refine (hcall.out _).mono ?_; rintro e w5 ⟨rfl, rfl⟩)
      all_goals
        cases d with
        | true =>
          have he3 := he2.out
          simp only [Bool.true_and] at he3
          replace he3 := Lib.hid he3
          go_wp2_with fail
          go_roundw
          case rel => exact ⟨j + 1, by omega, by go_num, Lib.hid hw.out.drew, hz, x0, x1, he3⟩
          case measure => simp [intOf]; omega
        | false =>
          have he3 := he2.out
          simp only [Bool.false_and] at he3
          replace he3 := Lib.hid he3
          go_wp2_with fail
          go_ret
          exact ⟨by rw [he3.out]; rfl, hw.out.drew⟩
    · have hd : keys.drop j = [] := List.drop_eq_nil_of_le (by omega)
      have he2 := he.out
      rw [hd] at he2
      replace he2 := Lib.hid he2
      replace hd := Lib.hid hd
      have hcall := hc1.out wr hw.out
      replace hcall := Lib.hid hcall
      clear he
      go_wp2_with fail
      refine hcall.out.mono ?_
      rintro e w5 ⟨rfl, h5⟩
      have hw5 := below_up hw.out h5
      replace hw5 := Lib.hid hw5
      clear h5 hcall
      go_wp2_with fail
      go_ret
      exact ⟨by rw [he2.out]; simp [keysOk], hw5.out⟩
end Go.Proofs.Ytkbblekengdhaaa

set_option linter.unusedVariables false
set_option linter.unusedSimpArgs false
namespace Go.Proofs.Ytkbblekengdhaaa
open Go Go.RowKit

/-! a row of numbers, nil or not, is appended to a row that the call owns -/
section
variable {P : Program} {w : World} {t e : TypeId} {z : Value} {bytes : Nat} {base n c B : Nat} {v : Value} {xs : List Value} {A : Option Addr} {ys : List Int} {w0 : World}
theorem run_appI (ty : TypeId) (hE : ElemTy P t e z 1 bytes) (hown : w.ownsRow base e 1 v n xs) (hy : IntsAt B w0 A ys) (hb : Below B w0 w) (hB : B ≤ w.heap.size)
    (h63 : n + ys.length ≤ maxLen) (hbytes : (n + ys.length) * bytes ≤ 140737488355328) (hbase : base ≤ w.heap.size) :
    ∃ v' w', (Builtin.append_ #[t, t] ty #[v, .slice A ys.length c]).run P w = .ok v' w' ∧ w'.ownsRow base e 1 v' (n + ys.length) (xs ++ ints ys) ∧ w.grownBy w' v.ownBlock ∧ (v'.ownBlock = v.ownBlock ∨ v'.ownBlock = some w.heap.size) := by
  obtain ⟨i, hi, hz0, hz1, hz2⟩ := info_parts hE.hi
  cases A with
  | none =>
    have h0 : ys = [] := by
      cases ys with
      | nil => rfl
      | cons y ys => obtain ⟨b, o, e, _⟩ := hy 0 (by simp); cases e
    subst h0
    refine ⟨v, w, ?_, by simpa [ints] using hown, World.grownBy.refl w _, .inl rfl⟩
    have ht := run_underlying (P := P) (w := w) hE.ht
    rcases hown.2 with ⟨rfl, rfl⟩ | ⟨g, cap, cur, rfl, _, _, hnc, _⟩
    · simp [Builtin.append_, ht, sizeOf, typeInfo, hi, Builtin.lenOf, Builtin.firstCells]
    · simp [Builtin.append_, ht, sizeOf, typeInfo, hi, Builtin.lenOf, Builtin.firstCells, hnc, storeCells]
  | some ad =>
    obtain ⟨v', w', hr, h2, h3, _, h5⟩ := run_append_own_at (P := P) w base t ty e i z 1 bytes hE.ht hi hz0 hz1 hz2 hE.hz hE.hs v n xs hown ad ys.length c (ints ys) (by simp [ints]) (fun j u hu => by
      have hj : j < ys.length := by have := (List.getElem?_eq_some_iff.1 hu).1; simpa [ints] using this
      obtain ⟨b, o, e, hlt, hc⟩ := hy.at hb hB j hj
      cases e
      rw [Addr.add_lit, hc]
      simpa [ints, hj] using hu) (fun u hu => by
      simp only [ints, List.mem_map] at hu
      obtain ⟨x, _, rfl⟩ := hu
      rfl) h63 hbytes hbase
    exact ⟨v', w', hr, h2, h3, h5⟩
variable {ops : Array Oper} {o : Oper} {a : Act} {K : Act → World → Prop} {Q : Exit → Act → World → Prop} {X : Prop}
theorem wp_appI (s x : Operand) (ho : o.op = .call { callee := .builtin .append, args := #[s, x], argTypes := #[t, t] }) (hE : ElemTy P t e z 1 bytes) (hs : a.eval s = v) (hown : w.ownsRow base e 1 v n xs) (hx : a.eval x = .slice A ys.length c) (hy : IntsAt B w0 A ys) (hb : Below B w0 w) (hB : B ≤ w.heap.size)
    (h63 : n + ys.length ≤ maxLen) (hbytes : (n + ys.length) * bytes ≤ 140737488355328) (hbase : base ≤ w.heap.size)
    (h : ∀ v' w', w'.ownsRow base e 1 v' (n + ys.length) (xs ++ ints ys) → w.grownBy w' v.ownBlock → (v'.ownBlock = v.ownBlock ∨ v'.ownBlock = some w.heap.size) → K (a.put o.dst v') w') : o.wp P a w K Q := by
  obtain ⟨v', w', hrun, h2, h3, h4⟩ := run_appI (c := c) o.type hE hown hy hb hB h63 hbytes hbase
  unfold Oper.wp execOp
  simp only [ho, resolve, invoke, builtin, Sem.run_bind, Sem.run_pure, Result.andThen_ok, List.map_toArray, List.map_cons, List.map_nil, hs, hx, hrun]
  exact h v' w' h2 h3 h4
theorem wpList_appI {rest : List Oper} (hgd : o.guard = none) (s x : Operand) (ho : o.op = .call { callee := .builtin .append, args := #[s, x], argTypes := #[t, t] }) (hE : ElemTy P t e z 1 bytes) (hs : a.eval s = v) (hown : w.ownsRow base e 1 v n xs) (hx : a.eval x = .slice A ys.length c) (hy : IntsAt B w0 A ys) (hb : Below B w0 w) (hB : B ≤ w.heap.size)
    (h63 : n + ys.length ≤ maxLen) (hbytes : (n + ys.length) * bytes ≤ 140737488355328) (hbase : base ≤ w.heap.size)
    (h : ∀ v' w', w'.ownsRow base e 1 v' (n + ys.length) (xs ++ ints ys) → w.grownBy w' v.ownBlock → (v'.ownBlock = v.ownBlock ∨ v'.ownBlock = some w.heap.size) → wpList P ops Q rest (a.put o.dst v') w') : wpList P ops Q (o :: rest) a w :=
  wpList_plain hgd fun _ hK => wp_appI s x ho hE hs hown hx hy hb hB h63 hbytes hbase fun v' w' h2 h3 h4 => hK _ _ (h v' w' h2 h3 h4)
theorem step_appI (hgd : o.guard = none) (s x : Operand) (ho : o.op = .call { callee := .builtin .append, args := #[s, x], argTypes := #[t, t] }) (hE : ElemTy P t e z 1 bytes) (hs : a.eval s = v) (hown : w.ownsRow base e 1 v n xs) (hx : a.eval x = .slice A ys.length c) (hy : IntsAt B w0 A ys) (hb : Below B w0 w) (hB : B ≤ w.heap.size)
    (h63 : n + ys.length ≤ maxLen) (hbytes : (n + ys.length) * bytes ≤ 140737488355328) (hbase : base ≤ w.heap.size)
    (h : ∀ v' w', w'.ownsRow base e 1 v' (n + ys.length) (xs ++ ints ys) → w.grownBy w' v.ownBlock → (v'.ownBlock = v.ownBlock ∨ v'.ownBlock = some w.heap.size) → K (a.put o.dst v') w') : if Region.wanted o (yielded ops a.tmps) = true then Oper.wp P o a w K Q else X := by
  rw [if_pos (by simp [Region.wanted, hgd])]
  exact wp_appI s x ho hE hs hown hx hy hb hB h63 hbytes hbase h
end
end Go.Proofs.Ytkbblekengdhaaa
