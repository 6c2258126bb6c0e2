import Derived.Test.YtagmdljdcnmpdaaProg
import Derived.Test.YtagmdljdcnmpdaaBase
set_option linter.unusedVariables false
set_option linter.unusedSimpArgs false
namespace Go.Proofs.Ytagmdljdcnmpdaa
open Go Go.RowKit

theorem isValue_calls (n : Int) (w : World) : Calls Try.prog 95 #[.int .i64 n] w fun e w' => e = .returned (.bool (decide (0 ≤ n ∧ n ≤ 96))) ∧ w = w' := by
  by_cases h : 0 ≤ n <;>
  · go_enter Try.func95, Try.ntmps95
    go_wp2
    go_ret
    refine ⟨?_, rfl⟩
    by_cases h2 : n ≤ 96 <;> simp [h, h2] <;> omega

theorem isKey_calls (n : Int) (w : World) : Calls Try.prog 105 #[.int .i64 n] w fun e w' => e = .returned (.bool (decide (0 ≤ n ∧ n ≤ 9))) ∧ w = w' := by
  by_cases h : 0 ≤ n <;>
  · go_enter Try.func105, Try.ntmps105
    go_wp2
    go_ret
    refine ⟨?_, rfl⟩
    by_cases h2 : n ≤ 9 <;> simp [h, h2] <;> omega

/-- a value of a row, 0 beside it -/
def atK (xs : List Int) (k : Int) : Int := if k < 0 then 0 else xs.getD k.toNat 0

theorem at_calls (A : Option Addr) (c : Nat) (k : Int) (xs : List Int) (B : Nat) (w0 w : World) (hb : Below B w0 w) (hB : B ≤ w.heap.size) (hm : xs.length ≤ maxLen) (hx : IntsAt B w0 A xs) :
    Calls Try.prog 74 #[.slice A xs.length c, .int .i64 k] w fun e w' => e = .returned (.int .i64 (atK xs k)) ∧ w = w' := by
  unfold maxLen at hm
  by_cases h : k < 0
  · go_enter Try.func74, Try.ntmps74
    go_wp2
    go_ret
    exact ⟨by simp [atK, h], rfl⟩
  · by_cases h2 : k < xs.length
    · obtain ⟨i, rfl⟩ := Int.eq_ofNat_of_zero_le (by omega : 0 ≤ k)
      obtain ⟨b, o, rfl, hlt, hc⟩ := hx.at hb hB i (by omega)
      have hr : atK xs i = xs[i]'(by omega) := by unfold atK; rw [if_neg h]; exact getD_at _ _
      replace hr := Lib.hid hr
      clear hx hb
      have hi : i < xs.length := by omega
      go_enter Try.func74, Try.ntmps74
      go_wp2
      go_ret
      exact ⟨by rw [hr.out]; rfl, rfl⟩
    · have hr : atK xs k = 0 := by unfold atK; rw [if_neg h]; exact getD_out _ (by omega)
      replace hr := Lib.hid hr
      go_enter Try.func74, Try.ntmps74
      go_wp2
      go_ret
      exact ⟨by rw [hr.out]; rfl, rfl⟩

theorem has_calls (A A2 : Option Addr) (n c n2 c2 : Nat) (k : Int) (w : World) :
    Calls Try.prog 42 #[.agg #[.slice A n c, .slice A2 n2 c2], .int .i64 k] w fun e w' => e = .returned (.bool (decide (0 ≤ k ∧ k < n))) ∧ Below w.heap.size w w' := by
  by_cases h : 0 ≤ k <;>
  · go_enter Try.func42, Try.ntmps42
    go_wp2
    go_ret
    refine ⟨?_, below_al (Below.refl _ _) _⟩
    by_cases h2 : k < n <;> simp [h, h2] <;> omega

/-- whether a key is made -/
def mkK (made : List Bool) (k : Int) : Bool := if k < 0 then false else made.getD k.toNat false

theorem makes_calls (A A2 : Option Addr) (c n2 c2 : Nat) (k : Int) (made : List Bool) (B : Nat) (w0 w : World) (hb : Below B w0 w) (hB : B ≤ w.heap.size) (hm : made.length ≤ maxLen) (hx : BoolsAt B w0 A made) :
    Calls Try.prog 73 #[.agg #[.slice A made.length c, .slice A2 n2 c2], .int .i64 k] w fun e w' => e = .returned (.bool (mkK made k)) ∧ Below w.heap.size w w' := by
  unfold maxLen at hm
  by_cases h : 0 ≤ k ∧ k < made.length
  · have hd : decide (0 ≤ k ∧ k < made.length) = true := by simp [h]
    obtain ⟨h1, h2⟩ := h
    obtain ⟨i, rfl⟩ := Int.eq_ofNat_of_zero_le h1
    obtain ⟨b, o, rfl, hlt, hc⟩ := hx i (by omega)
    have hc' := (hb.cell hlt).trans hc
    have hr : mkK made i = made[i]'(by omega) := by unfold mkK; rw [if_neg (by omega)]; exact getD_at _ _
    replace hr := Lib.hid hr
    have hlt' : b < w.heap.size := by omega
    have hi : i < made.length := by omega
    clear hx hb hc
    replace hd := Lib.hid hd
    go_enter Try.func73, Try.ntmps73
    go_wp2_with fail
    refine (has_calls _ _ _ _ _ _ _ _).mono ?_
    rintro e w1 ⟨rfl, h3⟩
    rw [hd.out]
    have h4 := bcell h3
    simp at h4
    have x0 : w1.cell? ⟨w.heap.size, 0, none⟩ = some (.slice (some ⟨b, o, none⟩) made.length c) := (h4 _ _ (by omega)).trans (by simp)
    have x1 : w1.cell? ⟨b, o + i, none⟩ = some (.bool made[i]) := (h4 _ _ (by omega)).trans ((cell_al hlt').trans hc')
    clear h4
    replace h3 := Lib.hid h3
    go_wp2_with fail
    go_ret
    exact ⟨by rw [hr.out]; rfl, below_from h3.out⟩
  · have hd : decide (0 ≤ k ∧ k < made.length) = false := by simp [h]
    have hr : mkK made k = false := by
      unfold mkK
      by_cases h0 : k < 0
      · simp [h0]
      · rw [if_neg h0]; exact getD_out _ (by omega)
    replace hd := Lib.hid hd
    replace hr := Lib.hid hr
    go_enter Try.func73, Try.ntmps73
    go_wp2_with fail
    refine (has_calls _ _ _ _ _ _ _ _).mono ?_
    rintro e w1 ⟨rfl, h3⟩
    rw [hd.out]
    go_wp2_with fail
    go_ret
    exact ⟨by rw [hr.out]; rfl, below_from h3⟩

theorem index_calls (A : Option Addr) (c : Nat) (v : Int) (xs : List Int) (B : Nat) (w0 w : World) (hb : Below B w0 w) (hB : B ≤ w.heap.size) (hm : xs.length ≤ maxLen) (hx : IntsAt B w0 A xs) :
    Calls Try.prog 75 #[.slice A xs.length c, .int .i64 v] w fun e w' => e = .returned (.int .i64 (idx (fun x => v == x) xs)) ∧ w = w' := by
  unfold maxLen at hm
  replace hx := Lib.hid hx
  replace hb := Lib.hid hb
  go_enter Try.func75, Try.ntmps75
  go_wp2
  go_loop [5, 8] (fun _ i => ∃ k : Nat, k ≤ xs.length ∧ i = .int .i64 k ∧ Hid (∀ j (hj : j < xs.length), j < k → (v == xs[j]) = false)) (fun _ i => xs.length - (intOf i).toNat)
  case atStart => exact ⟨0, Nat.zero_le _, rfl, Lib.hid (fun j _ h => by omega)⟩
  case round =>
    obtain ⟨k, hk, rfl, hno⟩ := hrel
    by_cases hlt : k < xs.length
    · obtain ⟨b, o, rfl, hbl, hc⟩ := hx.out.at hb.out hB k hlt
      by_cases hv : v = xs[k]
      · have hv' : (v == xs[k]) = true := by simp [hv]
        have hr : idx (fun x => v == x) xs = k := idx_found hlt (fun j hj => hno.out j _ hj) hv'
        replace hr := Lib.hid hr
        replace hv := Lib.hid hv
        go_wp2
        go_ret
        exact ⟨by rw [hr.out]; rfl, rfl⟩
      · have hv' : (v == xs[k]) = false := by simp [hv]
        replace hv := Lib.hid hv
        go_wp2
        go_round
        case rel => exact ⟨k + 1, by omega, by go_num, Lib.hid (fun j hj h => if e : j = k then by subst e; exact hv' else hno.out j hj (by omega))⟩
        case measure => simp [intOf]; omega
    · have hr : idx (fun x => v == x) xs = -1 := idx_none (fun j hj => hno.out j hj (by omega))
      replace hr := Lib.hid hr
      go_wp2
      go_ret
      exact ⟨by rw [hr.out]; rfl, rfl⟩

theorem indexFunc_calls (p : Int → Bool) (g : Nat) (first cap : Array Value) (hg : Enters Try.prog g) (A : Option Addr) (c : Nat) (xs : List Int) (B : Nat) (w0 w : World) (hb : Below B w0 w) (hB : B ≤ w.heap.size) (hm : xs.length ≤ maxLen)
    (hx : IntsAt B w0 A xs)
    (hf : ∀ x w', x ∈ xs → Below w.heap.size w w' → Calls Try.prog g (first ++ #[.int .i64 x] ++ cap) w' (fun e w'' => e = .returned (.bool (p x)) ∧ Below w'.heap.size w' w'')) :
    Calls Try.prog 99 #[.slice A xs.length c, .func (.func g) first cap] w fun e w' => e = .returned (.int .i64 (idx p xs)) ∧ Below w.heap.size w w' := by
  unfold maxLen at hm
  replace hx := Lib.hid hx
  replace hb := Lib.hid hb
  replace hf := Lib.hid hf
  go_enter Try.func99, Try.ntmps99
  go_wp2
  go_loopw [5, 8] (fun _ i wr => ∃ k : Nat, k ≤ xs.length ∧ i = .int .i64 k ∧ Hid (Below w.heap.size w wr) ∧ Hid (∀ j (hj : j < xs.length), j < k → p xs[j] = false)) (fun _ i _ => xs.length - (intOf i).toNat)
  case atStart => exact ⟨0, Nat.zero_le _, rfl, Lib.hid (Below.refl _ _), Lib.hid (fun j _ h => by omega)⟩
  case round =>
    obtain ⟨k, hk, rfl, hw, hno⟩ := hrel
    by_cases hlt : k < xs.length
    · obtain ⟨b, o, rfl, hbl, hc⟩ := hx.out.at (below_up' hb.out hB hw.out) (Nat.le_trans hB hw.out.size) k hlt
      go_wp2_with ((with_reducible refine wpList_call_value (by rfl) (.tmp 11) _ _ (by rfl) g first cap (by with_unfolding_all rfl) hg ?_); refine (hf.out xs[k] _ (List.getElem_mem _) hw.out).mono ?_; rintro e w' ⟨rfl, h3⟩; replace h3 := Lib.hid h3; refine ⟨_, rfl, ?_⟩)
      · have hp : p xs[k] = true := by assumption
        have hr : idx p xs = k := idx_found hlt (fun j hj => hno.out j _ hj) hp
        go_ret
        exact ⟨by rw [hr]; rfl, below_up hw.out h3.out⟩
      · have hp : p xs[k] = false := by assumption
        go_roundw
        case rel => exact ⟨k + 1, by omega, by go_num, Lib.hid (below_up hw.out h3.out), Lib.hid (fun j hj h => if e : j = k then by subst e; exact hp else hno.out j hj (by omega))⟩
        case measure => simp [intOf]; omega
    · have hr : idx p xs = -1 := idx_none (fun j hj => hno.out j hj (by omega))
      replace hr := Lib.hid hr
      go_wp2
      go_ret
      exact ⟨by rw [hr.out]; rfl, hw.out⟩

theorem containsFunc_calls (p : Int → Bool) (g : Nat) (first cap : Array Value) (hg : Enters Try.prog g) (A : Option Addr) (c : Nat) (xs : List Int) (B : Nat) (w0 w : World) (hb : Below B w0 w) (hB : B ≤ w.heap.size) (hm : xs.length ≤ maxLen)
    (hx : IntsAt B w0 A xs)
    (hf : ∀ x w', x ∈ xs → Below w.heap.size w w' → Calls Try.prog g (first ++ #[.int .i64 x] ++ cap) w' (fun e w'' => e = .returned (.bool (p x)) ∧ Below w'.heap.size w' w'')) :
    Calls Try.prog 83 #[.slice A xs.length c, .func (.func g) first cap] w fun e w' => e = .returned (.bool (xs.any p)) ∧ Below w.heap.size w w' := by
  have h := indexFunc_calls p g first cap hg A c xs B w0 w hb hB hm hx hf
  replace h := Lib.hid h
  clear hx hb hf
  go_enter Try.func83, Try.ntmps83
  go_wp2_with fail
  refine h.out.mono ?_
  rintro e w1 ⟨rfl, h3⟩
  replace h3 := Lib.hid h3
  have hr := idx_any p xs
  generalize idx p xs = n at *
  replace hr := Lib.hid hr
  go_wp2_with fail
  go_ret
  exact ⟨by rw [← hr.out]; rfl, h3.out⟩

/-- whether all are values -/
def vals (xs : List Int) : Bool := !xs.any fun n => !decide (0 ≤ n ∧ n ≤ 96)

theorem areValues1_calls (n : Int) (w : World) : Calls Try.prog 94 #[.int .i64 n] w fun e w' => e = .returned (.bool (!decide (0 ≤ n ∧ n ≤ 96))) ∧ Below w.heap.size w w' := by
  go_enter Try.func94, Try.ntmps94
  go_wp2_with fail
  refine (isValue_calls _ _).mono ?_
  rintro e w1 ⟨rfl, rfl⟩
  generalize hd : decide (0 ≤ n ∧ n ≤ 96) = d
  replace hd := Lib.hid hd
  go_wp2_with fail
  go_ret
  exact ⟨by rw [hd.out]; rfl, Below.refl _ _⟩

theorem areValues_calls (A : Option Addr) (c : Nat) (xs : List Int) (B : Nat) (w0 w : World) (hb : Below B w0 w) (hB : B ≤ w.heap.size) (hm : xs.length ≤ maxLen) (hx : IntsAt B w0 A xs) :
    Calls Try.prog 72 #[.slice A xs.length c] w fun e w' => e = .returned (.bool (vals xs)) ∧ Below w.heap.size w w' := by
  have h := containsFunc_calls (fun n => !decide (0 ≤ n ∧ n ≤ 96)) 94 #[] #[] (enters_of Try.func94 (by kernel_rfl) rfl) A c xs B w0 w hb hB hm hx (fun x w' _ _ => by
    simpa using areValues1_calls x w')
  replace h := Lib.hid h
  clear hx hb
  go_enter Try.func72, Try.ntmps72
  go_wp2_with fail
  refine h.out.mono ?_
  rintro e w1 ⟨rfl, h3⟩
  replace h3 := Lib.hid h3
  have hr : vals xs = !xs.any (fun n => !decide (0 ≤ n ∧ n ≤ 96)) := rfl
  generalize xs.any (fun n => !decide (0 ≤ n ∧ n ≤ 96)) = n at *
  replace hr := Lib.hid hr
  go_wp2_with fail
  go_ret
  exact ⟨by rw [hr.out]; rfl, h3.out⟩

def valsOk (xs : List Int) : Bool := decide (xs.length ≤ 10) && vals xs

theorem valuesOk_calls (A : Option Addr) (c : Nat) (xs : List Int) (B : Nat) (w0 w : World) (hb : Below B w0 w) (hB : B ≤ w.heap.size) (hm : xs.length ≤ maxLen) (hx : IntsAt B w0 A xs) :
    Calls Try.prog 49 #[.slice A xs.length c] w fun e w' => e = .returned (.bool (valsOk xs)) ∧ Below w.heap.size w w' := by
  have h := areValues_calls A c xs B w0 w hb hB hm hx
  replace h := Lib.hid h
  clear hx hb
  by_cases hl : xs.length ≤ 10
  · have hr : valsOk xs = vals xs := by simp [valsOk, hl]
    generalize vals xs = b at *
    replace hr := Lib.hid hr
    go_enter Try.func49, Try.ntmps49
    go_wp2_with fail
    refine h.out.mono ?_
    rintro e w1 ⟨rfl, h3⟩
    replace h3 := Lib.hid h3
    go_wp2_with fail
    go_ret
    exact ⟨by rw [hr.out]; rfl, h3.out⟩
  · have hr : valsOk xs = false := by simp [valsOk, hl]
    replace hr := Lib.hid hr
    go_enter Try.func49, Try.ntmps49
    go_wp2_with fail
    go_ret
    exact ⟨by rw [hr.out]; rfl, Below.refl _ _⟩

/-- whether inputs are ones of a sheet with n keys -/
def takesOk (n : Nat) (xs : List Int) : Bool := decide (xs.length = n) && vals xs

theorem takes_calls (A A2 Ai : Option Addr) (n c n2 c2 ci : Nat) (xs : List Int) (B : Nat) (w0 w : World) (hb : Below B w0 w) (hB : B ≤ w.heap.size) (hm : xs.length ≤ maxLen) (hx : IntsAt B w0 Ai xs) :
    Calls Try.prog 41 #[.agg #[.slice A n c, .slice A2 n2 c2], .slice Ai xs.length ci] w fun e w' => e = .returned (.bool (takesOk n xs)) ∧ Below w.heap.size w w' := by
  have h := fun w (hb : Below B w0 w) (hB : B ≤ w.heap.size) => areValues_calls Ai ci xs B w0 w hb hB hm hx
  replace h := Lib.hid h
  clear hx
  replace hb := Lib.hid hb
  by_cases hl : xs.length = n
  · subst hl
    have hr : takesOk xs.length xs = vals xs := by simp [takesOk]
    generalize vals xs = b at *
    replace hr := Lib.hid hr
    go_enter Try.func41, Try.ntmps41
    go_wp2_with fail
    refine (h.out _ (hb.out.alloc hB _) (by simp; omega)).mono ?_
    rintro e w1 ⟨rfl, h3⟩
    replace h3 := Lib.hid h3
    go_wp2_with fail
    go_ret
    exact ⟨by rw [hr.out]; rfl, below_from h3.out⟩
  · have hr : takesOk n xs = false := by simp [takesOk, hl]
    replace hr := Lib.hid hr
    have hl' : ((xs.length : Int) == (n : Int)) = false := by simp; omega
    replace hl := Lib.hid hl
    go_enter Try.func41, Try.ntmps41
    go_wp2_with fail
    go_ret
    exact ⟨by rw [hr.out]; rfl, below_al (Below.refl _ _) _⟩
theorem vals_iff {xs : List Int} : vals xs = true ↔ ∀ x ∈ xs, 0 ≤ x ∧ x ≤ 96 := by
  unfold vals
  rw [Bool.not_eq_true', List.any_eq_false]
  simp
end Go.Proofs.Ytagmdljdcnmpdaa
