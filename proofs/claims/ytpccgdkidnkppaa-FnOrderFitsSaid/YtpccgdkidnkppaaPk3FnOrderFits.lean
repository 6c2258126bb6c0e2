import Derived.Test.YtpccgdkidnkppaaProg
import Derived.Test.YtpccgdkidnkppaaPk1FnOrderFits
set_option linter.unusedVariables false
set_option linter.unusedSimpArgs false
namespace Go.Proofs.Ytpccgdkidnkppaa
open Go Go.RowKit

theorem isValue_calls (n : Int) (w : World) : Calls Try.prog 153 #[.int .i64 n] w fun e w' => e = .returned (.bool (decide (0 ≤ n ∧ n ≤ 96))) ∧ w = w' := by
  by_cases h : 0 ≤ n <;>
  · go_enter Try.func153, Try.ntmps153
    go_wp2
    go_ret
    refine ⟨?_, rfl⟩
    by_cases h2 : n ≤ 96 <;> simp [h, h2] <;> omega

theorem isKey_calls (n : Int) (w : World) : Calls Try.prog 165 #[.int .i64 n] w fun e w' => e = .returned (.bool (decide (0 ≤ n ∧ n ≤ 9))) ∧ w = w' := by
  by_cases h : 0 ≤ n <;>
  · go_enter Try.func165, Try.ntmps165
    go_wp2
    go_ret
    refine ⟨?_, rfl⟩
    by_cases h2 : n ≤ 9 <;> simp [h, h2] <;> omega

/-- a value of a row, 0 beside it -/
def atK (xs : List Int) (k : Int) : Int := if k < 0 then 0 else xs.getD k.toNat 0

theorem at_calls (A : Option Addr) (c : Nat) (k : Int) (xs : List Int) (B : Nat) (w0 w : World) (hb : Below B w0 w) (hB : B ≤ w.heap.size) (hm : xs.length ≤ maxLen) (hx : IntsAt B w0 A xs) :
    Calls Try.prog 127 #[.slice A xs.length c, .int .i64 k] w fun e w' => e = .returned (.int .i64 (atK xs k)) ∧ w = w' := by
  unfold maxLen at hm
  by_cases h : k < 0
  · go_enter Try.func127, Try.ntmps127
    go_wp2
    go_ret
    exact ⟨by simp [atK, h], rfl⟩
  · by_cases h2 : k < xs.length
    · obtain ⟨i, rfl⟩ := Int.eq_ofNat_of_zero_le (by omega : 0 ≤ k)
      obtain ⟨b, o, rfl, hlt, hc⟩ := hx.at hb hB i (by omega)
      have hr : atK xs i = xs[i]'(by omega) := by unfold atK; rw [if_neg h]; exact getD_at _ _
      replace hr := Lib.hid hr
      clear hx hb
      have hi : i < xs.length := by omega
      go_enter Try.func127, Try.ntmps127
      go_wp2
      go_ret
      exact ⟨by rw [hr.out]; rfl, rfl⟩
    · have hr : atK xs k = 0 := by unfold atK; rw [if_neg h]; exact getD_out _ (by omega)
      replace hr := Lib.hid hr
      go_enter Try.func127, Try.ntmps127
      go_wp2
      go_ret
      exact ⟨by rw [hr.out]; rfl, rfl⟩

theorem has_calls (A A2 : Option Addr) (n c n2 c2 : Nat) (k : Int) (w : World) :
    Calls Try.prog 106 #[.agg #[.slice A n c, .slice A2 n2 c2], .int .i64 k] w fun e w' => e = .returned (.bool (decide (0 ≤ k ∧ k < n))) ∧ Below w.heap.size w w' := by
  by_cases h : 0 ≤ k <;>
  · go_enter Try.func106, Try.ntmps106
    go_wp2
    go_ret
    refine ⟨?_, below_al (Below.refl _ _) _⟩
    by_cases h2 : k < n <;> simp [h, h2] <;> omega

/-- whether a key is made -/
def mkK (made : List Bool) (k : Int) : Bool := if k < 0 then false else made.getD k.toNat false

theorem makes_calls (A A2 : Option Addr) (c n2 c2 : Nat) (k : Int) (made : List Bool) (B : Nat) (w0 w : World) (hb : Below B w0 w) (hB : B ≤ w.heap.size) (hm : made.length ≤ maxLen) (hx : BoolsAt B w0 A made) :
    Calls Try.prog 61 #[.agg #[.slice A made.length c, .slice A2 n2 c2], .int .i64 k] w fun e w' => e = .returned (.bool (mkK made k)) ∧ Below w.heap.size w w' := by
  unfold maxLen at hm
  by_cases h : 0 ≤ k ∧ k < made.length
  · have hd : decide (0 ≤ k ∧ k < made.length) = true := by simp [h]
    obtain ⟨h1, h2⟩ := h
    obtain ⟨i, rfl⟩ := Int.eq_ofNat_of_zero_le h1
    obtain ⟨b, o, rfl, hlt, hc⟩ := hx i (by omega)
    have hc' := (hb.cell hlt).trans hc
    have hr : mkK made i = made[i]'(by omega) := by unfold mkK; rw [if_neg (by omega)]; exact getD_at _ _
    replace hr := Lib.hid hr
    have hlt' : b < w.heap.size := by omega
    have hi : i < made.length := by omega
    clear hx hb hc
    replace hd := Lib.hid hd
    go_enter Try.func61, Try.ntmps61
    go_wp2_with fail
    refine (has_calls _ _ _ _ _ _ _ _).mono ?_
    rintro e w1 ⟨rfl, h3⟩
    rw [hd.out]
    have h4 := bcell h3
    simp at h4
    have x0 : w1.cell? ⟨w.heap.size, 0, none⟩ = some (.slice (some ⟨b, o, none⟩) made.length c) := (h4 _ _ (by omega)).trans (by simp)
    have x1 : w1.cell? ⟨b, o + i, none⟩ = some (.bool made[i]) := (h4 _ _ (by omega)).trans ((cell_al hlt').trans hc')
    clear h4
    replace h3 := Lib.hid h3
    go_wp2_with fail
    go_ret
    exact ⟨by rw [hr.out]; rfl, below_from h3.out⟩
  · have hd : decide (0 ≤ k ∧ k < made.length) = false := by simp [h]
    have hr : mkK made k = false := by
      unfold mkK
      by_cases h0 : k < 0
      · simp [h0]
      · rw [if_neg h0]; exact getD_out _ (by omega)
    replace hd := Lib.hid hd
    replace hr := Lib.hid hr
    go_enter Try.func61, Try.ntmps61
    go_wp2_with fail
    refine (has_calls _ _ _ _ _ _ _ _).mono ?_
    rintro e w1 ⟨rfl, h3⟩
    rw [hd.out]
    go_wp2_with fail
    go_ret
    exact ⟨by rw [hr.out]; rfl, below_from h3⟩

theorem index_calls (A : Option Addr) (c : Nat) (v : Int) (xs : List Int) (B : Nat) (w0 w : World) (hb : Below B w0 w) (hB : B ≤ w.heap.size) (hm : xs.length ≤ maxLen) (hx : IntsAt B w0 A xs) :
    Calls Try.prog 113 #[.slice A xs.length c, .int .i64 v] w fun e w' => e = .returned (.int .i64 (idx (fun x => v == x) xs)) ∧ w = w' := by
  unfold maxLen at hm
  replace hx := Lib.hid hx
  replace hb := Lib.hid hb
  go_enter Try.func113, Try.ntmps113
  go_wp2
  go_loop [5, 8] (fun _ i => ∃ k : Nat, k ≤ xs.length ∧ i = .int .i64 k ∧ Hid (∀ j (hj : j < xs.length), j < k → (v == xs[j]) = false)) (fun _ i => xs.length - (intOf i).toNat)
  case atStart => exact ⟨0, Nat.zero_le _, rfl, Lib.hid (fun j _ h => by omega)⟩
  case round =>
    obtain ⟨k, hk, rfl, hno⟩ := hrel
    by_cases hlt : k < xs.length
    · obtain ⟨b, o, rfl, hbl, hc⟩ := hx.out.at hb.out hB k hlt
      by_cases hv : v = xs[k]
      · have hv' : (v == xs[k]) = true := by simp [hv]
        have hr : idx (fun x => v == x) xs = k := idx_found hlt (fun j hj => hno.out j _ hj) hv'
        replace hr := Lib.hid hr
        replace hv := Lib.hid hv
        go_wp2
        go_ret
        exact ⟨by rw [hr.out]; rfl, rfl⟩
      · have hv' : (v == xs[k]) = false := by simp [hv]
        replace hv := Lib.hid hv
        go_wp2
        go_round
        case rel => exact ⟨k + 1, by omega, by go_num, Lib.hid (fun j hj h => if e : j = k then by subst e; exact hv' else hno.out j hj (by omega))⟩
        case measure => simp [intOf]; omega
    · have hr : idx (fun x => v == x) xs = -1 := idx_none (fun j hj => hno.out j hj (by omega))
      replace hr := Lib.hid hr
      go_wp2
      go_ret
      exact ⟨by rw [hr.out]; rfl, rfl⟩

theorem indexFunc_calls (p : Int → Bool) (g : Nat) (first cap : Array Value) (hg : Enters Try.prog g) (A : Option Addr) (c : Nat) (xs : List Int) (B : Nat) (w0 w : World) (hb : Below B w0 w) (hB : B ≤ w.heap.size) (hm : xs.length ≤ maxLen)
    (hx : IntsAt B w0 A xs)
    (hf : ∀ x w', x ∈ xs → Below w.heap.size w w' → Calls Try.prog g (first ++ #[.int .i64 x] ++ cap) w' (fun e w'' => e = .returned (.bool (p x)) ∧ Below w'.heap.size w' w'')) :
    Calls Try.prog 148 #[.slice A xs.length c, .func (.func g) first cap] w fun e w' => e = .returned (.int .i64 (idx p xs)) ∧ Below w.heap.size w w' := by
  unfold maxLen at hm
  replace hx := Lib.hid hx
  replace hb := Lib.hid hb
  replace hf := Lib.hid hf
  go_enter Try.func148, Try.ntmps148
  go_wp2
  go_loopw [5, 8] (fun _ i wr => ∃ k : Nat, k ≤ xs.length ∧ i = .int .i64 k ∧ Hid (Below w.heap.size w wr) ∧ Hid (∀ j (hj : j < xs.length), j < k → p xs[j] = false)) (fun _ i _ => xs.length - (intOf i).toNat)
  case atStart => exact ⟨0, Nat.zero_le _, rfl, Lib.hid (Below.refl _ _), Lib.hid (fun j _ h => by omega)⟩
  case round =>
    obtain ⟨k, hk, rfl, hw, hno⟩ := hrel
    by_cases hlt : k < xs.length
    · obtain ⟨b, o, rfl, hbl, hc⟩ := hx.out.at (below_up' hb.out hB hw.out) (Nat.le_trans hB hw.out.size) k hlt
      go_wp2_with ((with_reducible refine wpList_call_value (by rfl) (.tmp 11) _ _ (by rfl) g first cap (by with_unfolding_all rfl) hg ?_); refine (hf.out xs[k] _ (List.getElem_mem _) hw.out).mono ?_; rintro e w' ⟨rfl, h3⟩; replace h3 := Lib.hid h3; refine ⟨_, rfl, ?_⟩)
      · have hp : p xs[k] = true := by assumption
        have hr : idx p xs = k := idx_found hlt (fun j hj => hno.out j _ hj) hp
        go_ret
        exact ⟨by rw [hr]; rfl, below_up hw.out h3.out⟩
      · have hp : p xs[k] = false := by assumption
        go_roundw
        case rel => exact ⟨k + 1, by omega, by go_num, Lib.hid (below_up hw.out h3.out), Lib.hid (fun j hj h => if e : j = k then by subst e; exact hp else hno.out j hj (by omega))⟩
        case measure => simp [intOf]; omega
    · have hr : idx p xs = -1 := idx_none (fun j hj => hno.out j hj (by omega))
      replace hr := Lib.hid hr
      go_wp2
      go_ret
      exact ⟨by rw [hr.out]; rfl, hw.out⟩

theorem containsFunc_calls (p : Int → Bool) (g : Nat) (first cap : Array Value) (hg : Enters Try.prog g) (A : Option Addr) (c : Nat) (xs : List Int) (B : Nat) (w0 w : World) (hb : Below B w0 w) (hB : B ≤ w.heap.size) (hm : xs.length ≤ maxLen)
    (hx : IntsAt B w0 A xs)
    (hf : ∀ x w', x ∈ xs → Below w.heap.size w w' → Calls Try.prog g (first ++ #[.int .i64 x] ++ cap) w' (fun e w'' => e = .returned (.bool (p x)) ∧ Below w'.heap.size w' w'')) :
    Calls Try.prog 119 #[.slice A xs.length c, .func (.func g) first cap] w fun e w' => e = .returned (.bool (xs.any p)) ∧ Below w.heap.size w w' := by
  have h := indexFunc_calls p g first cap hg A c xs B w0 w hb hB hm hx hf
  replace h := Lib.hid h
  clear hx hb hf
  go_enter Try.func119, Try.ntmps119
  go_wp2_with fail
  refine h.out.mono ?_
  rintro e w1 ⟨rfl, h3⟩
  replace h3 := Lib.hid h3
  have hr := idx_any p xs
  generalize idx p xs = n at *
  replace hr := Lib.hid hr
  go_wp2_with fail
  go_ret
  exact ⟨by rw [← hr.out]; rfl, h3.out⟩

/-- whether all are values -/
def vals (xs : List Int) : Bool := !xs.any fun n => !decide (0 ≤ n ∧ n ≤ 96)

theorem areValues1_calls (n : Int) (w : World) : Calls Try.prog 152 #[.int .i64 n] w fun e w' => e = .returned (.bool (!decide (0 ≤ n ∧ n ≤ 96))) ∧ Below w.heap.size w w' := by
  go_enter Try.func152, Try.ntmps152
  go_wp2_with fail
  refine (isValue_calls _ _).mono ?_
  rintro e w1 ⟨rfl, rfl⟩
  generalize hd : decide (0 ≤ n ∧ n ≤ 96) = d
  replace hd := Lib.hid hd
  go_wp2_with fail
  go_ret
  exact ⟨by rw [hd.out]; rfl, Below.refl _ _⟩

theorem areValues_calls (A : Option Addr) (c : Nat) (xs : List Int) (B : Nat) (w0 w : World) (hb : Below B w0 w) (hB : B ≤ w.heap.size) (hm : xs.length ≤ maxLen) (hx : IntsAt B w0 A xs) :
    Calls Try.prog 126 #[.slice A xs.length c] w fun e w' => e = .returned (.bool (vals xs)) ∧ Below w.heap.size w w' := by
  have h := containsFunc_calls (fun n => !decide (0 ≤ n ∧ n ≤ 96)) 152 #[] #[] (enters_of Try.func152 (by kernel_rfl) rfl) A c xs B w0 w hb hB hm hx (fun x w' _ _ => by
    simpa using areValues1_calls x w')
  replace h := Lib.hid h
  clear hx hb
  go_enter Try.func126, Try.ntmps126
  go_wp2_with fail
  refine h.out.mono ?_
  rintro e w1 ⟨rfl, h3⟩
  replace h3 := Lib.hid h3
  have hr : vals xs = !xs.any (fun n => !decide (0 ≤ n ∧ n ≤ 96)) := rfl
  generalize xs.any (fun n => !decide (0 ≤ n ∧ n ≤ 96)) = n at *
  replace hr := Lib.hid hr
  go_wp2_with fail
  go_ret
  exact ⟨by rw [hr.out]; rfl, h3.out⟩

def valsOk (xs : List Int) : Bool := decide (xs.length ≤ 10) && vals xs

theorem valuesOk_calls (A : Option Addr) (c : Nat) (xs : List Int) (B : Nat) (w0 w : World) (hb : Below B w0 w) (hB : B ≤ w.heap.size) (hm : xs.length ≤ maxLen) (hx : IntsAt B w0 A xs) :
    Calls Try.prog 131 #[.slice A xs.length c] w fun e w' => e = .returned (.bool (valsOk xs)) ∧ Below w.heap.size w w' := by
  have h := areValues_calls A c xs B w0 w hb hB hm hx
  replace h := Lib.hid h
  clear hx hb
  by_cases hl : xs.length ≤ 10
  · have hr : valsOk xs = vals xs := by simp [valsOk, hl]
    generalize vals xs = b at *
    replace hr := Lib.hid hr
    go_enter Try.func131, Try.ntmps131
    go_wp2_with fail
    refine h.out.mono ?_
    rintro e w1 ⟨rfl, h3⟩
    replace h3 := Lib.hid h3
    go_wp2_with fail
    go_ret
    exact ⟨by rw [hr.out]; rfl, h3.out⟩
  · have hr : valsOk xs = false := by simp [valsOk, hl]
    replace hr := Lib.hid hr
    go_enter Try.func131, Try.ntmps131
    go_wp2_with fail
    go_ret
    exact ⟨by rw [hr.out]; rfl, Below.refl _ _⟩

/-- whether inputs are ones of a sheet with n keys -/
def takesOk (n : Nat) (xs : List Int) : Bool := decide (xs.length = n) && vals xs

theorem takes_calls (A A2 Ai : Option Addr) (n c n2 c2 ci : Nat) (xs : List Int) (B : Nat) (w0 w : World) (hb : Below B w0 w) (hB : B ≤ w.heap.size) (hm : xs.length ≤ maxLen) (hx : IntsAt B w0 Ai xs) :
    Calls Try.prog 81 #[.agg #[.slice A n c, .slice A2 n2 c2], .slice Ai xs.length ci] w fun e w' => e = .returned (.bool (takesOk n xs)) ∧ Below w.heap.size w w' := by
  have h := fun w (hb : Below B w0 w) (hB : B ≤ w.heap.size) => areValues_calls Ai ci xs B w0 w hb hB hm hx
  replace h := Lib.hid h
  clear hx
  replace hb := Lib.hid hb
  by_cases hl : xs.length = n
  · subst hl
    have hr : takesOk xs.length xs = vals xs := by simp [takesOk]
    generalize vals xs = b at *
    replace hr := Lib.hid hr
    go_enter Try.func81, Try.ntmps81
    go_wp2_with fail
    refine (h.out _ (hb.out.alloc hB _) (by simp; omega)).mono ?_
    rintro e w1 ⟨rfl, h3⟩
    replace h3 := Lib.hid h3
    go_wp2_with fail
    go_ret
    exact ⟨by rw [hr.out]; rfl, below_from h3.out⟩
  · have hr : takesOk n xs = false := by simp [takesOk, hl]
    replace hr := Lib.hid hr
    have hl' : ((xs.length : Int) == (n : Int)) = false := by simp; omega
    replace hl := Lib.hid hl
    go_enter Try.func81, Try.ntmps81
    go_wp2_with fail
    go_ret
    exact ⟨by rw [hr.out]; rfl, below_al (Below.refl _ _) _⟩
theorem vals_iff {xs : List Int} : vals xs = true ↔ ∀ x ∈ xs, 0 ≤ x ∧ x ≤ 96 := by
  unfold vals
  rw [Bool.not_eq_true', List.any_eq_false]
  simp
end Go.Proofs.Ytpccgdkidnkppaa

set_option linter.unusedVariables false
set_option linter.unusedSimpArgs false
namespace Go.Proofs.Ytpccgdkidnkppaa
open Go Go.RowKit

set_option maxHeartbeats 1000000 in
theorem fits_calls (k n : Int) (A : Option Addr) (len c : Nat) (w : World) :
    Calls Try.prog 162 #[.agg #[.int .i64 k, .int .i64 n, .slice A len c]] w fun e w' => e = .returned (.bool (fitsN k n len)) ∧ Below w.heap.size w w' := by
  by_cases k0 : k = 0
  · subst k0
    by_cases hv : 0 ≤ n ∧ n ≤ 96
    · have hd : decide (0 ≤ n ∧ n ≤ 96) = true := by simp [hv]
      replace hd := Lib.hid hd
      by_cases hl : len = 0
      · have hr : fitsN 0 n len = true := by simp [fitsN, hv, hl]
        replace hr := Lib.hid hr
        subst hl
        go_enter Try.func162, Try.ntmps162
        go_wp2_with fail
        refine (isValue_calls _ _).mono ?_
        rintro e w1 ⟨rfl, rfl⟩
        rw [hd.out]
        go_wp2_with fail
        go_ret
        exact ⟨by rw [hr.out]; rfl, below_al (Below.refl _ _) _⟩
      · have hr : fitsN 0 n len = false := by simp [fitsN, hl]
        replace hr := Lib.hid hr
        have hl' : ((len : Int) == 0) = false := by simp; omega
        replace hl := Lib.hid hl
        go_enter Try.func162, Try.ntmps162
        go_wp2_with fail
        refine (isValue_calls _ _).mono ?_
        rintro e w1 ⟨rfl, rfl⟩
        rw [hd.out]
        go_wp2_with fail
        go_ret
        exact ⟨by rw [hr.out]; rfl, below_al (Below.refl _ _) _⟩
    · have hr : fitsN 0 n len = false := by simp [fitsN]; omega
      have hd : decide (0 ≤ n ∧ n ≤ 96) = false := by simp [hv]
      replace hd := Lib.hid hd
      replace hr := Lib.hid hr
      clear hv
      go_enter Try.func162, Try.ntmps162
      go_wp2_with fail
      refine (isValue_calls _ _).mono ?_
      rintro e w1 ⟨rfl, rfl⟩
      rw [hd.out]
      go_wp2_with fail
      go_ret
      exact ⟨by rw [hr.out]; rfl, below_al (Below.refl _ _) _⟩
  by_cases k1 : k = 1
  · subst k1
    by_cases hv : 0 ≤ n ∧ n ≤ 9
    · have hd : decide (0 ≤ n ∧ n ≤ 9) = true := by simp [hv]
      replace hd := Lib.hid hd
      by_cases hl : len = 0
      · have hr : fitsN 1 n len = true := by simp [fitsN, hv, hl]
        replace hr := Lib.hid hr
        subst hl
        go_enter Try.func162, Try.ntmps162
        go_wp2_with fail
        refine (isKey_calls _ _).mono ?_
        rintro e w1 ⟨rfl, rfl⟩
        rw [hd.out]
        go_wp2_with fail
        go_ret
        exact ⟨by rw [hr.out]; rfl, below_al (Below.refl _ _) _⟩
      · have hr : fitsN 1 n len = false := by simp [fitsN, hl]
        replace hr := Lib.hid hr
        have hl' : ((len : Int) == 0) = false := by simp; omega
        replace hl := Lib.hid hl
        go_enter Try.func162, Try.ntmps162
        go_wp2_with fail
        refine (isKey_calls _ _).mono ?_
        rintro e w1 ⟨rfl, rfl⟩
        rw [hd.out]
        go_wp2_with fail
        go_ret
        exact ⟨by rw [hr.out]; rfl, below_al (Below.refl _ _) _⟩
    · have hr : fitsN 1 n len = false := by simp [fitsN]; omega
      have hd : decide (0 ≤ n ∧ n ≤ 9) = false := by simp [hv]
      replace hd := Lib.hid hd
      replace hr := Lib.hid hr
      clear hv
      go_enter Try.func162, Try.ntmps162
      go_wp2_with fail
      refine (isKey_calls _ _).mono ?_
      rintro e w1 ⟨rfl, rfl⟩
      rw [hd.out]
      go_wp2_with fail
      go_ret
      exact ⟨by rw [hr.out]; rfl, below_al (Below.refl _ _) _⟩
  by_cases k5 : k = 5
  · subst k5
    by_cases hv : 0 ≤ n ∧ n ≤ 9
    · have hd : decide (0 ≤ n ∧ n ≤ 9) = true := by simp [hv]
      replace hd := Lib.hid hd
      by_cases hl : len = 1
      · have hr : fitsN 5 n len = true := by simp [fitsN, hv, hl]
        replace hr := Lib.hid hr
        subst hl
        go_enter Try.func162, Try.ntmps162
        go_wp2_with fail
        refine (isKey_calls _ _).mono ?_
        rintro e w1 ⟨rfl, rfl⟩
        rw [hd.out]
        go_wp2_with fail
        go_ret
        exact ⟨by rw [hr.out]; rfl, below_al (Below.refl _ _) _⟩
      · have hr : fitsN 5 n len = false := by simp [fitsN, hl]
        replace hr := Lib.hid hr
        have hl' : ((len : Int) == 1) = false := by simp; omega
        replace hl := Lib.hid hl
        go_enter Try.func162, Try.ntmps162
        go_wp2_with fail
        refine (isKey_calls _ _).mono ?_
        rintro e w1 ⟨rfl, rfl⟩
        rw [hd.out]
        go_wp2_with fail
        go_ret
        exact ⟨by rw [hr.out]; rfl, below_al (Below.refl _ _) _⟩
    · have hr : fitsN 5 n len = false := by simp [fitsN]; omega
      have hd : decide (0 ≤ n ∧ n ≤ 9) = false := by simp [hv]
      replace hd := Lib.hid hd
      replace hr := Lib.hid hr
      clear hv
      go_enter Try.func162, Try.ntmps162
      go_wp2_with fail
      refine (isKey_calls _ _).mono ?_
      rintro e w1 ⟨rfl, rfl⟩
      rw [hd.out]
      go_wp2_with fail
      go_ret
      exact ⟨by rw [hr.out]; rfl, below_al (Below.refl _ _) _⟩
  by_cases k2 : k = 2
  · subst k2
    by_cases hv : n = 0
    · subst hv
      by_cases hl : len = 2
      · have hr : fitsN 2 0 len = true := by simp [fitsN, hl]
        replace hr := Lib.hid hr
        subst hl
        go_enter Try.func162, Try.ntmps162
        go_wp2_with fail
        go_ret
        exact ⟨by rw [hr.out]; rfl, below_al (Below.refl _ _) _⟩
      · have hr : fitsN 2 0 len = false := by simp [fitsN, hl]
        replace hr := Lib.hid hr
        have hl' : ((len : Int) == 2) = false := by simp; omega
        replace hl := Lib.hid hl
        go_enter Try.func162, Try.ntmps162
        go_wp2_with fail
        go_ret
        exact ⟨by rw [hr.out]; rfl, below_al (Below.refl _ _) _⟩
    · have hr : fitsN 2 n len = false := by simp [fitsN, hv]
      have hd : (n == 0) = false := by simp [hv]
      replace hr := Lib.hid hr
      replace hv := Lib.hid hv
      go_enter Try.func162, Try.ntmps162
      go_wp2_with fail
      go_ret
      exact ⟨by rw [hr.out]; rfl, below_al (Below.refl _ _) _⟩
  by_cases k3 : k = 3
  · subst k3
    by_cases hv : n = 0
    · subst hv
      by_cases hl : len = 2
      · have hr : fitsN 3 0 len = true := by simp [fitsN, hl]
        replace hr := Lib.hid hr
        subst hl
        go_enter Try.func162, Try.ntmps162
        go_wp2_with fail
        go_ret
        exact ⟨by rw [hr.out]; rfl, below_al (Below.refl _ _) _⟩
      · have hr : fitsN 3 0 len = false := by simp [fitsN, hl]
        replace hr := Lib.hid hr
        have hl' : ((len : Int) == 2) = false := by simp; omega
        replace hl := Lib.hid hl
        go_enter Try.func162, Try.ntmps162
        go_wp2_with fail
        go_ret
        exact ⟨by rw [hr.out]; rfl, below_al (Below.refl _ _) _⟩
    · have hr : fitsN 3 n len = false := by simp [fitsN, hv]
      have hd : (n == 0) = false := by simp [hv]
      replace hr := Lib.hid hr
      replace hv := Lib.hid hv
      go_enter Try.func162, Try.ntmps162
      go_wp2_with fail
      go_ret
      exact ⟨by rw [hr.out]; rfl, below_al (Below.refl _ _) _⟩
  by_cases k4 : k = 4
  · subst k4
    by_cases hv : n = 0
    · subst hv
      by_cases hl : len = 3
      · have hr : fitsN 4 0 len = true := by simp [fitsN, hl]
        replace hr := Lib.hid hr
        subst hl
        go_enter Try.func162, Try.ntmps162
        go_wp2_with fail
        go_ret
        exact ⟨by rw [hr.out]; rfl, below_al (Below.refl _ _) _⟩
      · have hr : fitsN 4 0 len = false := by simp [fitsN, hl]
        replace hr := Lib.hid hr
        have hl' : ((len : Int) == 3) = false := by simp; omega
        replace hl := Lib.hid hl
        go_enter Try.func162, Try.ntmps162
        go_wp2_with fail
        go_ret
        exact ⟨by rw [hr.out]; rfl, below_al (Below.refl _ _) _⟩
    · have hr : fitsN 4 n len = false := by simp [fitsN, hv]
      have hd : (n == 0) = false := by simp [hv]
      replace hr := Lib.hid hr
      replace hv := Lib.hid hv
      go_enter Try.func162, Try.ntmps162
      go_wp2_with fail
      go_ret
      exact ⟨by rw [hr.out]; rfl, below_al (Below.refl _ _) _⟩
  have hr : fitsN k n len = false := by simp [fitsN, *]
  have e0 : (k == 0) = false := by simp [k0]
  have e1 : (k == 1) = false := by simp [k1]
  have e2 : (k == 2) = false := by simp [k2]
  have e3 : (k == 3) = false := by simp [k3]
  have e4 : (k == 4) = false := by simp [k4]
  have e5 : (k == 5) = false := by simp [k5]
  replace k0 := Lib.hid k0
  replace k1 := Lib.hid k1
  replace k2 := Lib.hid k2
  replace k3 := Lib.hid k3
  replace k4 := Lib.hid k4
  replace k5 := Lib.hid k5
  replace hr := Lib.hid hr
  go_enter Try.func162, Try.ntmps162
  go_wp2_with fail
  go_ret
  exact ⟨by rw [hr.out]; rfl, below_al (Below.refl _ _) _⟩


set_option maxHeartbeats 1000000 in
theorem countTo_calls : ∀ (t : Task) (room : Int) (A : Option Addr) (c B : Nat) (w0 w : World), room ≤ 15 → -1000 ≤ room → Below B w0 w → B ≤ w.heap.size → t.parts.length ≤ c → c ≤ maxLen → PartsIs B w0 A 0 t.parts →
    Calls Try.prog 163 #[.agg #[.int .i64 t.kind, .int .i64 t.n, .slice A t.parts.length c], .int .i64 room] w fun e w' => e = .returned (.int .i64 (cntTo t room)) ∧ Below w.heap.size w w' := by
  refine Task.ind ?_
  intro k n ps ih room A c B w0 w hr1 hr2 hb hB hc hm hp
  simp only [Task.kind, Task.n, Task.parts] at hc hp ⊢
  unfold maxLen at hm
  replace ih := Lib.hid ih
  replace hb := Lib.hid hb
  replace hp := Lib.hid hp
  by_cases h1 : room < 1
  · have hr : cntTo (.mk k n ps) room = 16 := by rw [cntTo, if_pos (.inl h1)]
    replace hr := Lib.hid hr
    go_enter Try.func163, Try.ntmps163
    go_wp2_with fail
    go_ret
    exact ⟨by rw [hr.out]; rfl, below_al (Below.refl _ _) _⟩
  by_cases h2 : fitsN k n ps.length = false
  · have hr : cntTo (.mk k n ps) room = 16 := by rw [cntTo, if_pos (.inr h2)]
    replace hr := Lib.hid hr
    replace h2 := Lib.hid h2
    go_enter Try.func163, Try.ntmps163
    go_wp2_with fail
    refine (fits_calls _ _ _ _ _ _).mono ?_
    rintro e w1 ⟨rfl, h3⟩
    rw [h2.out]
    go_wp2_with fail
    go_ret
    exact ⟨by rw [hr.out]; rfl, below_from h3⟩
  have hr : cntTo (.mk k n ps) room = cntToL ps room 1 := by rw [cntTo, if_neg (by simp [h1, h2])]
  replace hr := Lib.hid hr
  simp only [Bool.not_eq_false] at h2
  replace h2 := Lib.hid h2
  go_enter Try.func163, Try.ntmps163
  go_wp2_with fail
  refine (fits_calls _ _ _ _ _ _).mono ?_
  rintro e w1 ⟨rfl, h3⟩
  rw [h2.out]
  have h4 := bcell h3
  simp at h4
  have x2 : w1.cell? ⟨w.heap.size, 2, none⟩ = some (.slice A ps.length c) := (h4 _ _ (by omega)).trans (by simp)
  clear h4
  have hw1 := below_from h3
  replace hw1 := Lib.hid hw1
  clear h3
  go_wp2_with fail
  go_loopw [5, 18] (fun m i wr => ∃ (j : Nat) (x : Int), j ≤ ps.length ∧ i = .int .i64 j ∧ m = .int .i64 x ∧ 1 ≤ x ∧ x ≤ 1000 ∧ Hid (Below w.heap.size w wr) ∧ Hid (cntToL ps room 1 = cntToL (ps.drop j) room x)) (fun _ i _ => ps.length - (intOf i).toNat)
  case atStart => exact ⟨0, 1, Nat.zero_le _, rfl, rfl, by omega, by omega, hw1, Lib.hid rfl⟩
  case round =>
    obtain ⟨j, x, hj, rfl, rfl, hx1, hx2, hw, he⟩ := hrel
    by_cases hlt : j < ps.length
    · obtain ⟨b, o, A', c', rfl, hbl, y0, y1, y2, hc', hm', hp'⟩ := hp.out.at (below_up' hb.out hB hw.out) j hlt
      have hbl' : b < wr.heap.size := by have := hw.out.size; omega
      have hd : ps.drop j = ps[j] :: ps.drop (j + 1) := List.drop_eq_getElem_cons hlt
      rw [hd] at he
      have he2 := he.out
      rw [cntToL] at he2
      replace hd := Lib.hid hd
      clear he
      by_cases hx : x > room
      · rw [if_pos hx] at he2
        replace he2 := Lib.hid he2
        go_wp2_with fail
        go_ret
        exact ⟨by rw [hr.out, he2.out]; rfl, below_al hw.out _⟩
      · rw [if_neg hx] at he2
        have hbd := cntTo_bound ps[j] (room - x) (by omega)
        replace he2 := Lib.hid he2
        go_wp2_with fail
        refine (ih.out ps[j] (List.getElem_mem _) (room - x) A' c' B w0 _ (by omega) (by omega) (below_al' (below_up' hb.out hB hw.out) _ (by have := hw.out.size; omega)) (by have := hw.out.size; simp; omega) hc' hm' hp').mono ?_
        rintro e w2 ⟨rfl, h5⟩
        replace h5 := Lib.hid h5
        have hb5 : cntTo ps[j] (room - x) ≤ 300 := by omega
        have hb6 : 1 ≤ cntTo ps[j] (room - x) := hbd.1
        clear hbd y0 y1 y2
        generalize cntTo ps[j] (room - x) = q at *
        go_wp2_with fail
        go_roundw
        case rel => exact ⟨j + 1, x + q, by omega, by go_num, rfl, by omega, by omega, Lib.hid (below_up hw.out (below_from h5.out)), he2⟩
        case measure => simp [intOf]; omega
    · have hd : ps.drop j = [] := List.drop_eq_nil_of_le (by omega)
      rw [hd, cntToL] at he
      replace hd := Lib.hid hd
      go_wp2_with fail
      go_ret
      exact ⟨by rw [hr.out, he.out]; rfl, hw.out⟩

set_option maxHeartbeats 1000000 in
theorem count_calls (t : Task) (A : Option Addr) (c B : Nat) (w0 w : World) (hb : Below B w0 w) (hB : B ≤ w.heap.size) (hc : t.parts.length ≤ c) (hm : c ≤ maxLen) (hp : PartsIs B w0 A 0 t.parts) :
    Calls Try.prog 151 #[.agg #[.int .i64 t.kind, .int .i64 t.n, .slice A t.parts.length c]] w fun e w' => e = .returned (.int .i64 (cnt t)) ∧ Below w.heap.size w w' := by
  obtain ⟨k, n, ps⟩ := t
  simp only [Task.kind, Task.n, Task.parts] at hc hp ⊢
  unfold maxLen at hm
  replace hb := Lib.hid hb
  replace hp := Lib.hid hp
  by_cases h2 : fitsN k n ps.length = false
  · have hr : cnt (.mk k n ps) = 16 := by rw [cnt, if_pos h2]
    replace hr := Lib.hid hr
    replace h2 := Lib.hid h2
    go_enter Try.func151, Try.ntmps151
    go_wp2_with fail
    refine (fits_calls _ _ _ _ _ _).mono ?_
    rintro e w1 ⟨rfl, h3⟩
    rw [h2.out]
    go_wp2_with fail
    go_ret
    exact ⟨by rw [hr.out]; rfl, below_from h3⟩
  have hr : cnt (.mk k n ps) = cntL ps 1 := by rw [cnt, if_neg h2]
  replace hr := Lib.hid hr
  simp only [Bool.not_eq_false] at h2
  replace h2 := Lib.hid h2
  go_enter Try.func151, Try.ntmps151
  go_wp2_with fail
  refine (fits_calls _ _ _ _ _ _).mono ?_
  rintro e w1 ⟨rfl, h3⟩
  rw [h2.out]
  have h4 := bcell h3
  simp at h4
  have x2 : w1.cell? ⟨w.heap.size, 2, none⟩ = some (.slice A ps.length c) := (h4 _ _ (by omega)).trans (by simp)
  clear h4
  have hw1 := below_from h3
  replace hw1 := Lib.hid hw1
  clear h3
  go_wp2_with fail
  go_loopw [3, 12] (fun m i wr => ∃ (j : Nat) (x : Int), j ≤ ps.length ∧ i = .int .i64 j ∧ m = .int .i64 x ∧ 1 ≤ x ∧ x ≤ 1000 ∧ Hid (Below w.heap.size w wr) ∧ Hid (cntL ps 1 = cntL (ps.drop j) x)) (fun _ i _ => ps.length - (intOf i).toNat)
  case atStart => exact ⟨0, 1, Nat.zero_le _, rfl, rfl, by omega, by omega, hw1, Lib.hid rfl⟩
  case round =>
    obtain ⟨j, x, hj, rfl, rfl, hx1, hx2, hw, he⟩ := hrel
    by_cases hlt : j < ps.length
    · obtain ⟨b, o, A', c', rfl, hbl, y0, y1, y2, hc', hm', hp'⟩ := hp.out.at (below_up' hb.out hB hw.out) j hlt
      have hbl' : b < wr.heap.size := by have := hw.out.size; omega
      have hd : ps.drop j = ps[j] :: ps.drop (j + 1) := List.drop_eq_getElem_cons hlt
      rw [hd] at he
      have he2 := he.out
      rw [cntL] at he2
      replace hd := Lib.hid hd
      clear he
      by_cases hx : x > 15
      · rw [if_pos hx] at he2
        replace he2 := Lib.hid he2
        go_wp2_with fail
        go_ret
        exact ⟨by rw [hr.out, he2.out]; rfl, below_al hw.out _⟩
      · rw [if_neg hx] at he2
        have hbd := cntTo_bound ps[j] (15 - x) (by omega)
        replace he2 := Lib.hid he2
        go_wp2_with fail
        refine (countTo_calls ps[j] (15 - x) A' c' B w0 _ (by omega) (by omega) (below_al' (below_up' hb.out hB hw.out) _ (by have := hw.out.size; omega)) (by have := hw.out.size; simp; omega) hc' hm' hp').mono ?_
        rintro e w2 ⟨rfl, h5⟩
        replace h5 := Lib.hid h5
        have hb5 : cntTo ps[j] (15 - x) ≤ 300 := by omega
        have hb6 : 1 ≤ cntTo ps[j] (15 - x) := hbd.1
        clear hbd y0 y1 y2
        generalize cntTo ps[j] (15 - x) = q at *
        go_wp2_with fail
        go_roundw
        case rel => exact ⟨j + 1, x + q, by omega, by go_num, rfl, by omega, by omega, Lib.hid (below_up hw.out (below_from h5.out)), he2⟩
        case measure => simp [intOf]; omega
    · have hd : ps.drop j = [] := List.drop_eq_nil_of_le (by omega)
      rw [hd, cntL] at he
      replace hd := Lib.hid hd
      go_wp2_with fail
      go_ret
      exact ⟨by rw [hr.out, he.out]; rfl, hw.out⟩

theorem taskOk_calls (t : Task) (A : Option Addr) (c B : Nat) (w0 w : World) (hb : Below B w0 w) (hB : B ≤ w.heap.size) (hc : t.parts.length ≤ c) (hm : c ≤ maxLen) (hp : PartsIs B w0 A 0 t.parts) :
    Calls Try.prog 125 #[.agg #[.int .i64 t.kind, .int .i64 t.n, .slice A t.parts.length c]] w fun e w' => e = .returned (.bool (okT t)) ∧ Below w.heap.size w w' := by
  have h := fun w1 (hb1 : Below B w0 w1) (hB1 : B ≤ w1.heap.size) => count_calls t A c B w0 w1 hb1 hB1 hc hm hp
  have hr := cnt_okT t
  replace h := Lib.hid h
  replace hr := Lib.hid hr
  replace hb := Lib.hid hb
  clear hp
  go_enter Try.func125, Try.ntmps125
  go_wp2_with fail
  refine (h.out _ (below_al' hb.out _ hB) (by simp; omega)).mono ?_
  rintro e w1 ⟨rfl, h3⟩
  replace h3 := Lib.hid h3
  go_wp2_with fail
  go_ret
  exact ⟨by rw [← hr.out]; rfl, below_from h3.out⟩
end Go.Proofs.Ytpccgdkidnkppaa

set_option linter.unusedVariables false
set_option linter.unusedSimpArgs false
namespace Go.Proofs.Ytpccgdkidnkppaa
open Go Go.RowKit

/-- the post of a call that gives an int and a truth, and leaves a state -/
def Gives {σ : Type} (I : σ → World → (Nat → Prop) → Prop) (F : Nat → Prop) (w : World) (r : (Int × Bool) × σ) (e : Ending) (w' : World) : Prop :=
  e = .returned (.tuple #[.int .i64 r.1.1, .bool r.1.2]) ∧ 0 ≤ r.1.1 ∧ r.1.1 ≤ 96 ∧ ∃ F', I r.2 w' F' ∧ Turn F F' w w'

/-- what a state's predicate is to keep -/
structure Holds {σ : Type} (I : σ → World → (Nat → Prop) → Prop) (B : Nat) (w0 : World) : Prop where
  old : ∀ s w F, I s w F → Below B w0 w ∧ B ≤ w.heap.size
  own : ∀ s w F, I s w F → ∀ i, F i → B ≤ i ∧ i < w.heap.size
  alloc : ∀ s w F o, I s w F → I s (w.alloc o) F

theorem mul_bound {x y : Int} (a : 0 ≤ x) (b : x ≤ 96) (c : 0 ≤ y) (d : y ≤ 96) : 0 ≤ x * y ∧ x * y ≤ 9216 :=
  ⟨Int.mul_nonneg a c, by have := Int.mul_le_mul b d c (by omega); omega⟩

/-- how often a task may fetch -/
def Tk.fets : Tk → Nat
  | .num _ => 0
  | .get _ => 1
  | .add a b => a.fets + b.fets
  | .mul a b => a.fets + b.fets
  | .cond a b d => a.fets + b.fets + d.fets
  | .ix _ a => a.fets + 1

set_option maxHeartbeats 1000000 in
/-- a task that is run with a fetch that keeps I; the number says how many fetches are left -/
theorem run_callsN {σ : Type} (I : Nat → σ → World → (Nat → Prop) → Prop) (f : σ → Int → (Int × Bool) × σ) (g : Nat) (first cap : Array Value) (B : Nat) (w0 : World) (hg : Enters Try.prog g)
    (hI : ∀ n, Holds (I n) B w0) (hmono : ∀ n s w F, I (n + 1) s w F → I n s w F)
    (hf : ∀ n s k w F, I (n + 1) s w F → 0 ≤ k → k ≤ 9 → Calls Try.prog g (first ++ #[.int .i64 k] ++ cap) w (Gives (I n) F w (f s k))) :
    ∀ (t : Tk) (u : Nat) (A : Option Addr) (c : Nat) (s : σ) (w : World) (F : Nat → Prop), t.ok → I (u + t.fets) s w F → t.enc.parts.length ≤ c → PartsIs B w0 A 0 t.enc.parts →
      Calls Try.prog 128 #[.agg #[.int .i64 t.enc.kind, .int .i64 t.enc.n, .slice A t.enc.parts.length c], .func (.func g) first cap] w (Gives (I u) F w (t.run f s)) := by
  have hdown : ∀ m n s w F, I (n + m) s w F → I n s w F := by
    intro m
    induction m with
    | zero => intro n s w F h; exact h
    | succ m ih => intro n s w F h; exact ih n s w F (hmono _ s w F h)
  intro t
  replace hI := Lib.hid hI
  replace hf := Lib.hid hf
  replace hdown := Lib.hid hdown
  clear hmono
  induction t with
  | num x =>
    intro u A c s w F hok hs hc hp
    replace hs := Lib.hid hs
    simp only [Tk.enc, Task.kind, Task.n, Task.parts, Tk.ok] at hok hc hp ⊢
    go_enter Try.func128, Try.ntmps128
    go_wp2_with fail
    go_ret2
    exact ⟨rfl, hok.1, hok.2, F, (hI.out _).alloc _ _ _ _ hs.out, (Turn.refl F w).alloc _⟩
  | get k =>
    intro u A c s w F hok hs hc hp
    replace hs := Lib.hid hs
    simp only [Tk.enc, Task.kind, Task.n, Task.parts, Tk.ok] at hok hc hp ⊢
    go_enter Try.func128, Try.ntmps128
    go_wp2_with ((with_reducible refine wpList_call_value (by rfl) (.tmp 17) _ _ (by rfl) g first cap (by with_unfolding_all rfl) hg ?_); refine (hf.out u s k _ F ((hI.out _).alloc _ _ _ _ hs.out) hok.1 hok.2).mono ?_; rintro e w' ⟨rfl, h1, h2, F', h3, h4⟩; replace h3 := Lib.hid h3; refine ⟨_, rfl, ?_⟩)
    go_ret2
    exact ⟨rfl, h1, h2, F', h3.out, ((Turn.refl F w).alloc _).trans h4⟩
  | add a b iha ihb =>
    intro u A c s w F hok hs hc hp
    replace hs : I (u + b.fets + a.fets) s w F := by
      have e : u + (a.fets + b.fets) = u + b.fets + a.fets := by omega
      exact e ▸ hs
    replace hs := Lib.hid hs
    replace iha := Lib.hid iha
    replace ihb := Lib.hid ihb
    simp only [Tk.enc, Task.kind, Task.n, Task.parts, Tk.ok] at hok hc hp ⊢
    obtain ⟨b0, o0, A0, c0, rfl, hb0, hx0, hy0, hz0, hc0, hm0, hp0⟩ := hp.at ((hI.out _).old _ _ _ hs.out).1 0 (by simp)
    have hlt : b0 < w.heap.size := Nat.lt_of_lt_of_le hb0 ((hI.out _).old _ _ _ hs.out).2
    simp only [List.getElem_cons_zero, Nat.zero_mul, Nat.add_zero] at hx0 hy0 hz0 hc0 hp0
    have hlen : ([a.enc, b.enc] : List Task).length = 2 := rfl
    simp only [hlen] at hc ⊢
    clear hlen
    go_enter Try.func128, Try.ntmps128
    go_wp2_with fail
    refine (iha.out (u + b.fets) A0 c0 s _ F hok.1 ((hI.out _).alloc _ _ _ _ hs.out) hc0 hp0).mono ?_
    rintro e w1 ⟨rfl, v1, v2, F1, h3, h4⟩
    replace h3 := Lib.hid h3
    have t1 := ((Turn.refl F w).alloc _).trans h4
    have hn : ¬ F w.heap.size := fun h => by have := ((hI.out _).own _ _ _ hs.out _ h).2; omega
    have hn1 : ¬ F1 w.heap.size := fun h => (h4.fresh _ h).elim hn (fun h => by simp at h; omega)
    have bx0 : w1.cell? ⟨w.heap.size, 0, none⟩ = some (.int .i64 2) := (h4.cell 0 (by simp) hn).trans (by simp)
    have bx1 : w1.cell? ⟨w.heap.size, 1, none⟩ = some (.int .i64 0) := (h4.cell 1 (by simp) hn).trans (by simp)
    have bx2 : w1.cell? ⟨w.heap.size, 2, none⟩ = some (.slice (some ⟨b0, o0, none⟩) 2 c) := (h4.cell 2 (by simp) hn).trans (by simp)
    have hlt1 : b0 < w1.heap.size := Nat.lt_of_lt_of_le hlt t1.size
    obtain ⟨b1, o1, A1, c1, e1, _, hx1, hy1, hz1, hc1, hm1, hp1⟩ := hp.at ((hI.out _).old _ _ _ h3.out).1 1 (by simp)
    simp only [Option.some.injEq, Addr.mk.injEq, and_true] at e1
    obtain ⟨rfl, rfl⟩ := e1
    simp only [List.getElem_cons_zero, List.getElem_cons_succ, Nat.one_mul, Nat.reduceMul] at hx1 hy1 hz1 hc1 hp1
    replace t1 := Lib.hid t1
    have szl : w.heap.size < w1.heap.size := by have := h4.size; simp at this; omega
    replace hn := Lib.hid hn
    replace hn1 := Lib.hid hn1
    clear h4 hx0 hy0 hz0 hlt
    cases hr : (a.run f s).1.2 with
    | false =>
      go_wp2_with fail
      go_ret2
      exact ⟨by simp [Tk.run, hr], by simp [Tk.run, hr], by simp [Tk.run, hr], F1, by simpa [Tk.run, hr] using hdown.out (b.fets) u _ _ _ (by rw [show u + (b.fets) = u + b.fets from by omega]; exact h3.out), t1.out⟩
    | true =>
      go_wp2_with fail
      refine (ihb.out u A1 c1 _ _ F1 hok.2 h3.out hc1 hp1).mono ?_
      rintro e w2 ⟨rfl, u1, u2, F2, h5, h6⟩
      replace h5 := Lib.hid h5
      have by0 : w2.cell? ⟨w.heap.size, 0, none⟩ = some (.int .i64 2) := (h6.cell 0 szl hn1.out).trans bx0
      replace h6 := Lib.hid h6
      clear bx0 bx1 bx2 hx1 hy1 hz1 hlt1
      cases hq : (b.run f (a.run f s).2).1.2 with
      | false =>
        go_wp2_with fail
        go_ret2
        exact ⟨by simp [Tk.run, hr, hq], by simp [Tk.run, hr, hq], by simp [Tk.run, hr, hq], F2, by simpa [Tk.run, hr, hq] using h5.out, t1.out.trans h6.out⟩
      | true =>
        have hrun : Tk.run f (a.add b) s = ((((a.run f s).1.1 + (b.run f (a.run f s).2).1.1) % 97, true), (b.run f (a.run f s).2).2) := by simp [Tk.run, hr, hq]
        replace hrun := Lib.hid hrun
        generalize (b.run f (a.run f s).2).1.1 = y at *
        generalize (a.run f s).1.1 = x at *
        skip
        go_wp2_with fail
        go_ret2
        rw [hrun.out]
        exact ⟨rfl, by simp only []; omega, by simp only []; omega, F2, h5.out, t1.out.trans h6.out⟩
  | mul a b iha ihb =>
    intro u A c s w F hok hs hc hp
    replace hs : I (u + b.fets + a.fets) s w F := by
      have e : u + (a.fets + b.fets) = u + b.fets + a.fets := by omega
      exact e ▸ hs
    replace hs := Lib.hid hs
    replace iha := Lib.hid iha
    replace ihb := Lib.hid ihb
    simp only [Tk.enc, Task.kind, Task.n, Task.parts, Tk.ok] at hok hc hp ⊢
    obtain ⟨b0, o0, A0, c0, rfl, hb0, hx0, hy0, hz0, hc0, hm0, hp0⟩ := hp.at ((hI.out _).old _ _ _ hs.out).1 0 (by simp)
    have hlt : b0 < w.heap.size := Nat.lt_of_lt_of_le hb0 ((hI.out _).old _ _ _ hs.out).2
    simp only [List.getElem_cons_zero, Nat.zero_mul, Nat.add_zero] at hx0 hy0 hz0 hc0 hp0
    have hlen : ([a.enc, b.enc] : List Task).length = 2 := rfl
    simp only [hlen] at hc ⊢
    clear hlen
    go_enter Try.func128, Try.ntmps128
    go_wp2_with fail
    refine (iha.out (u + b.fets) A0 c0 s _ F hok.1 ((hI.out _).alloc _ _ _ _ hs.out) hc0 hp0).mono ?_
    rintro e w1 ⟨rfl, v1, v2, F1, h3, h4⟩
    replace h3 := Lib.hid h3
    have t1 := ((Turn.refl F w).alloc _).trans h4
    have hn : ¬ F w.heap.size := fun h => by have := ((hI.out _).own _ _ _ hs.out _ h).2; omega
    have hn1 : ¬ F1 w.heap.size := fun h => (h4.fresh _ h).elim hn (fun h => by simp at h; omega)
    have bx0 : w1.cell? ⟨w.heap.size, 0, none⟩ = some (.int .i64 3) := (h4.cell 0 (by simp) hn).trans (by simp)
    have bx1 : w1.cell? ⟨w.heap.size, 1, none⟩ = some (.int .i64 0) := (h4.cell 1 (by simp) hn).trans (by simp)
    have bx2 : w1.cell? ⟨w.heap.size, 2, none⟩ = some (.slice (some ⟨b0, o0, none⟩) 2 c) := (h4.cell 2 (by simp) hn).trans (by simp)
    have hlt1 : b0 < w1.heap.size := Nat.lt_of_lt_of_le hlt t1.size
    obtain ⟨b1, o1, A1, c1, e1, _, hx1, hy1, hz1, hc1, hm1, hp1⟩ := hp.at ((hI.out _).old _ _ _ h3.out).1 1 (by simp)
    simp only [Option.some.injEq, Addr.mk.injEq, and_true] at e1
    obtain ⟨rfl, rfl⟩ := e1
    simp only [List.getElem_cons_zero, List.getElem_cons_succ, Nat.one_mul, Nat.reduceMul] at hx1 hy1 hz1 hc1 hp1
    replace t1 := Lib.hid t1
    have szl : w.heap.size < w1.heap.size := by have := h4.size; simp at this; omega
    replace hn := Lib.hid hn
    replace hn1 := Lib.hid hn1
    clear h4 hx0 hy0 hz0 hlt
    cases hr : (a.run f s).1.2 with
    | false =>
      go_wp2_with fail
      go_ret2
      exact ⟨by simp [Tk.run, hr], by simp [Tk.run, hr], by simp [Tk.run, hr], F1, by simpa [Tk.run, hr] using hdown.out (b.fets) u _ _ _ (by rw [show u + (b.fets) = u + b.fets from by omega]; exact h3.out), t1.out⟩
    | true =>
      go_wp2_with fail
      refine (ihb.out u A1 c1 _ _ F1 hok.2 h3.out hc1 hp1).mono ?_
      rintro e w2 ⟨rfl, u1, u2, F2, h5, h6⟩
      replace h5 := Lib.hid h5
      have by0 : w2.cell? ⟨w.heap.size, 0, none⟩ = some (.int .i64 3) := (h6.cell 0 szl hn1.out).trans bx0
      replace h6 := Lib.hid h6
      clear bx0 bx1 bx2 hx1 hy1 hz1 hlt1
      cases hq : (b.run f (a.run f s).2).1.2 with
      | false =>
        go_wp2_with fail
        go_ret2
        exact ⟨by simp [Tk.run, hr, hq], by simp [Tk.run, hr, hq], by simp [Tk.run, hr, hq], F2, by simpa [Tk.run, hr, hq] using h5.out, t1.out.trans h6.out⟩
      | true =>
        have hrun : Tk.run f (a.mul b) s = ((((a.run f s).1.1 * (b.run f (a.run f s).2).1.1) % 97, true), (b.run f (a.run f s).2).2) := by simp [Tk.run, hr, hq]
        replace hrun := Lib.hid hrun
        generalize (b.run f (a.run f s).2).1.1 = y at *
        generalize (a.run f s).1.1 = x at *
        have hxy : 0 ≤ x * y ∧ x * y ≤ 9216 := mul_bound v1 v2 u1 u2
        go_wp2_with fail
        go_ret2
        rw [hrun.out]
        exact ⟨rfl, by simp only []; omega, by simp only []; omega, F2, h5.out, t1.out.trans h6.out⟩
  | cond a b d iha ihb ihd =>
    intro u A c s w F hok hs hc hp
    replace hs : I (u + b.fets + d.fets + a.fets) s w F := by
      have e : u + (a.fets + b.fets + d.fets) = u + b.fets + d.fets + a.fets := by omega
      exact e ▸ hs
    replace hs := Lib.hid hs
    replace iha := Lib.hid iha
    replace ihb := Lib.hid ihb
    replace ihd := Lib.hid ihd
    simp only [Tk.enc, Task.kind, Task.n, Task.parts, Tk.ok] at hok hc hp ⊢
    obtain ⟨b0, o0, A0, c0, rfl, hb0, hx0, hy0, hz0, hc0, hm0, hp0⟩ := hp.at ((hI.out _).old _ _ _ hs.out).1 0 (by simp)
    have hlt : b0 < w.heap.size := Nat.lt_of_lt_of_le hb0 ((hI.out _).old _ _ _ hs.out).2
    simp only [List.getElem_cons_zero, Nat.zero_mul, Nat.add_zero] at hx0 hy0 hz0 hc0 hp0
    have hlen : ([a.enc, b.enc, d.enc] : List Task).length = 3 := rfl
    simp only [hlen] at hc ⊢
    clear hlen
    go_enter Try.func128, Try.ntmps128
    go_wp2_with fail
    refine (iha.out (u + b.fets + d.fets) A0 c0 s _ F hok.1 ((hI.out _).alloc _ _ _ _ hs.out) hc0 hp0).mono ?_
    rintro e w1 ⟨rfl, v1, v2, F1, h3, h4⟩
    replace h3 := Lib.hid h3
    have t1 := ((Turn.refl F w).alloc _).trans h4
    have hn : ¬ F w.heap.size := fun h => by have := ((hI.out _).own _ _ _ hs.out _ h).2; omega
    have hn1 : ¬ F1 w.heap.size := fun h => (h4.fresh _ h).elim hn (fun h => by simp at h; omega)
    have bx0 : w1.cell? ⟨w.heap.size, 0, none⟩ = some (.int .i64 4) := (h4.cell 0 (by simp) hn).trans (by simp)
    have bx1 : w1.cell? ⟨w.heap.size, 1, none⟩ = some (.int .i64 0) := (h4.cell 1 (by simp) hn).trans (by simp)
    have bx2 : w1.cell? ⟨w.heap.size, 2, none⟩ = some (.slice (some ⟨b0, o0, none⟩) 3 c) := (h4.cell 2 (by simp) hn).trans (by simp)
    have hlt1 : b0 < w1.heap.size := Nat.lt_of_lt_of_le hlt t1.size
    obtain ⟨b1, o1, A1, c1, e1, _, hx1, hy1, hz1, hc1, hm1, hp1⟩ := hp.at ((hI.out _).old _ _ _ h3.out).1 1 (by simp)
    simp only [Option.some.injEq, Addr.mk.injEq, and_true] at e1
    obtain ⟨rfl, rfl⟩ := e1
    simp only [List.getElem_cons_zero, List.getElem_cons_succ, Nat.one_mul, Nat.reduceMul] at hx1 hy1 hz1 hc1 hp1
    obtain ⟨b2, o2, A2, c2, e2, _, hx2, hy2, hz2, hc2, hm2, hp2⟩ := hp.at ((hI.out _).old _ _ _ h3.out).1 2 (by simp)
    simp only [Option.some.injEq, Addr.mk.injEq, and_true] at e2
    obtain ⟨rfl, rfl⟩ := e2
    simp only [List.getElem_cons_zero, List.getElem_cons_succ, Nat.one_mul, Nat.reduceMul] at hx2 hy2 hz2 hc2 hp2
    replace t1 := Lib.hid t1
    have szl : w.heap.size < w1.heap.size := by have := h4.size; simp at this; omega
    replace hn := Lib.hid hn
    replace hn1 := Lib.hid hn1
    clear h4 hx0 hy0 hz0 hlt
    cases hr : (a.run f s).1.2 with
    | false =>
      go_wp2_with fail
      go_ret2
      exact ⟨by simp [Tk.run, hr], by simp [Tk.run, hr], by simp [Tk.run, hr], F1, by simpa [Tk.run, hr] using hdown.out (b.fets + d.fets) u _ _ _ (by rw [show u + (b.fets + d.fets) = u + b.fets + d.fets from by omega]; exact h3.out), t1.out⟩
    | true =>
      by_cases hz : (a.run f s).1.1 = 0
      · have hz' : ((a.run f s).1.1 != 0) = false := by simp [hz]
        replace hz := Lib.hid hz
        go_wp2_with fail
        refine (ihd.out (u + b.fets) A2 c2 _ _ F1 hok.2.2 h3.out hc2 hp2).mono ?_
        rintro e w2 ⟨rfl, u1, u2, F2, h5, h6⟩
        replace h5 := Lib.hid h5
        replace h6 := Lib.hid h6
        have hrun : Tk.run f (Tk.cond a b d) s = d.run f (a.run f s).2 := by simp [Tk.run, hr, hz.out]
        replace hrun := Lib.hid hrun
        go_wp2_with fail
        go_ret2
        rw [hrun.out]
        exact ⟨rfl, u1, u2, F2, hdown.out _ _ _ _ _ h5.out, t1.out.trans h6.out⟩
      · have hz' : ((a.run f s).1.1 != 0) = true := by simp [hz]
        replace hz := Lib.hid hz
        go_wp2_with fail
        refine (ihb.out (u + d.fets) A1 c1 _ _ F1 hok.2.1 (by rw [show u + d.fets + b.fets = u + b.fets + d.fets from by omega]; exact h3.out) hc1 hp1).mono ?_
        rintro e w2 ⟨rfl, u1, u2, F2, h5, h6⟩
        replace h5 := Lib.hid h5
        replace h6 := Lib.hid h6
        have hrun : Tk.run f (Tk.cond a b d) s = b.run f (a.run f s).2 := by simp [Tk.run, hr, hz.out]
        replace hrun := Lib.hid hrun
        go_wp2_with fail
        go_ret2
        rw [hrun.out]
        exact ⟨rfl, u1, u2, F2, hdown.out _ _ _ _ _ h5.out, t1.out.trans h6.out⟩
  | ix n a iha =>
    intro u A c s w F hok hs hc hp
    replace hs : I (u + 1 + a.fets) s w F := by
      have e : u + (a.fets + 1) = u + 1 + a.fets := by omega
      exact e ▸ hs
    replace hs := Lib.hid hs
    replace iha := Lib.hid iha
    simp only [Tk.enc, Task.kind, Task.n, Task.parts, Tk.ok] at hok hc hp ⊢
    obtain ⟨b0, o0, A0, c0, rfl, hb0, hx0, hy0, hz0, hc0, hm0, hp0⟩ := hp.at ((hI.out _).old _ _ _ hs.out).1 0 (by simp)
    have hlt : b0 < w.heap.size := Nat.lt_of_lt_of_le hb0 ((hI.out _).old _ _ _ hs.out).2
    simp only [List.getElem_cons_zero, Nat.zero_mul, Nat.add_zero] at hx0 hy0 hz0 hc0 hp0
    have hlen : ([a.enc] : List Task).length = 1 := rfl
    simp only [hlen] at hc ⊢
    clear hlen
    go_enter Try.func128, Try.ntmps128
    go_wp2_with fail
    refine (iha.out (u + 1) A0 c0 s _ F hok.2.2 ((hI.out _).alloc _ _ _ _ hs.out) hc0 hp0).mono ?_
    rintro e w1 ⟨rfl, v1, v2, F1, h3, h4⟩
    replace h3 := Lib.hid h3
    have t1 := ((Turn.refl F w).alloc _).trans h4
    have hn : ¬ F w.heap.size := fun h => by have := ((hI.out _).own _ _ _ hs.out _ h).2; omega
    have hn1 : ¬ F1 w.heap.size := fun h => (h4.fresh _ h).elim hn (fun h => by simp at h; omega)
    have bx0 : w1.cell? ⟨w.heap.size, 0, none⟩ = some (.int .i64 5) := (h4.cell 0 (by simp) hn).trans (by simp)
    have bx1 : w1.cell? ⟨w.heap.size, 1, none⟩ = some (.int .i64 n) := (h4.cell 1 (by simp) hn).trans (by simp)
    have bx2 : w1.cell? ⟨w.heap.size, 2, none⟩ = some (.slice (some ⟨b0, o0, none⟩) 1 c) := (h4.cell 2 (by simp) hn).trans (by simp)
    have hlt1 : b0 < w1.heap.size := Nat.lt_of_lt_of_le hlt t1.size
    replace t1 := Lib.hid t1
    have szl : w.heap.size < w1.heap.size := by have := h4.size; simp at this; omega
    replace hn := Lib.hid hn
    replace hn1 := Lib.hid hn1
    clear h4 hx0 hy0 hz0 hlt
    cases hr : (a.run f s).1.2 with
    | false =>
      go_wp2_with fail
      go_ret2
      exact ⟨by simp [Tk.run, hr], by simp [Tk.run, hr], by simp [Tk.run, hr], F1, by simpa [Tk.run, hr] using hdown.out (1) u _ _ _ (by rw [show u + (1) = u + 1 from by omega]; exact h3.out), t1.out⟩
    | true =>
      have hrun : Tk.run f (Tk.ix n a) s = f (a.run f s).2 ((n + (a.run f s).1.1) % 10) := by simp [Tk.run, hr]
      replace hrun := Lib.hid hrun
      generalize (a.run f s).1.1 = x at *
      have n1 := hok.1
      have n2 := hok.2.1
      clear hok
      go_wp2_with ((with_reducible refine wpList_call_value (by rfl) (.tmp 38) _ _ (by rfl) g first cap (by with_unfolding_all rfl) hg ?_); refine (hf.out u _ ((n + x) % 10) _ F1 h3.out (by omega) (by omega)).mono ?_; rintro e w' ⟨rfl, u1, u2, F2, h5, h6⟩; replace h5 := Lib.hid h5; refine ⟨_, rfl, ?_⟩)
      go_ret2
      rw [hrun.out]
      exact ⟨rfl, u1, u2, F2, h5.out, t1.out.trans h6⟩

theorem run_calls {σ : Type} (I : σ → World → (Nat → Prop) → Prop) (f : σ → Int → (Int × Bool) × σ) (g : Nat) (first cap : Array Value) (B : Nat) (w0 : World) (hg : Enters Try.prog g)
    (hI : Holds I B w0)
    (hf : ∀ s k w F, I s w F → 0 ≤ k → k ≤ 9 → Calls Try.prog g (first ++ #[.int .i64 k] ++ cap) w (Gives I F w (f s k))) (t : Tk) (A : Option Addr) (c : Nat) (s : σ) (w : World) (F : Nat → Prop) (hok : t.ok) (hs : I s w F) (hc : t.enc.parts.length ≤ c) (hp : PartsIs B w0 A 0 t.enc.parts) :
    Calls Try.prog 128 #[.agg #[.int .i64 t.enc.kind, .int .i64 t.enc.n, .slice A t.enc.parts.length c], .func (.func g) first cap] w (Gives I F w (t.run f s)) :=
  run_callsN (fun _ => I) f g first cap B w0 hg (fun _ => hI) (fun _ _ _ _ h => h) (fun _ => hf) t 0 A c s w F hok hs hc hp
end Go.Proofs.Ytpccgdkidnkppaa
