import Derived.Test.YtagmdljdcnmpdaaCircle
import Derived.Test.YtagmdljdcnmpdaaOnce
set_option linter.unusedVariables false
set_option linter.unusedSimpArgs false
namespace Go.Proofs.Ytagmdljdcnmpdaa
open Go Go.RowKit

theorem okey_calls (E : MkEnv) (S : Sh) (hE : E.Good S) (m : Nat) : ∀ (n : Nat) (st : OSt) (k : Int) (w : World) (F : Nat → Prop), 0 ≤ k → k ≤ 9 → OInv S n st → OnI E S m st w F →
    Calls Try.prog 67 #[.pointer (some ⟨m, 0, none⟩), .int .i64 k] w (Gives (OnI E S m) F w (onceP S n st k)) := by
  intro n
  induction n with
  | zero =>
    intro st k w F hk0 hk9 hi h
    cases hmk : mkK S.made k with
    | false => exact okey_unmade E S hE m 0 st k w F hk0 hk9 hi h hmk
    | true =>
      cases hd : st.done.contains k with
      | true => exact okey_made E S hE m 0 st k w F hk0 hk9 hi h hmk (.inl hd)
      | false =>
        cases hu : st.under.contains k with
        | true => exact okey_made E S hE m 0 st k w F hk0 hk9 hi h hmk (.inr hu)
        | false =>
          exfalso
          have hkr := mkK_range (show mkK S.made k ≠ false by rw [hmk]; simp)
          have h1 : (k :: st.under).Nodup := List.nodup_cons.2 ⟨by simpa using hu, hi.under.nodup⟩
          have h2 := nodup_bound (n := S.made.length) h1 (fun x hx => by
            rcases List.mem_cons.1 hx with rfl | hx
            · exact hkr
            · exact hi.under.range x hx)
          have h3 := hi.under.fuel
          simp at h2
          omega
  | succ n ih =>
    intro st k w F hk0 hk9 hi h
    cases hmk : mkK S.made k with
    | false => exact okey_unmade E S hE m (n + 1) st k w F hk0 hk9 hi h hmk
    | true =>
      cases hd : st.done.contains k with
      | true => exact okey_made E S hE m (n + 1) st k w F hk0 hk9 hi h hmk (.inl hd)
      | false =>
        cases hu : st.under.contains k with
        | true => exact okey_made E S hE m (n + 1) st k w F hk0 hk9 hi h hmk (.inr hu)
        | false => exact okey_new E S hE m n ih st k w F hk0 hk9 hi h hmk hd hu

theorem keysOk_drop {n : Nat} {keys : List Int} {j : Nat} (h : j < keys.length) : keysOk n (keys.drop j) = (decide (0 ≤ keys[j] ∧ keys[j] < n) && keysOk n (keys.drop (j + 1))) := by
  unfold keysOk
  rw [List.drop_eq_getElem_cons h, List.all_cons]
set_option maxHeartbeats 1000000 in
theorem l4Keys_calls (Am At Ak : Option Addr) (cm ct ck : Nat) (made : List Bool) (tasks : List Task) (keys : List Int) (B : Nat) (w0 w : World) (hb : Below B w0 w) (hB : B ≤ w.heap.size) (hs : SheetAt B w0 Am cm At ct made tasks) (hnod : ∀ T ∈ tasks, nodes T ≤ 1000000000) (hml : (made.length : Int) ≤ 9223372036854775807) (hm : keys.length ≤ maxLen) (hx : IntsAt B w0 Ak keys) :
    Calls Try.prog 66 #[.agg #[.slice Am made.length cm, .slice At tasks.length ct], .slice Ak keys.length ck] w fun e w' => e = .returned (.bool (keysOk made.length keys && sheetOk made tasks)) ∧ Below w.heap.size w w' := by
  have hc1 := fun w1 (hw : Below w.heap.size w w1) => specSheetOk_calls Am At cm ct made tasks B w0 w1 (below_up' hb hB hw) (Nat.le_trans hB hw.size) hs hnod
  have hc2 := fun k w1 => l6In_calls k 0 ((made.length : Int) - 1) w1
  have hwr : IntKind.i64.wrap ((made.length : Int) - 1) = (made.length : Int) - 1 := by simp [IntKind.wrap, IntKind.bits, IntKind.signed]; omega
  generalize hsk : sheetOk made tasks = sk at *
  replace hc1 := Lib.hid hc1
  replace hc2 := Lib.hid hc2
  replace hx := Lib.hid hx
  replace hb := Lib.hid hb
  replace hsk := Lib.hid hsk
  unfold maxLen at hm
  clear hs hnod
  go_enter Try.func66, Try.ntmps66
  go_wp2_with fail
  go_loopw [5] (fun i wr => ∃ (j : Nat), j ≤ keys.length ∧ i = .int .i64 j ∧ Hid (Below w.heap.size w wr) ∧ w.heap.size < wr.heap.size ∧ wr.cell? ⟨w.heap.size, 0, none⟩ = some (.slice Am made.length cm) ∧ wr.cell? ⟨w.heap.size, 1, none⟩ = some (.slice At tasks.length ct) ∧
    Hid (keysOk made.length keys = keysOk made.length (keys.drop j))) (fun i _ => keys.length - (intOf i).toNat)
  case atStart => exact ⟨0, Nat.zero_le _, rfl, Lib.hid (below_al (Below.refl _ _) _), by simp, by simp, by simp, Lib.hid rfl⟩
  case round =>
    obtain ⟨j, hj, rfl, hw, hz, x0, x1, he⟩ := hrel
    by_cases hlt : j < keys.length
    · have he2 := he.out
      rw [keysOk_drop hlt] at he2
      obtain ⟨b, o, rfl, hbb, y⟩ := hx.out.at (below_up' hb.out hB hw.out) (Nat.le_trans hB hw.out.size) j hlt
      have hcall := hc2.out keys[j]
      generalize keys[j] = k at *
      have hdd : decide (0 ≤ k ∧ k ≤ (made.length : Int) - 1) = decide (0 ≤ k ∧ k < (made.length : Int)) := by
        by_cases h1 : 0 ≤ k ∧ k < (made.length : Int)
        · rw [decide_eq_true h1, decide_eq_true (by omega)]
        · rw [decide_eq_false h1, decide_eq_false (by omega)]
      rw [hdd] at hcall
      generalize decide (0 ≤ k ∧ k < (made.length : Int)) = d at *
      replace hcall := Lib.hid hcall
      replace hdd := Lib.hid hdd
      replace he2 := Lib.hid he2
      clear he
      go_wp2_with fail
      go_region_law (go_simp; go_at_call 46; refine (hcall.out _).mono ?_; rintro e w5 ⟨rfl, rfl⟩)
      all_goals
        cases d with
        | true =>
          have he3 := he2.out
          simp only [Bool.true_and] at he3
          replace he3 := Lib.hid he3
          go_wp2_with fail
          go_roundw
          case rel => exact ⟨j + 1, by omega, by go_num, Lib.hid hw.out.drew, hz, x0, x1, he3⟩
          case measure => simp [intOf]; omega
        | false =>
          have he3 := he2.out
          simp only [Bool.false_and] at he3
          replace he3 := Lib.hid he3
          go_wp2_with fail
          go_ret
          exact ⟨by rw [he3.out]; rfl, hw.out.drew⟩
    · have hd : keys.drop j = [] := List.drop_eq_nil_of_le (by omega)
      have he2 := he.out
      rw [hd] at he2
      replace he2 := Lib.hid he2
      replace hd := Lib.hid hd
      have hcall := hc1.out wr hw.out
      replace hcall := Lib.hid hcall
      clear he
      go_wp2_with fail
      refine hcall.out.mono ?_
      rintro e w5 ⟨rfl, h5⟩
      have hw5 := below_up hw.out h5
      replace hw5 := Lib.hid hw5
      clear h5 hcall
      go_wp2_with fail
      go_ret
      exact ⟨by rw [he2.out]; simp [keysOk], hw5.out⟩
end Go.Proofs.Ytagmdljdcnmpdaa
