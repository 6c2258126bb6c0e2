import Derived.Test.YtagmdljdcnmpdaaTaskMay
set_option linter.unusedVariables false
set_option linter.unusedSimpArgs false
namespace Go.Proofs.Ytagmdljdcnmpdaa
open Go Go.RowKit

/-- the keys that a task may fetch, from key j on -/
def mayFrom (t : Task) : Nat → List Int
  | 0 => []
  | m + 1 => (if mayTask t ((9 - m : Nat) : Int) then [((9 - m : Nat) : Int)] else []) ++ mayFrom t m
def mayList (t : Task) : List Int := if okT t then mayFrom t 10 else []
theorem mem_mayFrom (t : Task) : ∀ (m : Nat) (i : Nat), m ≤ 10 → 10 - m ≤ i → i < 10 → mayTask t i = true → (i : Int) ∈ mayFrom t m := by
  intro m
  induction m with
  | zero => intro i _ h1 h2 _; omega
  | succ m ih =>
    intro i hm h1 h2 h3
    rw [mayFrom, List.mem_append]
    by_cases e : i = 9 - m
    · left; rw [← e, if_pos h3]; simp
    · right; exact ih i (by omega) (by omega) h2 h3

set_option maxHeartbeats 2000000 in
theorem brHas_calls (A : Option Addr) (c : Nat) (xs : List Int) (x : Int) (w : World) (hx : IntsAt w.heap.size w A xs) (hl : xs.length ≤ 1000000) (hm : x ∈ xs) :
    Calls Try.prog 24 #[.slice A xs.length c, .int .i64 x] w fun e w' => e = .returned (.bool true) ∧ w = w' := by
  obtain ⟨q, hq, hqx⟩ := List.getElem_of_mem hm
  replace hx := Lib.hid hx
  replace hqx := Lib.hid hqx
  clear hm
  go_enter Try.func24, Try.ntmps24
  go_wp2_with fail
  go_loopw [5] (fun i wr => ∃ (j : Nat), j ≤ q ∧ i = .int .i64 j ∧ wr = w) (fun i _ => xs.length - (intOf i).toNat)
  case atStart => exact ⟨0, Nat.zero_le _, rfl, rfl⟩
  case round =>
    obtain ⟨j, hj, rfl, rfl⟩ := hrel
    have hlt : j < xs.length := by omega
    obtain ⟨b, o, rfl, hb, y⟩ := hx.out j hlt
    by_cases e : xs[j] = x
    · have e' : (xs[j] == x) = true := by simp [e]
      replace e := Lib.hid e
      go_wp2_with fail
      go_ret
      exact ⟨rfl, rfl⟩
    · have e' : (xs[j] == x) = false := by simp [e]
      have hjq : j ≠ q := fun h => by subst h; exact e hqx.out
      replace e := Lib.hid e
      go_wp2_with fail
      go_roundw
      case rel => exact ⟨j + 1, by omega, by go_num, by first | rfl | trivial⟩
      case measure => simp [intOf]; omega

theorem arr_index (cs : Array Value) (hs : cs.size = 10) (j : Nat) (hj : j < 10) (v : Value) (hv : cs[j]? = some v) (h1 : v.cells = #[v]) (w : World) : (Instr.index 87 (.agg cs) (.int .i64 j)).run Try.prog w = .ok v w := by
  have h : Try.prog.underlying 87 = some (.array 10 4) := Try.underlying87
  have hn : (0 ≤ (j : Int) ∧ (j : Int) < ((10 : Nat) : Int)) := by omega
  simp [Instr.index, run_underlying h, asIntOf, hn, go_sem]
  rw [if_pos hj, hv]
  rfl

set_option maxRecDepth 5000 in
set_option maxHeartbeats 4000000 in
theorem taskMay_calls (t : Task) (A : Option Addr) (c B : Nat) (w0 w : World) (hb : Below B w0 w) (hB : B ≤ w.heap.size) (hc : t.parts.length ≤ c) (hm : c ≤ maxLen) (hp : PartsIs B w0 A 0 t.parts) :
    Calls Try.prog 25 #[.agg #[.int .i64 t.kind, .int .i64 t.n, .slice A t.parts.length c]] w fun e w' => ∃ v, e = .returned v ∧ w'.ownsRow w.heap.size 3 1 v (mayList t).length (ints (mayList t)) ∧ Below w.heap.size w w' := by
  have h1 := fun w1 (hw : Below w.heap.size w w1) => taskOk_calls t A c B w0 w1 (below_up' hb hB hw) (Nat.le_trans hB hw.size) hc hm hp
  have h2 := fun (hf : fitAll t = true) w1 (hw : Below w.heap.size w w1) (b : Nat) (p : Int → Bool) (hA : ArrIs w1 b p) (hBb : B ≤ b) => may_calls t hf A c B b p w0 w1 (below_up' hb hB hw) (Nat.le_trans hB hw.size) hc hm hp hA hBb
  have hml : mayList t = if okT t then mayFrom t 10 else [] := rfl
  have hfit : okT t = true → fitAll t = true := fun h => (Bool.and_eq_true_iff.1 h).1
  replace h2 := Lib.hid h2
  clear hb hp
  cases hok : okT t with
  | false =>
    rw [hok] at h1 hml
    replace h1 := Lib.hid h1
    replace hml := Lib.hid hml
    clear hok hfit h2
    go_enter Try.func25, Try.ntmps25
    go_wp2_with fail
    refine (h1.out _ (below_al (Below.refl _ _) _)).mono ?_
    rintro e w1 ⟨rfl, h3⟩
    go_wp2_with fail
    go_ret
    rw [hml.out]
    exact ⟨_, rfl, World.ownsRow_nil _ _ _ _, below_from h3⟩
  | true =>
    have hf := hfit hok
    rw [hok, if_pos rfl] at hml
    rw [hok] at h1
    replace h1 := Lib.hid h1
    replace hml := Lib.hid hml
    replace hf := Lib.hid hf
    clear hok hfit
    go_enter Try.func25, Try.ntmps25
    go_wp2_with fail
    refine (h1.out _ (below_al (Below.refl _ _) _)).mono ?_
    rintro e w1 ⟨rfl, h3⟩
    have x0 : w1.cell? ⟨w.heap.size, 0, none⟩ = some (.int .i64 t.kind) := (h3.cell (p := ⟨w.heap.size, 0, none⟩) (by simp)).trans (by simp)
    have x1 : w1.cell? ⟨w.heap.size, 1, none⟩ = some (.int .i64 t.n) := (h3.cell (p := ⟨w.heap.size, 1, none⟩) (by simp)).trans (by simp)
    have x2 : w1.cell? ⟨w.heap.size, 2, none⟩ = some (.slice A t.parts.length c) := (h3.cell (p := ⟨w.heap.size, 2, none⟩) (by simp)).trans (by simp)
    have b1 := below_from h3
    have s1 : w.heap.size < w1.heap.size := by have := h3.size; simp at this; omega
    have hA : ArrIs (w1.alloc (.cells #[.bool false, .bool false, .bool false, .bool false, .bool false, .bool false, .bool false, .bool false, .bool false, .bool false] 87 (0, 0))) w1.heap.size (fun _ => false) := heap_new rfl
    have hcall := h2.out hf.out _ (b1.trans (below_al (Below.refl _ _) _ |>.mono b1.size)) w1.heap.size (fun _ => false) hA (Nat.le_trans hB b1.size)
    replace hcall := Lib.hid hcall
    replace b1 := Lib.hid b1
    clear h3 hA
    go_wp2_with fail
    refine hcall.out.mono ?_
    rintro e w2 ⟨⟨v, rfl⟩, hA2, hT2⟩
    have b2 : Below w.heap.size w w2 := b1.out.trans ((below_al (Below.refl _ w1) _).trans (hT2.below (by simp) (fun i e => by cases e; exact Nat.le_refl _)) |>.mono b1.out.size)
    have hA3 : ArrIs w2 w1.heap.size (fun i => mayTask t i) := hA2.congr (fun i hi => by simp)
    have c0 := hA3.cell (show 0 < 10 by omega)
    have c1 := hA3.cell (show 1 < 10 by omega)
    have c2 := hA3.cell (show 2 < 10 by omega)
    have c3 := hA3.cell (show 3 < 10 by omega)
    have c4 := hA3.cell (show 4 < 10 by omega)
    have c5 := hA3.cell (show 5 < 10 by omega)
    have c6 := hA3.cell (show 6 < 10 by omega)
    have c7 := hA3.cell (show 7 < 10 by omega)
    have c8 := hA3.cell (show 8 < 10 by omega)
    have c9 := hA3.cell (show 9 < 10 by omega)
    have hz2 := block_lt hA3
    replace b2 := Lib.hid b2
    clear hT2 hA2 hcall x0 x1 x2 hA3
    go_wp2_with fail
    have hget : ∀ j : Nat, j < 10 → (#[Value.bool (mayTask t 0), Value.bool (mayTask t 1), Value.bool (mayTask t 2), Value.bool (mayTask t 3), Value.bool (mayTask t 4), Value.bool (mayTask t 5), Value.bool (mayTask t 6), Value.bool (mayTask t 7), Value.bool (mayTask t 8), Value.bool (mayTask t 9)] : Array Value)[j]? = some (.bool (mayTask t j)) := by
      intro j hj
      rcases (show j = 0 ∨ j = 1 ∨ j = 2 ∨ j = 3 ∨ j = 4 ∨ j = 5 ∨ j = 6 ∨ j = 7 ∨ j = 8 ∨ j = 9 by omega) with rfl | rfl | rfl | rfl | rfl | rfl | rfl | rfl | rfl | rfl <;> rfl
    have hidx : ∀ (j : Nat) (W : World), j < 10 → (Instr.index 87 (.agg (#[Value.bool (mayTask t 0), Value.bool (mayTask t 1), Value.bool (mayTask t 2), Value.bool (mayTask t 3), Value.bool (mayTask t 4), Value.bool (mayTask t 5), Value.bool (mayTask t 6), Value.bool (mayTask t 7), Value.bool (mayTask t 8), Value.bool (mayTask t 9)] : Array Value)) (.int .i64 j)).run Try.prog W = .ok (.bool (mayTask t j)) W := fun j W hj => arr_index _ rfl j hj _ (hget j hj) rfl W
    clear c0 c1 c2 c3 c4 c5 c6 c7 c8 c9 hget
    generalize (#[Value.bool (mayTask t 0), Value.bool (mayTask t 1), Value.bool (mayTask t 2), Value.bool (mayTask t 3), Value.bool (mayTask t 4), Value.bool (mayTask t 5), Value.bool (mayTask t 6), Value.bool (mayTask t 7), Value.bool (mayTask t 8), Value.bool (mayTask t 9)] : Array Value) = cs at hidx ⊢
    have hml2 : ∀ j : Nat, j < 10 → mayFrom t (10 - j) = (if mayTask t j then [(j : Int)] else []) ++ mayFrom t (10 - (j + 1)) := fun j hj => by
      rw [show 10 - j = (9 - j) + 1 by omega, mayFrom, show 9 - (9 - j) = j by omega, show 10 - (j + 1) = 9 - j by omega]
    replace hidx := Lib.hid hidx
    replace hml2 := Lib.hid hml2
    go_loopw [4, 13] (fun o i wr => ∃ (j : Nat) (out : List Int), j ≤ 10 ∧ i = .int .i64 j ∧ out.length ≤ j ∧ Hid (out ++ mayFrom t (10 - j) = mayList t) ∧ Hid (wr.ownsRow w.heap.size 3 1 o out.length (ints out)) ∧ Hid (Below w.heap.size w wr)) (fun _ i _ => 10 - (intOf i).toNat)
    case atStart => exact ⟨0, [], by omega, rfl, by simp, Lib.hid (by rw [hml.out]; rfl), Lib.hid (World.ownsRow_nil _ _ _ _), b2⟩
    case round =>
      obtain ⟨j, out, hj, rfl, hol, he, hown, hw⟩ := hrel
      by_cases hlt : j < 10
      · have he2 := he.out
        rw [hml2.out j hlt] at he2
        have hsz := hw.out.size
        have hx := hidx.out j wr hlt
        cases hmj : mayTask t j with
        | false =>
          rw [hmj] at he2 hx
          have he3 : out ++ mayFrom t (10 - (j + 1)) = mayList t := by simpa using he2
          replace he3 := Lib.hid he3
          replace hmj := Lib.hid hmj
          clear he he2
          go_wp2_with fail
          go_roundw
          case rel => exact ⟨j + 1, out, by omega, by go_num, by omega, he3, hown, hw⟩
          case measure => simp [intOf]; omega
        | true =>
          rw [hmj] at he2 hx
          have he3 : (out ++ [(j : Int)]) ++ mayFrom t (10 - (j + 1)) = mayList t := by simpa using he2
          replace he3 := Lib.hid he3
          replace hmj := Lib.hid hmj
          clear he he2
          go_wp2_with (at_builtin; go_loud (with_reducible refine wpList_app1 (by rfl) (.tmp 18) (.tmp 20) 27 (by rfl) intTy w.heap.size u4 out.length (ints out) (by with_unfolding_all rfl) (hown.out.alloc _) wr.heap.size 1 [.int .i64 j] (by with_unfolding_all rfl) (by with_unfolding_all rfl) ⟨_, _, heap_alloc_new wr _, rfl⟩ (one_int _ _) ?_ ?_ ?_ ?_))
          · unfold maxLen; omega
          · omega
          · first | omega | (simp; omega)
          intro g cap w7 hown7 hgrow7 hat7
          have hw7 := (below_al' hw.out (.cells #[.int .i64 j] 3 (0, 0)) hsz).grown hgrow7 (by simp; omega) (fun i hi => (hown.out.lt i hi).1)
          have hown7' : w7.ownsRow w.heap.size 3 1 (.slice (some ⟨g, 0, none⟩) (out.length + 1) cap) (out ++ [(j : Int)]).length (ints (out ++ [(j : Int)])) := by simpa [ints_append, ints] using hown7
          replace hw7 := Lib.hid hw7
          replace hown7' := Lib.hid hown7'
          clear hown7 hgrow7 hat7 hown hw
          go_wp2_with fail
          go_roundw
          case rel => exact ⟨j + 1, out ++ [(j : Int)], by omega, by go_num, by simp; omega, he3, hown7', hw7⟩
          case measure => simp [intOf]; omega
      · have hj10 : j = 10 := by omega
        subst hj10
        have he2 : out = mayList t := by have := he.out; simpa [mayFrom] using this
        replace he2 := Lib.hid he2
        clear he
        go_wp2_with fail
        go_ret
        rw [← he2.out]
        exact ⟨_, rfl, hown.out, hw.out⟩
end Go.Proofs.Ytagmdljdcnmpdaa
