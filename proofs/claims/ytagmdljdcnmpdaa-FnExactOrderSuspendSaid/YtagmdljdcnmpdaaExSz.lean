import Derived.Test.YtagmdljdcnmpdaaTree
set_option linter.unusedVariables false
set_option linter.unusedSimpArgs false
namespace Go.Proofs.Ytagmdljdcnmpdaa
open Go Go.RowKit

/-! sizes: -1, or what is left -/
def SzR (l r m : Int) : Prop := r = -1 ∨ (0 ≤ r ∧ r + m = l)
def Sized (l m : Int) (w : World) (e : Ending) (w' : World) : Prop := ∃ r : Int, e = .returned (.int .i64 r) ∧ SzR l r m ∧ Below w.heap.size w w'

theorem szBoolS_calls (A : Option Addr) (n c : Nat) (l : Int) (w : World) (hn : n ≤ maxLen) (h0 : 0 ≤ l) (hl : l ≤ 1048576) :
    Calls Try.prog 58 #[.slice A n c, .int .i64 l] w (Sized l n w) := by
  unfold maxLen at hn
  by_cases h : l - n < 0 <;>
  · go_enter Try.func58, Try.ntmps58
    go_wp2_with fail
    go_ret
    exact ⟨_, rfl, by unfold SzR; omega, Below.refl _ _⟩

/-- the size of a row of tasks, the sizes of tasks given -/
theorem szTaskS_of (ps : List Task) (ih : ∀ p ∈ ps, ∀ (A : Option Addr) (c : Nat) (l : Int) (B : Nat) (w0 w : World), Below B w0 w → B ≤ w.heap.size → p.parts.length ≤ c → c ≤ maxLen → PartsIs B w0 A 0 p.parts → 0 ≤ l → l ≤ 1048576 →
      Calls Try.prog 88 #[.agg #[.int .i64 p.kind, .int .i64 p.n, .slice A p.parts.length c], .int .i64 l] w (Sized l (nodesL p.parts) w))
    (A : Option Addr) (c : Nat) (l : Int) (B : Nat) (w0 w : World) (hb : Below B w0 w) (hB : B ≤ w.heap.size) (hc : ps.length ≤ c) (hm : c ≤ maxLen) (hp : PartsIs B w0 A 0 ps) (h0 : 0 ≤ l) (hl : l ≤ 1048576) :
    Calls Try.prog 59 #[.slice A ps.length c, .int .i64 l] w (Sized l (nodesL ps) w) := by
  unfold maxLen at hm
  replace ih := Lib.hid ih
  replace hb := Lib.hid hb
  replace hp := Lib.hid hp
  by_cases h : l - ps.length < 0
  · go_enter Try.func59, Try.ntmps59
    go_wp2_with fail
    go_ret
    exact ⟨_, rfl, .inl rfl, Below.refl _ _⟩
  · go_enter Try.func59, Try.ntmps59
    go_wp2_with fail
    go_loopw [1, 5] (fun x i wr => ∃ (j : Nat) (r : Int), j ≤ ps.length ∧ i = .int .i64 j ∧ x = .int .i64 r ∧ 0 ≤ r ∧ r ≤ 1048576 ∧ Hid (r + (ps.length - j) + nodesL (ps.take j) = l) ∧ Hid (Below w.heap.size w wr)) (fun _ i _ => ps.length - (intOf i).toNat)
    case atStart => exact ⟨0, l - ps.length, Nat.zero_le _, rfl, rfl, by omega, by omega, Lib.hid (by simp [nodesL]), Lib.hid (Below.refl _ _)⟩
    case round =>
      obtain ⟨j, r, hj, rfl, rfl, hr0, hr1, he, hw⟩ := hrel
      by_cases hlt : j < ps.length
      · obtain ⟨b, o, A', c', rfl, hb', h1, h2, h3, h4, h5, h6⟩ := hp.out.at (below_up' hb.out hB hw.out) j hlt
        have hcall := ih.out ps[j] (List.getElem_mem hlt) A' c' r B w0 wr (below_up' hb.out hB hw.out) (Nat.le_trans hB hw.out.size) h4 h5 h6 hr0 hr1
        have htk : nodesL (ps.take (j + 1)) = nodesL (ps.take j) + (1 + nodesL ps[j].parts) := by rw [List.take_succ_eq_append_getElem hlt, nodesL_snoc, nodes_parts]
        have hbl : b < wr.heap.size := by have := hw.out.size; omega
        replace hcall := Lib.hid hcall
        replace htk := Lib.hid htk
        clear h4 h5 h6
        go_wp2_with fail
        refine hcall.out.mono ?_
        rintro e w2 ⟨r2, rfl, hz, h2⟩
        have hw2 := below_up hw.out h2
        replace hw2 := Lib.hid hw2
        clear h2 hcall
        rcases hz with rfl | ⟨hz0, hz1⟩
        · go_wp2_with fail
          go_ret
          exact ⟨_, rfl, .inl rfl, hw2.out⟩
        · have hle : r2 ≤ r := by have := nodesL_pos ps[j].parts; omega
          have he2 : r2 + (ps.length - (j + 1 : Nat)) + nodesL (ps.take (j + 1)) = l := by have := he.out; have := htk.out; omega
          have hn : ¬ r2 < 0 := by omega
          replace hz1 := Lib.hid hz1
          replace he2 := Lib.hid he2
          go_wp2_with fail
          go_roundw
          case rel => exact ⟨j + 1, r2, by omega, by go_num, rfl, hz0, by omega, he2, hw2⟩
          case measure => simp [intOf]; omega
      · have e : j = ps.length := by omega
        subst e
        have he2 := he.out
        rw [List.take_length] at he2
        replace he2 := Lib.hid he2
        go_wp2_with fail
        go_ret
        exact ⟨_, rfl, .inr ⟨hr0, by have := he2.out; omega⟩, hw.out⟩
theorem szTask_calls : ∀ (p : Task) (A : Option Addr) (c : Nat) (l : Int) (B : Nat) (w0 w : World), Below B w0 w → B ≤ w.heap.size → p.parts.length ≤ c → c ≤ maxLen → PartsIs B w0 A 0 p.parts → 0 ≤ l → l ≤ 1048576 →
      Calls Try.prog 88 #[.agg #[.int .i64 p.kind, .int .i64 p.n, .slice A p.parts.length c], .int .i64 l] w (Sized l (nodesL p.parts) w) := by
  refine Task.ind ?_
  intro k n ps ih A c l B w0 w hb hB hc hm hp h0 hl
  simp only [Task.kind, Task.n, Task.parts] at hc hp ⊢
  have hS := fun w1 (hw : Below w.heap.size w w1) => szTaskS_of ps ih A c l B w0 w1 (below_up' hb hB hw) (Nat.le_trans hB hw.size) hc hm hp h0 hl
  replace hS := Lib.hid hS
  clear ih hb hp
  go_enter Try.func88, Try.ntmps88
  go_wp2_with fail
  refine (hS.out _ (below_al (Below.refl _ _) _)).mono ?_
  rintro e w1 ⟨r, rfl, hz, h1⟩
  have b1 := below_from h1
  replace b1 := Lib.hid b1
  clear h1 hS
  rcases hz with rfl | ⟨hz0, hz1⟩
  · go_wp2_with fail
    go_ret
    exact ⟨_, rfl, .inl rfl, b1.out⟩
  · have hn : ¬ r < 0 := by omega
    replace hz1 := Lib.hid hz1
    go_wp2_with fail
    go_ret
    exact ⟨_, rfl, .inr ⟨hz0, hz1.out⟩, b1.out⟩
theorem szTaskS_calls (ps : List Task) (A : Option Addr) (c : Nat) (l : Int) (B : Nat) (w0 w : World) (hb : Below B w0 w) (hB : B ≤ w.heap.size) (hc : ps.length ≤ c) (hm : c ≤ maxLen) (hp : PartsIs B w0 A 0 ps) (h0 : 0 ≤ l) (hl : l ≤ 1048576) :
    Calls Try.prog 59 #[.slice A ps.length c, .int .i64 l] w (Sized l (nodesL ps) w) :=
  szTaskS_of ps (fun p _ => szTask_calls p) A c l B w0 w hb hB hc hm hp h0 hl

theorem szSheet_calls (Am At : Option Addr) (nm cm ct : Nat) (ps : List Task) (l : Int) (B : Nat) (w0 w : World) (hb : Below B w0 w) (hB : B ≤ w.heap.size) (hnm : nm ≤ maxLen) (hc : ps.length ≤ ct) (hm : ct ≤ maxLen) (hp : PartsIs B w0 At 0 ps) (h0 : 0 ≤ l) (hl : l ≤ 1048576) :
    Calls Try.prog 26 #[.agg #[.slice Am nm cm, .slice At ps.length ct], .int .i64 l] w (Sized l (nm + nodesL ps) w) := by
  have h1 := fun w1 => szBoolS_calls Am nm cm l w1 hnm h0 hl
  have h2 := fun w1 (hw : Below w.heap.size w w1) (l : Int) (h0 : 0 ≤ l) (hl : l ≤ 1048576) => szTaskS_calls ps At ct l B w0 w1 (below_up' hb hB hw) (Nat.le_trans hB hw.size) hc hm hp h0 hl
  replace h1 := Lib.hid h1
  replace h2 := Lib.hid h2
  clear hb hp
  go_enter Try.func26, Try.ntmps26
  go_wp2_with fail
  refine (h1.out _).mono ?_
  rintro e w1 ⟨r, rfl, hz, hw1⟩
  have x1 : w1.cell? ⟨w.heap.size, 1, none⟩ = some (.slice At ps.length ct) := (hw1.cell (p := ⟨w.heap.size, 1, none⟩) (by simp)).trans (by simp)
  have b1 := below_from hw1
  replace b1 := Lib.hid b1
  clear hw1 h1
  rcases hz with rfl | ⟨hz0, hz1⟩
  · go_wp2_with fail
    go_ret
    exact ⟨_, rfl, .inl rfl, b1.out⟩
  · have hn : ¬ r < 0 := by omega
    have hc2 := h2.out w1 b1.out r hz0 (by omega)
    replace hz1 := Lib.hid hz1
    replace hc2 := Lib.hid hc2
    go_wp2_with fail
    refine hc2.out.mono ?_
    rintro e w2 ⟨r2, rfl, hz', hw2⟩
    have b2 := below_up b1.out hw2
    replace b2 := Lib.hid b2
    clear hw2 hc2 h2
    rcases hz' with rfl | ⟨hz0', hz1'⟩
    · go_wp2_with fail
      go_ret
      exact ⟨_, rfl, .inl rfl, b2.out⟩
    · have hn2 : ¬ r2 < 0 := by omega
      replace hz1' := Lib.hid hz1'
      go_wp2_with fail
      go_ret
      exact ⟨_, rfl, .inr ⟨hz0', by have := hz1.out; have := hz1'.out; omega⟩, b2.out⟩
end Go.Proofs.Ytagmdljdcnmpdaa
