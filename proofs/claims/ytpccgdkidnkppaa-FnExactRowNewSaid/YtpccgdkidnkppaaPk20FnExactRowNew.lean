import Derived.Test.YtpccgdkidnkppaaProg
import Derived.OpenShut
import Derived.Deep.Slices
import Derived.Deep.Fields
import Derived.ProofKit
import Derived.Test.YtpccgdkidnkppaaPk1FnExactRowNew
import Derived.Test.YtpccgdkidnkppaaPk3FnExactRowNew
import Derived.Test.YtpccgdkidnkppaaPk4FnExactRowNew
import Derived.Test.YtpccgdkidnkppaaPk11FnExactRowNew
import Derived.Test.YtpccgdkidnkppaaPk15FnExactRowNew
import Derived.Test.YtpccgdkidnkppaaPk18FnExactRowNew
import Derived.Test.YtpccgdkidnkppaaPk19FnExactRowNew
set_option linter.unusedVariables false
set_option linter.unusedSimpArgs false
namespace Go.Proofs.Ytpccgdkidnkppaa
open Go Go.RowKit

def sumL : List (List Int) → Int
  | [] => 0
  | x :: l => x.length + sumL l
theorem sumL_pos : ∀ l, 0 ≤ sumL l
  | [] => by simp [sumL]
  | x :: l => by have := sumL_pos l; simp only [sumL]; omega
theorem sumL_app : ∀ a b, sumL (a ++ b) = sumL a + sumL b
  | [], b => by simp [sumL]
  | x :: a, b => by rw [List.cons_append, sumL, sumL_app a b, sumL]; omega
theorem sumL_take (l : List (List Int)) (j : Nat) : sumL (l.take j) ≤ sumL l := by
  have h := sumL_app (l.take j) (l.drop j)
  rw [List.take_append_drop] at h
  have := sumL_pos (l.drop j)
  omega
theorem sumL_succ {l : List (List Int)} {j : Nat} (h : j < l.length) : sumL (l.take (j + 1)) = sumL (l.take j) + l[j].length := by
  rw [List.take_succ_eq_append_getElem h, sumL_app]; simp [sumL]
def marksR : Int → List (List Int) → List (List Int)
  | _, [] => []
  | k, x :: l => marksI k x.length :: marksR (k + x.length) l
theorem marksR_length : ∀ (l : List (List Int)) (k : Int), (marksR k l).length = l.length
  | [], k => rfl
  | x :: l, k => by rw [marksR, List.length_cons, marksR_length l, List.length_cons]
theorem marksR_snoc : ∀ (l : List (List Int)) (k : Int) (x : List Int), marksR k (l ++ [x]) = marksR k l ++ [marksI (k + sumL l) x.length]
  | [], k, x => by simp [marksR, sumL]
  | y :: l, k, x => by rw [List.cons_append, marksR, marksR_snoc l, marksR, sumL, List.cons_append]; congr 3; rw [Int.add_assoc]
theorem marksR_get : ∀ (l : List (List Int)) (k : Int) (j : Nat) (h : j < l.length) (h2 : j < (marksR k l).length), (marksR k l)[j] = marksI (k + sumL (l.take j)) l[j].length
  | [], k, j, h, _ => by simp at h
  | x :: l, k, 0, h, _ => by simp [marksR, sumL]
  | x :: l, k, j + 1, h, h2 => by
    have := marksR_get l (k + x.length) j (by simpa using h) (by rw [marksR_length]; simpa using h)
    simp only [marksR, List.getElem_cons_succ, List.take_succ_cons, sumL]
    rw [this, Int.add_assoc]
section
variable {base H : Nat} {w w2 : World} {v : Value} {vs : List Value} {ll : List (List Int)}
theorem OwnRR.keep (h : OwnRR base H w v vs ll) (hk : ∀ i, base ≤ i → i < H → w2.heap[i]? = w.heap[i]?) : OwnRR base H w2 v vs ll :=
  ⟨ownsRow_block h.out fun i hi => hk i (h.out.lt i hi).1 (h.vlt i hi), fun i h1 h2 => ownsRow_block (h.inn i h1 h2) fun g hg => hk g ((h.inn i h1 h2).lt g hg).1 (h.lt _ (List.getElem_mem h1) g hg), h.apart, h.sep, h.lt, h.vlt⟩
theorem OwnRR.rowsAt {A : Option Addr} {n c : Nat} (h : OwnRR base H w (.slice A n c) vs ll) : RowsAt w.heap.size w A ll := by
  obtain ⟨A', c', e, _, _, h4⟩ := h.rows
  cases e
  exact h4
theorem OwnRR.put (h : OwnRR base H w v vs ll) {j : Nat} (hj : j < vs.length) (hjl : j < ll.length) {ys : List Int} (hk : ∀ i, i < w.heap.size → vs[j].ownBlock ≠ some i → w2.heap[i]? = w.heap[i]?) (ho : w2.ownsRow base 3 1 vs[j] ys.length (ints ys)) : OwnRR base H w2 v vs (ll.set j ys) := by
  refine ⟨?_, fun i h1 h2 => ?_, h.apart, h.sep, h.lt, h.vlt⟩
  · rw [List.length_set]
    exact ownsRow_block h.out fun i hi => hk i (h.out.lt i hi).2 (fun e => h.sep _ (List.getElem_mem hj) i e hi)
  · by_cases e : i = j
    · subst e
      simp only [List.getElem_set_self]
      exact ho
    · have h3 : i < ll.length := by simpa using h2
      have := h.inn i h1 h3
      rw [List.getElem_set_ne (by omega)]
      exact ownsRow_block this fun g hg => hk g (this.lt g hg).2 (fun e2 => e (h.apart i j h1 hj g hg e2))
end
set_option maxHeartbeats 4000000 in
theorem markIntSS_calls (base H : Nat) (v : Value) (vs : List Value) (ll : List (List Int)) (k : Int) (w : World) (h : OwnRR base H w v vs ll) (h0 : 0 ≤ k) (hk : k + sumL ll ≤ 1000000000) :
    Calls Try.prog 43 #[v, .int .i64 k] w fun e w' => e = .returned (.int .i64 (k + sumL ll)) ∧ OwnRR base H w' v vs (marksR k ll) ∧ Turn (fun i => base ≤ i ∧ i < H) (fun i => base ≤ i ∧ i < H) w w' := by
  obtain ⟨A, c, rfl, hl1, hl2, hl3⟩ := ownsRow_cells h.out
  have hlen := h.len
  unfold maxLen at hl2
  replace h := Lib.hid h
  clear hl3
  go_enter Try.func43, Try.ntmps43
  go_wp2_with fail
  go_loopw [1, 5] (fun x i wr => ∃ (j : Nat) (q : Int), j ≤ ll.length ∧ i = .int .i64 j ∧ x = .int .i64 q ∧ Hid (q = k + sumL (ll.take j)) ∧ Hid (OwnRR base H wr (.slice A ll.length c) vs (marksR k (ll.take j) ++ ll.drop j)) ∧ Hid (Turn (fun i => base ≤ i ∧ i < H) (fun i => base ≤ i ∧ i < H) w wr)) (fun _ i _ => ll.length - (intOf i).toNat)
  case atStart => exact ⟨0, k, Nat.zero_le _, rfl, rfl, Lib.hid (by simp [sumL]), Lib.hid (by simpa [marksR] using h.out), Lib.hid (Turn.refl _ _)⟩
  case round =>
    obtain ⟨j, q, hj, rfl, rfl, hq, hO, hT⟩ := hrel
    by_cases hlt : j < ll.length
    · have hlj : (marksR k (ll.take j)).length = j := by rw [marksR_length, List.length_take]; omega
      have hcl : (marksR k (ll.take j) ++ ll.drop j).length = ll.length := by rw [List.length_append, hlj, List.length_drop]; omega
      have hvj : j < vs.length := by omega
      have hcj : (marksR k (ll.take j) ++ ll.drop j)[j]'(by omega) = ll[j] := by
        rw [List.getElem_append_right (by omega)]
        simp [hlj]
      have hin := hO.out.inn j hvj (by omega)
      rw [hcj] at hin
      obtain ⟨A', c', e', -, -, hcell⟩ := ownsRow_cells hO.out.out
      rw [hcl] at e'
      cases e'
      obtain ⟨b, rfl, hb, y⟩ := hcell j hvj
      obtain ⟨Ar, cr, er, -, -⟩ := ownsRow_cells hin
      rw [er] at y
      have hss := sumL_succ hlt
      have hst := sumL_take ll (j + 1)
      have hsp := sumL_pos (ll.take j)
      have hqq := hq.out
      have hcall := markIntS_calls base vs[j] ll[j] q wr hin (by omega) (by omega)
      rw [er] at hcall
      replace hcall := Lib.hid hcall
      replace er := Lib.hid er
      replace hss := Lib.hid hss
      replace hst := Lib.hid hst
      replace hcj := Lib.hid hcj
      replace hlj := Lib.hid hlj
      replace hcl := Lib.hid hcl
      clear hcell hqq hsp
      go_wp2_with fail
      refine hcall.out.mono ?_
      rintro e w2 ⟨rfl, hM, t2⟩
      have hM2 : w2.ownsRow base 3 1 vs[j] (marksI q ll[j].length).length (ints (marksI q ll[j].length)) := by rw [er.out, marksI_length]; exact hM
      have hO2 := hO.out.put hvj (by rw [hcl.out]; exact hlt) (fun i hi hne => t2.block i hi (fun e => hne (by rw [er.out]; exact e))) hM2
      have hset : (marksR k (ll.take j) ++ ll.drop j).set j (marksI q ll[j].length) = marksR k (ll.take (j + 1)) ++ ll.drop (j + 1) := by
        have hlj' := hlj.out
        rw [List.set_append_right _ _ (by omega), hlj', Nat.sub_self, List.drop_eq_getElem_cons hlt, List.set_cons_zero, List.take_succ_eq_append_getElem hlt, marksR_snoc, ← hq.out, List.append_assoc]; rfl
      rw [hset] at hO2
      have hT2 : Turn (fun i => base ≤ i ∧ i < H) (fun i => base ≤ i ∧ i < H) w w2 :=
        ⟨t2.os.trans hT.out.os, t2.tape.trans hT.out.tape, t2.output.trans hT.out.output, Nat.le_trans hT.out.size t2.size, fun i hi hF => (t2.block i (by have := hT.out.size; omega) (fun e => hF (by
          have e2 : vs[j].ownBlock = some i := by rw [er.out]; exact e
          exact ⟨((hO.out.inn j hvj (by rw [hcl.out]; exact hlt)).lt i e2).1, hO.out.lt _ (List.getElem_mem hvj) i e2⟩))).trans (hT.out.block i hi hF), fun i h => .inl h⟩
      have hq2 : q + ll[j].length = k + sumL (ll.take (j + 1)) := by have := hq.out; have := hss.out; omega
      replace hO2 := Lib.hid hO2
      replace hT2 := Lib.hid hT2
      replace hq2 := Lib.hid hq2
      replace hset := Lib.hid hset
      clear hM hM2 t2 hcall hO hT hq y
      go_wp2_with fail
      go_roundw
      case rel => exact ⟨j + 1, _, by omega, by go_num, rfl, hq2, hO2, hT2⟩
      case measure => simp [intOf]; omega
    · have e : ll.take j = ll := List.take_of_length_le (by omega)
      have e2 : ll.drop j = [] := List.drop_eq_nil_of_le (by omega)
      have hO2 := hO.out
      have hq2 := hq.out
      rw [e, e2, List.append_nil] at hO2
      rw [e] at hq2
      replace hO2 := Lib.hid hO2
      replace hq2 := Lib.hid hq2
      replace e := Lib.hid e
      replace e2 := Lib.hid e2
      go_wp2_with fail
      go_ret
      exact ⟨by rw [← hq2.out]; rfl, hO2.out, hT.out⟩
set_option maxHeartbeats 2000000 in
theorem heldIntSS_calls (A : Option Addr) (c : Nat) (ll : List (List Int)) (k : Int) (w : World) (hn : ll.length ≤ 1048576) (h0 : 0 ≤ k) (hk : k + sumL ll ≤ 1000000000) (hx : RowsAt w.heap.size w A (marksR k ll)) :
    Calls Try.prog 44 #[.slice A ll.length c, .int .i64 k] w fun e w' => e = .returned (.int .i64 (k + sumL ll)) ∧ Below w.heap.size w w' := by
  replace hx := Lib.hid hx
  go_enter Try.func44, Try.ntmps44
  go_wp2_with fail
  go_loopw [1, 5] (fun x i wr => ∃ (j : Nat) (q : Int), j ≤ ll.length ∧ i = .int .i64 j ∧ x = .int .i64 q ∧ Hid (q = k + sumL (ll.take j)) ∧ Hid (Below w.heap.size w wr)) (fun _ i _ => ll.length - (intOf i).toNat)
  case atStart => exact ⟨0, k, Nat.zero_le _, rfl, rfl, Lib.hid (by simp [sumL]), Lib.hid (Below.refl _ _)⟩
  case round =>
    obtain ⟨j, q, hj, rfl, rfl, hq, hw⟩ := hrel
    by_cases hlt : j < ll.length
    · obtain ⟨b, o, Ar, cr, rfl, hb, y, hi⟩ := hx.out.at hw.out hw.out.size j (by rw [marksR_length]; exact hlt)
      rw [marksR_get ll k j hlt] at y hi
      rw [marksI_length] at y
      rw [← hq.out] at hi
      have hss := sumL_succ hlt
      have hst := sumL_take ll (j + 1)
      have hsp := sumL_pos (ll.take j)
      have hqq := hq.out
      have hcall := heldIntS_calls Ar cr ll[j].length q wr (by omega) (by omega) (by omega) hi
      have hn0 : ¬ q + (ll[j].length : Int) < 0 := by omega
      replace hcall := Lib.hid hcall
      have hq2 : q + ll[j].length = k + sumL (ll.take (j + 1)) := by omega
      replace hss := Lib.hid hss
      replace hst := Lib.hid hst
      replace hq2 := Lib.hid hq2
      clear hi hqq hsp
      go_wp2_with fail
      refine hcall.out.mono ?_
      rintro e w2 ⟨rfl, h2⟩
      have hw2 := below_up hw.out h2
      replace hw2 := Lib.hid hw2
      clear h2 hcall y
      go_wp2_with fail
      go_roundw
      case rel => exact ⟨j + 1, _, by omega, by go_num, rfl, hq2, hw2⟩
      case measure => simp [intOf]; omega
    · have e : ll.take j = ll := List.take_of_length_le (by omega)
      have hq2 := hq.out
      rw [e] at hq2
      replace hq2 := Lib.hid hq2
      replace e := Lib.hid e
      go_wp2_with fail
      go_ret
      exact ⟨by rw [← hq2.out]; rfl, hw.out⟩
end Go.Proofs.Ytpccgdkidnkppaa

set_option linter.unusedVariables false
set_option linter.unusedSimpArgs false
namespace Go.Proofs.Ytpccgdkidnkppaa
open Go Go.RowKit

/-- both sides give the same, the program's in memory of its own -/
def BothRowNew (made : List Bool) (tasks : List Task) (x1 : List Ordr) (r : List (List Int) × Bool) : Prop :=
  (∀ (w : World) (Am At : Option Addr) (cm ct : Nat) (A1 : Option Addr) (c1 : Nat), SheetAt w.heap.size w Am cm At ct made tasks → OrdsAt w.heap.size w A1 x1 → x1.length ≤ c1 → c1 ≤ maxLen → Calls Try.prog 34 #[.agg #[.slice Am made.length cm, .slice At tasks.length ct], .slice A1 x1.length c1] w (fun e w' => GivesRR r e w w')) ∧
  (∀ (w : World) (Am At : Option Addr) (cm ct : Nat) (A1 : Option Addr) (c1 : Nat), SheetAt w.heap.size w Am cm At ct made tasks → OrdsAt w.heap.size w A1 x1 → x1.length ≤ c1 → c1 ≤ maxLen → Calls Try.prog 35 #[.agg #[.slice Am made.length cm, .slice At tasks.length ct], .slice A1 x1.length c1] w (fun e w' => GivesRR r e w w'))
set_option maxRecDepth 10000 in
set_option maxHeartbeats 16000000 in
theorem fnExactRowNew_calls (Am At : Option Addr) (cm ct : Nat) (made : List Bool) (tasks : List Task) (A1 : Option Addr) (c1 : Nat) (x1 : List Ordr) (w : World) (hs : SheetAt w.heap.size w Am cm At ct made tasks) (hi1 : OrdsAt w.heap.size w A1 x1) (hl1 : x1.length ≤ c1) (hc1 : c1 ≤ maxLen) 
    (H : (made.length : Int) + nodesL tasks ≤ 1048576 → ordsL x1 ≤ 1048576 → ∃ r, (r.1.length ≤ 1000000 ∧ sumL r.1 ≤ 900000000 ∧ ∀ x ∈ r.1, x.length ≤ 1048576) ∧ BothRowNew made tasks x1 r) :
    Calls Try.prog 9 #[.agg #[.slice Am made.length cm, .slice At tasks.length ct], .slice A1 x1.length c1] w fun e w' => e = .returned (.bool true) ∧ Below w.heap.size w w' := by
  have hsl := Nat.le_trans hs.lt hs.mt
  have hml := Nat.le_trans hs.lm hs.mm
  unfold maxLen at hsl hml
  have hsz := fun w1 (hw : Below w.heap.size w w1) => szSheet_calls Am At made.length cm ct tasks 1048576 w.heap.size w w1 hw hw.size (Nat.le_trans hs.lm hs.mm) hs.lt hs.mt hs.tasks (by omega) (by omega)
  have hto := fun (h1 : made.length ≤ 1048576) (h2 : nodesL tasks ≤ 1048576) w1 (hw : Below w.heap.size w w1) => toSheet_calls Am At cm ct made tasks w.heap.size w w1 hw hw.size h1 hs.made h2 hs.lt hs.mt hs.tasks
  have hsz1 := fun (r : Int) w1 (hw : Below w.heap.size w w1) (a : 0 ≤ r) (b : r ≤ 1048576) => szOrderS_calls A1 c1 x1 r w.heap.size w w1 hw hw.size (Nat.le_trans hl1 hc1) hi1 a b
  have hti1 := fun (ho : ordsL x1 ≤ 1048576) w1 (hw : Below w.heap.size w w1) => toOrderS_calls A1 c1 x1 w.heap.size w w1 hw hw.size (by have := ordsL_len x1; omega) (fun x hx => by have := ordsL_mem x1 x hx; exact ⟨by omega, by omega⟩) hi1
  replace hsz := Lib.hid hsz
  replace hto := Lib.hid hto
  replace H := Lib.hid H
  replace hti1 := Lib.hid hti1
  replace hsz1 := Lib.hid hsz1
  clear hs hi1
  go_enter Try.func9, Try.ntmps9
  go_wp2_with fail
  refine (hsz.out _ (below_al (Below.refl _ _) _)).mono ?_
  rintro e w1 ⟨r, rfl, hz, h1⟩
  have bx1 := (h1.block w.heap.size (by simp)).trans (heap_new rfl)
  have b1 := below_from h1
  have s1 : w.heap.size < w1.heap.size := by have := h1.size; simp at this; omega
  replace b1 := Lib.hid b1
  clear h1 hsz
  rcases hz with rfl | ⟨hz0, hz1⟩
  · go_wp2_with fail
    go_ret
    exact ⟨rfl, b1.out⟩
  have hn : ¬ r < 0 := by omega
  have hnp := nodesL_pos tasks
  have htl := parts_len tasks
  have hm1 : made.length ≤ 1048576 := by omega
  have hn1 : nodesL tasks ≤ 1048576 := by omega

  replace hz1 := Lib.hid hz1
  replace bx1 := Lib.hid bx1
  have y0 : w1.cell? ⟨w.heap.size, 0, none⟩ = some (.slice Am made.length cm) := (cellm bx1.out 0).trans rfl
  have y1 : w1.cell? ⟨w.heap.size, 1, none⟩ = some (.slice At tasks.length ct) := (cellm bx1.out 1).trans rfl
  have hzi := hsz1.out r w1 b1.out (by omega) (by have := hz1.out; omega)
  replace hzi := Lib.hid hzi
  go_wp2_with fail
  refine hzi.out.mono ?_
  rintro e w2 ⟨r1, rfl, hz, h2⟩
  clear hzi hsz1
  have s2 : w1.heap.size ≤ w2.heap.size := h2.size
  have b2 := below_up b1.out h2
  have bx2 := (h2.block _ (block_lt bx1.out)).trans bx1.out
  replace b2 := Lib.hid b2
  replace bx2 := Lib.hid bx2
  clear y0 y1
  have y0 : w2.cell? ⟨w.heap.size, 0, none⟩ = some (.slice Am made.length cm) := (cellm bx2.out 0).trans rfl
  have y1 : w2.cell? ⟨w.heap.size, 1, none⟩ = some (.slice At tasks.length ct) := (cellm bx2.out 1).trans rfl
  clear h2 b1 bx1
  rcases hz with rfl | ⟨hz1a, hz1b⟩
  · go_wp2_with fail
    go_ret
    exact ⟨rfl, b2.out⟩
  have hng1 : ¬ r1 < 0 := by omega
  have hop1 := ordsL_pos x1
  have lo1 : ordsL x1 ≤ 1048576 := by have := hz1.out; omega
  have ll1 : (x1.length : Int) ≤ ordsL x1 := ordsL_len x1
  have hsm1 : ∀ x ∈ x1, x.1.length ≤ maxLen ∧ x.2.length ≤ maxLen := fun x hx => by have := ordsL_mem x1 x hx; unfold maxLen; exact ⟨by omega, by omega⟩
  replace hsm1 := Lib.hid hsm1
  replace hz1b := Lib.hid hz1b
  obtain ⟨R, ⟨hRl, hRs, hRx⟩, hIm, hSp⟩ := H.out (by have := hz1.out; omega) lo1
  obtain ⟨rl, rb⟩ := R
  dsimp only at hRl hRs hRx
  have hto := hto.out hm1 hn1
  replace hto := Lib.hid hto
  replace hIm := Lib.hid hIm
  replace hSp := Lib.hid hSp
  replace hRx := Lib.hid hRx
  clear H
  have hti1 := hti1.out lo1
  replace hti1 := Lib.hid hti1
  go_wp2_with fail
  refine (hto.out _ b2.out).mono ?_
  rintro e w3 ⟨bma, bta, mida, rfl, hSa, h3⟩
  have s3 : w2.heap.size ≤ w3.heap.size := h3.size
  have b3 := below_up b2.out h3
  have bx3 := (h3.block _ (block_lt bx2.out)).trans bx2.out
  replace b3 := Lib.hid b3
  replace bx3 := Lib.hid bx3
  clear y0 y1
  have y0 : w3.cell? ⟨w.heap.size, 0, none⟩ = some (.slice Am made.length cm) := (cellm bx3.out 0).trans rfl
  have y1 : w3.cell? ⟨w.heap.size, 1, none⟩ = some (.slice At tasks.length ct) := (cellm bx3.out 1).trans rfl
  clear h3 b2 bx2
  have ea : w3.heap.size ≤ w3.heap.size := Nat.le_refl _
  replace hSa := Lib.hid hSa
  go_wp2_with fail
  refine (hti1.out _ b3.out).mono ?_
  rintro e w4 ⟨rfl, hI1a, h4⟩
  have s4 : w3.heap.size ≤ w4.heap.size := h4.size
  have b4 := below_up b3.out h4
  have bx4 := (h4.block _ (block_lt bx3.out)).trans bx3.out
  replace b4 := Lib.hid b4
  replace bx4 := Lib.hid bx4
  clear y0 y1
  have y0 : w4.cell? ⟨w.heap.size, 0, none⟩ = some (.slice Am made.length cm) := (cellm bx4.out 0).trans rfl
  have y1 : w4.cell? ⟨w.heap.size, 1, none⟩ = some (.slice At tasks.length ct) := (cellm bx4.out 1).trans rfl
  replace hSa := Lib.hid (hSa.out.kept (fun b q1 q2 => h4.block b (by omega)) (Nat.le_refl _))
  clear h4 b3 bx3
  replace hI1a := Lib.hid hI1a
  have hsp := hSp.out w4 (some ⟨bma, 0, none⟩) (some ⟨bta, 0, none⟩) made.length tasks.length (some ⟨w3.heap.size, 0, none⟩) x1.length (hSa.out.at (by omega) (by unfold maxLen; omega) (by unfold maxLen; omega)) (hI1a.out.at (by omega) hsm1.out) (Nat.le_refl _) (by unfold maxLen; omega)
  replace hsp := Lib.hid hsp
  go_wp2_with fail
  refine hsp.out.mono ?_
  rintro e w5 ⟨vw, vsw, rfl, hW0, h5⟩
  obtain ⟨Aw, cw, rfl, hw1, hw2, hW⟩ := hW0.rows
  clear hsp hSp hW0
  dsimp only at hw1 hW ⊢
  have s5 : w4.heap.size ≤ w5.heap.size := h5.size
  have b5 := below_up b4.out h5
  have bx5 := (h5.block _ (block_lt bx4.out)).trans bx4.out
  replace b5 := Lib.hid b5
  replace bx5 := Lib.hid bx5
  clear y0 y1
  have y0 : w5.cell? ⟨w.heap.size, 0, none⟩ = some (.slice Am made.length cm) := (cellm bx5.out 0).trans rfl
  have y1 : w5.cell? ⟨w.heap.size, 1, none⟩ = some (.slice At tasks.length ct) := (cellm bx5.out 1).trans rfl
  clear h5 b4 bx4
  replace hW := Lib.hid hW
  go_wp2_with fail
  refine (hto.out _ b5.out).mono ?_
  rintro e w6 ⟨bmx, btx, midx, rfl, hSx, h6⟩
  have s6 : w5.heap.size ≤ w6.heap.size := h6.size
  have b6 := below_up b5.out h6
  have bx6 := (h6.block _ (block_lt bx5.out)).trans bx5.out
  replace b6 := Lib.hid b6
  replace bx6 := Lib.hid bx6
  clear y0 y1
  have y0 : w6.cell? ⟨w.heap.size, 0, none⟩ = some (.slice Am made.length cm) := (cellm bx6.out 0).trans rfl
  have y1 : w6.cell? ⟨w.heap.size, 1, none⟩ = some (.slice At tasks.length ct) := (cellm bx6.out 1).trans rfl
  replace hW := Lib.hid (hW.out.up (h6.mono (by omega)) (Nat.le_refl _))
  clear h6 b5 bx5
  have hXb : (w6.alloc (.cells #[.slice (some ⟨bmx, 0, none⟩) made.length made.length, .slice (some ⟨btx, 0, none⟩) tasks.length tasks.length] 31 (0, 0))).heap[w6.heap.size]? = some (.cells #[.slice (some ⟨bmx, 0, none⟩) made.length made.length, .slice (some ⟨btx, 0, none⟩) tasks.length tasks.length] 31 (0, 0)) := heap_new rfl
  obtain ⟨w7, hw7⟩ : ∃ w7, w7 = w6.alloc (.cells #[.slice (some ⟨bmx, 0, none⟩) made.length made.length, .slice (some ⟨btx, 0, none⟩) tasks.length tasks.length] 31 (0, 0)) := ⟨_, rfl⟩
  have h7 : Below w6.heap.size w6 w7 := by rw [hw7]; exact below_al (Below.refl _ _) _
  have sx7 : w6.heap.size < w7.heap.size := by rw [hw7]; simp
  have xsz : w7.heap.size = w6.heap.size + 1 := by rw [hw7]; simp
  rw [← hw7] at hXb
  replace hw7 := Lib.hid hw7
  replace hXb := Lib.hid hXb
  replace xsz := Lib.hid xsz
  replace hSx := Lib.hid hSx
  have s7 : w6.heap.size ≤ w7.heap.size := h7.size
  have b7 := below_up b6.out h7
  have bx7 := (h7.block _ (block_lt bx6.out)).trans bx6.out
  replace b7 := Lib.hid b7
  replace bx7 := Lib.hid bx7
  clear y0 y1
  have y0 : w7.cell? ⟨w.heap.size, 0, none⟩ = some (.slice Am made.length cm) := (cellm bx7.out 0).trans rfl
  have y1 : w7.cell? ⟨w.heap.size, 1, none⟩ = some (.slice At tasks.length ct) := (cellm bx7.out 1).trans rfl
  replace hW := Lib.hid (hW.out.up (h7.mono (by omega)) (Nat.le_refl _))
  replace hSx := Lib.hid (hSx.out.kept (fun b q1 q2 => h7.block b (by omega)) (Nat.le_refl _))
  clear h7 b6 bx6
  go_wp2_with fail
  have hcc := (hti1.out _ b7.out)
  rw [hw7.out] at hcc
  refine hcc.mono ?_
  clear hcc
  rw [← hw7.out]
  rintro e w8 ⟨rfl, hI1x, h8⟩
  have sx8 : w7.heap.size < w8.heap.size := by obtain ⟨f, g, hh⟩ := hI1x; exact hh.hhi
  have s8 : w7.heap.size ≤ w8.heap.size := h8.size
  have b8 := below_up b7.out h8
  have bx8 := (h8.block _ (block_lt bx7.out)).trans bx7.out
  replace b8 := Lib.hid b8
  replace bx8 := Lib.hid bx8
  clear y0 y1
  have y0 : w8.cell? ⟨w.heap.size, 0, none⟩ = some (.slice Am made.length cm) := (cellm bx8.out 0).trans rfl
  have y1 : w8.cell? ⟨w.heap.size, 1, none⟩ = some (.slice At tasks.length ct) := (cellm bx8.out 1).trans rfl
  replace hW := Lib.hid (hW.out.up (h8.mono (by omega)) (Nat.le_refl _))
  replace hSx := Lib.hid (hSx.out.kept (fun b q1 q2 => h8.block b (by omega)) (Nat.le_refl _))
  replace hXb := Lib.hid ((h8.block _ (block_lt hXb.out)).trans hXb.out)
  clear h8 b7 bx7
  replace hI1x := Lib.hid hI1x
  have u0 : w8.cell? ⟨w6.heap.size, 0, none⟩ = some (.slice (some ⟨bmx, 0, none⟩) made.length made.length) := (cellm hXb.out 0).trans rfl
  have u1 : w8.cell? ⟨w6.heap.size, 1, none⟩ = some (.slice (some ⟨btx, 0, none⟩) tasks.length tasks.length) := (cellm hXb.out 1).trans rfl
  have him := hIm.out w8 (some ⟨bmx, 0, none⟩) (some ⟨btx, 0, none⟩) made.length tasks.length (some ⟨w7.heap.size, 0, none⟩) x1.length (hSx.out.at (by omega) (by unfold maxLen; omega) (by unfold maxLen; omega)) (hI1x.out.at (by omega) hsm1.out) (Nat.le_refl _) (by unfold maxLen; omega)
  replace him := Lib.hid him
  go_wp2_with fail
  refine him.out.mono ?_
  rintro e w9 ⟨g0, vsg, rfl, hG, h9⟩
  clear him
  dsimp only at hG ⊢
  have s9 : w8.heap.size ≤ w9.heap.size := h9.size
  have b9 := below_up b8.out h9
  have bx9 := (h9.block _ (block_lt bx8.out)).trans bx8.out
  replace b9 := Lib.hid b9
  replace bx9 := Lib.hid bx9
  clear y0 y1
  have y0 : w9.cell? ⟨w.heap.size, 0, none⟩ = some (.slice Am made.length cm) := (cellm bx9.out 0).trans rfl
  have y1 : w9.cell? ⟨w.heap.size, 1, none⟩ = some (.slice At tasks.length ct) := (cellm bx9.out 1).trans rfl
  replace hW := Lib.hid (hW.out.up (h9.mono (by omega)) (Nat.le_refl _))
  replace hSx := Lib.hid (hSx.out.kept (fun b q1 q2 => h9.block b (by omega)) (Nat.le_refl _))
  replace hXb := Lib.hid ((h9.block _ (block_lt hXb.out)).trans hXb.out)
  replace hI1x := Lib.hid (hI1x.out.kept (fun b q1 q2 => h9.block b (by omega)) (Nat.le_refl _))
  clear h9 b8 bx8
  replace hG := Lib.hid hG
  clear u0 u1
  have u0 : w9.cell? ⟨w6.heap.size, 0, none⟩ = some (.slice (some ⟨bmx, 0, none⟩) made.length made.length) := (cellm hXb.out 0).trans rfl
  have u1 : w9.cell? ⟨w6.heap.size, 1, none⟩ = some (.slice (some ⟨btx, 0, none⟩) tasks.length tasks.length) := (cellm hXb.out 1).trans rfl
  obtain ⟨Ag, cg, hg0, hg1, hg2, -⟩ := hG.out.rows
  subst hg0
  unfold maxLen at hg2 hw2
  have hneq : (rb != rb) = false := by cases rb <;> rfl
  have heq := eqIntSS_same (Ag) cg (Aw) cw rl w9 (hG.out.rowsAt) (hW.out.up (Below.refl _ _) (by omega)) (by omega) hRx.out
  replace heq := Lib.hid heq
  go_wp2_with fail
  refine heq.out.mono ?_
  rintro e w10 ⟨rfl, h10⟩
  clear heq
  have s10 : w9.heap.size ≤ w10.heap.size := h10.size
  have b10 := below_up b9.out h10
  have bx10 := (h10.block _ (block_lt bx9.out)).trans bx9.out
  replace b10 := Lib.hid b10
  replace bx10 := Lib.hid bx10
  clear y0 y1
  have y0 : w10.cell? ⟨w.heap.size, 0, none⟩ = some (.slice Am made.length cm) := (cellm bx10.out 0).trans rfl
  have y1 : w10.cell? ⟨w.heap.size, 1, none⟩ = some (.slice At tasks.length ct) := (cellm bx10.out 1).trans rfl
  replace hW := Lib.hid (hW.out.up (h10.mono (by omega)) (Nat.le_refl _))
  replace hSx := Lib.hid (hSx.out.kept (fun b q1 q2 => h10.block b (by omega)) (Nat.le_refl _))
  replace hXb := Lib.hid ((h10.block _ (block_lt hXb.out)).trans hXb.out)
  replace hI1x := Lib.hid (hI1x.out.kept (fun b q1 q2 => h10.block b (by omega)) (Nat.le_refl _))
  replace hG := Lib.hid (hG.out.keep (fun b q1 q2 => h10.block b (by omega)))
  clear h10 b9 bx9
  clear u0 u1
  have u0 : w10.cell? ⟨w6.heap.size, 0, none⟩ = some (.slice (some ⟨bmx, 0, none⟩) made.length made.length) := (cellm hXb.out 0).trans rfl
  have u1 : w10.cell? ⟨w6.heap.size, 1, none⟩ = some (.slice (some ⟨btx, 0, none⟩) tasks.length tasks.length) := (cellm hXb.out 1).trans rfl
  have htoq := hto.out w10.drew b10.out.drew
  replace htoq := Lib.hid htoq
  go_wp2_with fail
  go_region_held3 (fun w' => w'.cell? ⟨w.heap.size, 0, none⟩ = some (.slice Am made.length cm) ∧ w'.cell? ⟨w.heap.size, 1, none⟩ = some (.slice At tasks.length ct) ∧ w'.cell? ⟨w6.heap.size, 0, none⟩ = some (.slice (some ⟨bmx, 0, none⟩) made.length made.length) ∧ w'.cell? ⟨w6.heap.size, 1, none⟩ = some (.slice (some ⟨btx, 0, none⟩) tasks.length tasks.length))
    (first | exact ⟨l0, l1, l2, l3⟩ | exact ⟨k0, k1, k2, k3⟩ | exact ⟨y0, y1, u0, u1⟩)
    (first
      | (go_at_call 14; go_must (refine htoq.out.mono ?_; rintro e w11 ⟨bmc, btc, midc, rfl, hSc, h11⟩; replace h11 : Below w10.heap.size w10 w11 := (Below.refl _ _).drew.trans h11; have s11 : w10.heap.size ≤ w11.heap.size := h11.size; have hSx2 := hSx.out.kept (hi' := w11.heap.size) (fun b q1 q2 => h11.block b (Nat.lt_of_lt_of_le q2 (by omega))) (by omega); have k0 := kept_cell h11 (block_lt bx10.out) y0; have k1 := kept_cell h11 (block_lt bx10.out) y1; have k2 := kept_cell h11 (block_lt hXb.out) u0; have k3 := kept_cell h11 (block_lt hXb.out) u1; have heqs := eqSheet_same (some ⟨bmx, 0, none⟩) (some ⟨btx, 0, none⟩) (some ⟨bmc, 0, none⟩) (some ⟨btc, 0, none⟩) made.length tasks.length made.length tasks.length made tasks w11 (hSx2.at (Nat.le_refl _) (by unfold maxLen; omega) (by unfold maxLen; omega)) (hSc.at (Nat.le_refl _) (by unfold maxLen; omega) (by unfold maxLen; omega)); replace heqs := Lib.hid heqs; replace h11 := Lib.hid h11; clear hSc hSx2))
      | (go_at_call 17; refine heqs.out.mono ?_; rintro e w12 ⟨rfl, h12⟩; have l0 := kept_cell h12 (by have := block_lt bx10.out; omega) k0; have l1 := kept_cell h12 (by have := block_lt bx10.out; omega) k1; have l2 := kept_cell h12 (by have := block_lt hXb.out; omega) k2; have l3 := kept_cell h12 (by have := block_lt hXb.out; omega) k3))
  all_goals
    have h12 : Below w10.heap.size w10 w12 := (h11.out).trans (h12.mono h11.out.size)
    clear k0 k1 k2 k3 l0 l1 l2 l3 heqs
    have s12 : w10.heap.size ≤ w12.heap.size := h12.size
    have b12 := below_up b10.out h12
    have bx12 := (h12.block _ (block_lt bx10.out)).trans bx10.out
    replace b12 := Lib.hid b12
    replace bx12 := Lib.hid bx12
    clear y0 y1
    have y0 : w12.cell? ⟨w.heap.size, 0, none⟩ = some (.slice Am made.length cm) := (cellm bx12.out 0).trans rfl
    have y1 : w12.cell? ⟨w.heap.size, 1, none⟩ = some (.slice At tasks.length ct) := (cellm bx12.out 1).trans rfl
    replace hW := Lib.hid (hW.out.up (h12.mono (by omega)) (Nat.le_refl _))
    replace hSx := Lib.hid (hSx.out.kept (fun b q1 q2 => h12.block b (by omega)) (Nat.le_refl _))
    replace hXb := Lib.hid ((h12.block _ (block_lt hXb.out)).trans hXb.out)
    replace hI1x := Lib.hid (hI1x.out.kept (fun b q1 q2 => h12.block b (by omega)) (Nat.le_refl _))
    replace hG := Lib.hid (hG.out.keep (fun b q1 q2 => h12.block b (by omega)))
    clear h12
    clear u0 u1
    have u0 : w12.cell? ⟨w6.heap.size, 0, none⟩ = some (.slice (some ⟨bmx, 0, none⟩) made.length made.length) := (cellm hXb.out 0).trans rfl
    have u1 : w12.cell? ⟨w6.heap.size, 1, none⟩ = some (.slice (some ⟨btx, 0, none⟩) tasks.length tasks.length) := (cellm hXb.out 1).trans rfl
    go_wp2_with fail
    refine (hti1.out _ b12.out).mono ?_
    rintro e w13 ⟨rfl, hI1c, h13⟩
    have s13 : w12.heap.size ≤ w13.heap.size := h13.size
    have b13 := below_up b12.out h13
    have bx13 := (h13.block _ (block_lt bx12.out)).trans bx12.out
    replace b13 := Lib.hid b13
    replace bx13 := Lib.hid bx13
    clear y0 y1
    have y0 : w13.cell? ⟨w.heap.size, 0, none⟩ = some (.slice Am made.length cm) := (cellm bx13.out 0).trans rfl
    have y1 : w13.cell? ⟨w.heap.size, 1, none⟩ = some (.slice At tasks.length ct) := (cellm bx13.out 1).trans rfl
    replace hW := Lib.hid (hW.out.up (h13.mono (by omega)) (Nat.le_refl _))
    replace hSx := Lib.hid (hSx.out.kept (fun b q1 q2 => h13.block b (by omega)) (Nat.le_refl _))
    replace hXb := Lib.hid ((h13.block _ (block_lt hXb.out)).trans hXb.out)
    replace hI1x := Lib.hid (hI1x.out.kept (fun b q1 q2 => h13.block b (by omega)) (Nat.le_refl _))
    replace hG := Lib.hid (hG.out.keep (fun b q1 q2 => h13.block b (by omega)))
    clear h13 b12 bx12
    clear u0 u1
    have u0 : w13.cell? ⟨w6.heap.size, 0, none⟩ = some (.slice (some ⟨bmx, 0, none⟩) made.length made.length) := (cellm hXb.out 0).trans rfl
    have u1 : w13.cell? ⟨w6.heap.size, 1, none⟩ = some (.slice (some ⟨btx, 0, none⟩) tasks.length tasks.length) := (cellm hXb.out 1).trans rfl
    have heq := eqOrderS_same (some ⟨w7.heap.size, 0, none⟩) (some ⟨w12.heap.size, 0, none⟩) x1.length x1.length x1 w13 (by unfold maxLen; omega) (hI1x.out.at (by omega) hsm1.out) (hI1c.at (Nat.le_refl _) hsm1.out)
    replace heq := Lib.hid heq
    clear hI1c
    go_wp2_with fail
    refine heq.out.mono ?_
    rintro e w14 ⟨rfl, h14⟩
    clear heq
    have s14 : w13.heap.size ≤ w14.heap.size := h14.size
    have b14 := below_up b13.out h14
    have bx14 := (h14.block _ (block_lt bx13.out)).trans bx13.out
    replace b14 := Lib.hid b14
    replace bx14 := Lib.hid bx14
    clear y0 y1
    have y0 : w14.cell? ⟨w.heap.size, 0, none⟩ = some (.slice Am made.length cm) := (cellm bx14.out 0).trans rfl
    have y1 : w14.cell? ⟨w.heap.size, 1, none⟩ = some (.slice At tasks.length ct) := (cellm bx14.out 1).trans rfl
    replace hW := Lib.hid (hW.out.up (h14.mono (by omega)) (Nat.le_refl _))
    replace hSx := Lib.hid (hSx.out.kept (fun b q1 q2 => h14.block b (by omega)) (Nat.le_refl _))
    replace hXb := Lib.hid ((h14.block _ (block_lt hXb.out)).trans hXb.out)
    replace hI1x := Lib.hid (hI1x.out.kept (fun b q1 q2 => h14.block b (by omega)) (Nat.le_refl _))
    replace hG := Lib.hid (hG.out.keep (fun b q1 q2 => h14.block b (by omega)))
    clear h14 b13 bx13
    clear u0 u1
    have u0 : w14.cell? ⟨w6.heap.size, 0, none⟩ = some (.slice (some ⟨bmx, 0, none⟩) made.length made.length) := (cellm hXb.out 0).trans rfl
    have u1 : w14.cell? ⟨w6.heap.size, 1, none⟩ = some (.slice (some ⟨btx, 0, none⟩) tasks.length tasks.length) := (cellm hXb.out 1).trans rfl
    have hmk := markSheet_calls w5.heap.size midx w6.heap.size bmx btx made tasks 1 w14 hSx.out (by omega) hm1 hn1 (by omega) (by omega)
    replace hmk := Lib.hid hmk
    go_wp2_with fail
    refine hmk.out.mono ?_
    rintro e w15 ⟨q15, rfl, p15, r15, h15⟩
    clear hmk hSx
    clear u0 u1
    have s15 : w14.heap.size ≤ w15.heap.size := h15.size
    have b15 : Below w.heap.size w w15 := b14.out.trans (h15.below (by omega) (fun i hi => by have := hi.1; omega))
    have bx15 := (h15.block _ (block_lt bx14.out) (by omega)).trans bx14.out
    replace b15 := Lib.hid b15
    replace bx15 := Lib.hid bx15
    clear y0 y1
    have y0 : w15.cell? ⟨w.heap.size, 0, none⟩ = some (.slice Am made.length cm) := (cellm bx15.out 0).trans rfl
    have y1 : w15.cell? ⟨w.heap.size, 1, none⟩ = some (.slice At tasks.length ct) := (cellm bx15.out 1).trans rfl
    replace hW := Lib.hid (hW.out.up (h15.below (by omega) (fun i hi => by have := hi.1; omega)) (Nat.le_refl _))
    replace hI1x := Lib.hid (hI1x.out.kept (fun b q1 q2 => h15.block b (by omega) (by omega)) (Nat.le_refl _))
    replace hG := Lib.hid (hG.out.keep (fun b q1 q2 => h15.block b (by omega) (by omega)))
    clear h15 b14 bx14
    have hmk := markOrderS_calls w7.heap.size w8.heap.size x1 q15 w15 hI1x.out (by omega) lo1 (by omega) (by omega)
    replace hmk := Lib.hid hmk
    go_wp2_with fail
    refine hmk.out.mono ?_
    rintro e w16 ⟨q16, rfl, p16, r16, h16⟩
    clear hmk hI1x
    have s16 : w15.heap.size ≤ w16.heap.size := h16.size
    have b16 : Below w.heap.size w w16 := b15.out.trans (h16.below (by omega) (fun i hi => by have := hi.1; omega))
    have bx16 := (h16.block _ (block_lt bx15.out) (by omega)).trans bx15.out
    replace b16 := Lib.hid b16
    replace bx16 := Lib.hid bx16
    clear y0 y1
    have y0 : w16.cell? ⟨w.heap.size, 0, none⟩ = some (.slice Am made.length cm) := (cellm bx16.out 0).trans rfl
    have y1 : w16.cell? ⟨w.heap.size, 1, none⟩ = some (.slice At tasks.length ct) := (cellm bx16.out 1).trans rfl
    replace hW := Lib.hid (hW.out.up (h16.below (by omega) (fun i hi => by have := hi.1; omega)) (Nat.le_refl _))
    replace hG := Lib.hid (hG.out.keep (fun b q1 q2 => h16.block b (by omega) (by omega)))
    clear h16 b15 bx15
    have hnq : ¬ q16 < 0 := by omega
    have heq := eqIntSS_same (Ag) cg (Aw) cw rl w16 (hG.out.rowsAt) (hW.out.up (Below.refl _ _) (by omega)) (by omega) hRx.out
    replace heq := Lib.hid heq
    go_wp2_with fail
    refine heq.out.mono ?_
    rintro e w17 ⟨rfl, h17⟩
    clear heq
    have s17 : w16.heap.size ≤ w17.heap.size := h17.size
    have b17 := below_up b16.out h17
    have bx17 := (h17.block _ (block_lt bx16.out)).trans bx16.out
    replace b17 := Lib.hid b17
    replace bx17 := Lib.hid bx17
    clear y0 y1
    have y0 : w17.cell? ⟨w.heap.size, 0, none⟩ = some (.slice Am made.length cm) := (cellm bx17.out 0).trans rfl
    have y1 : w17.cell? ⟨w.heap.size, 1, none⟩ = some (.slice At tasks.length ct) := (cellm bx17.out 1).trans rfl
    replace hW := Lib.hid (hW.out.up (h17.mono (by omega)) (Nat.le_refl _))
    replace hG := Lib.hid (hG.out.keep (fun b q1 q2 => h17.block b (by omega)))
    clear h17 b16 bx16
    have hmk := markIntSS_calls w8.heap.size w9.heap.size (.slice Ag rl.length cg) vsg rl 1 w17 hG.out (by omega) (by omega)
    replace hmk := Lib.hid hmk
    go_wp2_with fail
    refine hmk.out.mono ?_
    rintro e w18 ⟨rfl, hG2, h18⟩
    clear hmk
    have s18 : w17.heap.size ≤ w18.heap.size := h18.size
    have b18 : Below w.heap.size w w18 := b17.out.trans (h18.below (by omega) (fun i hi => by have := hi.1; omega))
    have bx18 := (h18.block _ (block_lt bx17.out) (by omega)).trans bx17.out
    replace b18 := Lib.hid b18
    replace bx18 := Lib.hid bx18
    clear y0 y1
    have y0 : w18.cell? ⟨w.heap.size, 0, none⟩ = some (.slice Am made.length cm) := (cellm bx18.out 0).trans rfl
    have y1 : w18.cell? ⟨w.heap.size, 1, none⟩ = some (.slice At tasks.length ct) := (cellm bx18.out 1).trans rfl
    replace hW := Lib.hid (hW.out.up (h18.below (by omega) (fun i hi => by have := hi.1; omega)) (Nat.le_refl _))
    clear h18 b17 bx17
    replace hG2 := Lib.hid hG2
    have hsp := sumL_pos rl
    have hq0 : ¬ (1 + sumL rl < 0) := by omega
    have hq1 : ((1 + sumL rl) != (1 + sumL rl)) = false := by simp
    replace hsp := Lib.hid hsp
    have hhe := heldIntSS_calls Ag cg rl 1 w18 (by omega) (by omega) (by omega) hG2.out.rowsAt
    replace hhe := Lib.hid hhe
    go_wp2_with fail
    refine hhe.out.mono ?_
    rintro e w19 ⟨rfl, h19⟩
    clear hhe
    have s19 : w18.heap.size ≤ w19.heap.size := h19.size
    have b19 := below_up b18.out h19
    have bx19 := (h19.block _ (block_lt bx18.out)).trans bx18.out
    replace b19 := Lib.hid b19
    replace bx19 := Lib.hid bx19
    clear y0 y1
    have y0 : w19.cell? ⟨w.heap.size, 0, none⟩ = some (.slice Am made.length cm) := (cellm bx19.out 0).trans rfl
    have y1 : w19.cell? ⟨w.heap.size, 1, none⟩ = some (.slice At tasks.length ct) := (cellm bx19.out 1).trans rfl
    replace hW := Lib.hid (hW.out.up (h19.mono (by omega)) (Nat.le_refl _))
    replace hG2 := Lib.hid (hG2.out.keep (fun b q1 q2 => h19.block b (by omega)))
    clear h19 b18 bx18
    go_wp2_with fail
    refine (hto.out _ b19.out).mono ?_
    rintro e w20 ⟨bmh, bth, midh, rfl, hSh, h20⟩
    have s20 : w19.heap.size ≤ w20.heap.size := h20.size
    have b20 := below_up b19.out h20
    have bx20 := (h20.block _ (block_lt bx19.out)).trans bx19.out
    replace b20 := Lib.hid b20
    replace bx20 := Lib.hid bx20
    clear y0 y1
    have y0 : w20.cell? ⟨w.heap.size, 0, none⟩ = some (.slice Am made.length cm) := (cellm bx20.out 0).trans rfl
    have y1 : w20.cell? ⟨w.heap.size, 1, none⟩ = some (.slice At tasks.length ct) := (cellm bx20.out 1).trans rfl
    replace hW := Lib.hid (hW.out.up (h20.mono (by omega)) (Nat.le_refl _))
    replace hG2 := Lib.hid (hG2.out.keep (fun b q1 q2 => h20.block b (by omega)))
    clear h20 b19 bx19
    have eh : w20.heap.size ≤ w20.heap.size := Nat.le_refl _
    replace hSh := Lib.hid hSh
    go_wp2_with fail
    refine (hti1.out _ b20.out).mono ?_
    rintro e w21 ⟨rfl, hI1h, h21⟩
    have s21 : w20.heap.size ≤ w21.heap.size := h21.size
    have b21 := below_up b20.out h21
    have bx21 := (h21.block _ (block_lt bx20.out)).trans bx20.out
    replace b21 := Lib.hid b21
    replace bx21 := Lib.hid bx21
    clear y0 y1
    have y0 : w21.cell? ⟨w.heap.size, 0, none⟩ = some (.slice Am made.length cm) := (cellm bx21.out 0).trans rfl
    have y1 : w21.cell? ⟨w.heap.size, 1, none⟩ = some (.slice At tasks.length ct) := (cellm bx21.out 1).trans rfl
    replace hW := Lib.hid (hW.out.up (h21.mono (by omega)) (Nat.le_refl _))
    replace hG2 := Lib.hid (hG2.out.keep (fun b q1 q2 => h21.block b (by omega)))
    replace hSh := Lib.hid (hSh.out.kept (fun b q1 q2 => h21.block b (by omega)) (Nat.le_refl _))
    clear h21 b20 bx20
    replace hI1h := Lib.hid hI1h
    have him := hIm.out w21 (some ⟨bmh, 0, none⟩) (some ⟨bth, 0, none⟩) made.length tasks.length (some ⟨w20.heap.size, 0, none⟩) x1.length (hSh.out.at (by omega) (by unfold maxLen; omega) (by unfold maxLen; omega)) (hI1h.out.at (by omega) hsm1.out) (Nat.le_refl _) (by unfold maxLen; omega)
    replace him := Lib.hid him
    go_wp2_with fail
    refine him.out.mono ?_
    rintro e w22 ⟨g1, vsh, rfl, hH, h22⟩
    clear him
    dsimp only at hH ⊢
    have s22 : w21.heap.size ≤ w22.heap.size := h22.size
    have b22 := below_up b21.out h22
    have bx22 := (h22.block _ (block_lt bx21.out)).trans bx21.out
    replace b22 := Lib.hid b22
    replace bx22 := Lib.hid bx22
    clear y0 y1
    have y0 : w22.cell? ⟨w.heap.size, 0, none⟩ = some (.slice Am made.length cm) := (cellm bx22.out 0).trans rfl
    have y1 : w22.cell? ⟨w.heap.size, 1, none⟩ = some (.slice At tasks.length ct) := (cellm bx22.out 1).trans rfl
    replace hW := Lib.hid (hW.out.up (h22.mono (by omega)) (Nat.le_refl _))
    replace hG2 := Lib.hid (hG2.out.keep (fun b q1 q2 => h22.block b (by omega)))
    clear h22 b21 bx21
    replace hH := Lib.hid hH
    obtain ⟨Ah, ch, hh0, hh1, hh2, -⟩ := hH.out.rows
    subst hh0
    unfold maxLen at hh2
    have heq := eqIntSS_same (Ah) ch (Aw) cw rl w22 (hH.out.rowsAt) (hW.out.up (Below.refl _ _) (by omega)) (by omega) hRx.out
    replace heq := Lib.hid heq
    go_wp2_with fail
    refine heq.out.mono ?_
    rintro e w23 ⟨rfl, h23⟩
    clear heq
    have s23 : w22.heap.size ≤ w23.heap.size := h23.size
    have b23 := below_up b22.out h23
    have bx23 := (h23.block _ (block_lt bx22.out)).trans bx22.out
    replace b23 := Lib.hid b23
    replace bx23 := Lib.hid bx23
    clear y0 y1
    have y0 : w23.cell? ⟨w.heap.size, 0, none⟩ = some (.slice Am made.length cm) := (cellm bx23.out 0).trans rfl
    have y1 : w23.cell? ⟨w.heap.size, 1, none⟩ = some (.slice At tasks.length ct) := (cellm bx23.out 1).trans rfl
    replace hW := Lib.hid (hW.out.up (h23.mono (by omega)) (Nat.le_refl _))
    replace hG2 := Lib.hid (hG2.out.keep (fun b q1 q2 => h23.block b (by omega)))
    clear h23 b22 bx22
    have hhe := heldIntSS_calls Ag cg rl 1 w23 (by omega) (by omega) (by omega) hG2.out.rowsAt
    replace hhe := Lib.hid hhe
    go_wp2_with fail
    refine hhe.out.mono ?_
    rintro e w24 ⟨rfl, h24⟩
    clear hhe
    have s24 : w23.heap.size ≤ w24.heap.size := h24.size
    have b24 := below_up b23.out h24
    have bx24 := (h24.block _ (block_lt bx23.out)).trans bx23.out
    replace b24 := Lib.hid b24
    replace bx24 := Lib.hid bx24
    clear y0 y1
    have y0 : w24.cell? ⟨w.heap.size, 0, none⟩ = some (.slice Am made.length cm) := (cellm bx24.out 0).trans rfl
    have y1 : w24.cell? ⟨w.heap.size, 1, none⟩ = some (.slice At tasks.length ct) := (cellm bx24.out 1).trans rfl
    replace hW := Lib.hid (hW.out.up (h24.mono (by omega)) (Nat.le_refl _))
    replace hG2 := Lib.hid (hG2.out.keep (fun b q1 q2 => h24.block b (by omega)))
    clear h24 b23 bx23
    go_wp2_with fail
    go_ret
    exact ⟨rfl, b24.out⟩
end Go.Proofs.Ytpccgdkidnkppaa

set_option linter.unusedVariables false
set_option linter.unusedSimpArgs false
namespace Go.Proofs.Ytpccgdkidnkppaa
open Go Go.RowKit

theorem nodes_le5 {tasks : List Task} (h : nodesL tasks ≤ 1048576) : ∀ T ∈ tasks, nodes T ≤ 1000000000 := by
  intro T hT
  obtain ⟨i, hi, rfl⟩ := List.getElem_of_mem hT
  have := nodesL_at hi
  omega
theorem sumL_bound : ∀ (ll : List (List Int)), (∀ x ∈ ll, x.length ≤ 1048576) → sumL ll ≤ ll.length * 1048576
  | [], _ => by simp [sumL]
  | x :: ll, h => by
    have h1 := sumL_bound ll (fun y hy => h y (List.mem_cons_of_mem _ hy))
    have h2 := h x (List.mem_cons_self ..)
    simp only [sumL, List.length_cons]
    omega
theorem rowNew_both (made : List Bool) (tasks : List Task) (x1 : List Ordr) : (made.length : Int) + nodesL tasks ≤ 1048576 → ordsL x1 ≤ 1048576 → ∃ r, (r.1.length ≤ 1000000 ∧ sumL r.1 ≤ 900000000 ∧ ∀ x ∈ r.1, x.length ≤ 1048576) ∧ BothRowNew made tasks x1 r := by
  intro hsz hol
  have hnn : 0 ≤ nodesL tasks := nodesL_pos tasks
  obtain ⟨R, -, ⟨h6, hs⟩, hI, hS⟩ := rowNew_any made tasks x1 (nodes_le5 (by omega)) (by omega) (fun x hx => by have := ordsL_mem x1 x hx; omega)
  have hb := sumL_bound R.1 hs
  refine ⟨R, ⟨by omega, by omega, hs⟩, fun w Am At cm ct A1 c1 h1 h2 h3 h4 => ?_, fun w Am At cm ct A1 c1 h1 h2 h3 h4 => ?_⟩
  · exact hI w Am At cm ct A1 c1 w.heap.size w (Below.refl _ _) (Nat.le_refl _) h1 h2 h3 h4
  · exact hS w Am At cm ct A1 c1 w.heap.size w (Below.refl _ _) (Nat.le_refl _) h1 h2 h3 h4
theorem fnExactRowNew_row (Am At : Option Addr) (cm ct : Nat) (made : List Bool) (tasks : List Task) (A1 : Option Addr) (c1 : Nat) (x1 : List Ordr) (w : World) (hs : SheetAt w.heap.size w Am cm At ct made tasks) (hi1 : OrdsAt w.heap.size w A1 x1) (hl1 : x1.length ≤ c1) (hc1 : c1 ≤ maxLen) :
    Calls Try.prog 9 #[.agg #[.slice Am made.length cm, .slice At tasks.length ct], .slice A1 x1.length c1] w fun e w' => e = .returned (.bool true) ∧ Below w.heap.size w w' :=
  fnExactRowNew_calls Am At cm ct made tasks A1 c1 x1 w hs hi1 hl1 hc1 (rowNew_both made tasks x1)
end Go.Proofs.Ytpccgdkidnkppaa

set_option linter.unusedVariables false
namespace Go.Proofs.Ytpccgdkidnkppaa
open Go Go.RowKit Go.ChangeShapes Go.WideShapes Go.Deep

/-! what came in, read off the frame -/
section
variable {H : Type} {enc : TypeId × Value → H} {P : Program} {w : World} {base : Nat} {spare : Nat → Bool} {held : Bool}
theorem row_open {t e : TypeId} {fuel : Nat} {c : Value} {x : DataW H × List MemPlace} (ht : P.underlying t = some (.slice e)) (h : DataW.trod enc P w base spare held fuel t [c] = some x) :
    c = .slice none 0 0 ∨ ∃ (a : Addr) (len cap n : Nat), fuel = n + 1 ∧ c = .slice (some a) len cap ∧ len ≤ cap ∧ cap ≤ maxLen ∧ ∀ i, i < len → ∃ cs y, cs.length = P.cellsOf e ∧ (∀ q, q < P.cellsOf e → w.cell? ((a.add (i * P.cellsOf e)).add q) = cs[q]?) ∧ DataW.trod enc P w base spare held n e cs = some y := by
  rcases DataW.trod_slice ht h with ⟨h0, _⟩ | ⟨a, len, cap, elems, rest, n, hf, hcs, hx, hb, hl, hm, hlen, hel, _⟩
  · left; simpa using h0
  · right
    refine ⟨a, len, cap, n, hf, by simpa using hcs, hl, hm, fun i hi => ?_⟩
    have h1 := hel i hi
    rw [List.getElem?_eq_getElem (by omega)] at h1
    obtain ⟨cs, h2, h3⟩ := Option.bind_eq_some_iff.1 h1
    obtain ⟨_, h4, h5⟩ := World.cells?_some h2
    exact ⟨cs, _, h4, h5, h3⟩
theorem addr_plain {a : Addr} {i : Nat} {v : Value} (h : w.cell? (a.add i) = some v) (h0 : i = 0 ∨ ∃ v0, w.cell? a = some v0) : ∃ b o, a = ⟨b, o, none⟩ := by
  obtain ⟨b, o, s⟩ := a
  rcases h0 with rfl | ⟨v0, h0⟩
  · have := World.cell?_spot h
    simp [Addr.add] at this
    exact ⟨b, o, by rw [this]⟩
  · have := World.cell?_spot h0
    simp at this
    exact ⟨b, o, by rw [this]⟩
/-- a row of one-cell elements -/
theorem one_open {α : Type} {f : α → Value} {t e : TypeId} {fuel : Nat} {c : Value} {x : DataW H × List MemPlace} (ht : P.underlying t = some (.slice e)) (hc : P.cellsOf e = 1)
    (he : ∀ n cs y, DataW.trod enc P w base spare held n e cs = some y → ∃ u, cs = [f u]) (h : DataW.trod enc P w base spare held fuel t [c] = some x) :
    ∃ A len cap xs, c = .slice A len cap ∧ xs.length = len ∧ len ≤ cap ∧ cap ≤ maxLen ∧ RowAt f w.heap.size w A xs := by
  rcases row_open ht h with rfl | ⟨a, len, cap, n, -, rfl, hl, hm, hi⟩
  · exact ⟨none, 0, 0, [], rfl, rfl, Nat.le_refl _, by simp [maxLen], RowAt.nil _ _ _ _⟩
  rw [hc] at hi
  have hv : ∀ i, i < len → ∃ u, w.cell? (a.add i) = some (f u) := by
    intro i hlt
    obtain ⟨cs, y, h1, h2, h3⟩ := hi i hlt
    obtain ⟨u, rfl⟩ := he _ _ _ h3
    have := h2 0 (by omega)
    rw [Nat.mul_one] at this
    exact ⟨u, by simpa [Addr.add] using this⟩
  obtain ⟨V, hV⟩ : ∃ V : (i : Nat) → i < len → α, ∀ i h, w.cell? (a.add i) = some (f (V i h)) := ⟨fun i h => (hv i h).choose, fun i h => (hv i h).choose_spec⟩
  refine ⟨some a, len, cap, (List.range len).attach.map (fun i => V i.1 (List.mem_range.1 i.2)), rfl, by simp, hl, hm, fun i hlt => ?_⟩
  have hlt' : i < len := by simpa using hlt
  have h0 := hV 0 (by omega)
  obtain ⟨b, o, rfl⟩ := addr_plain h0 (.inl rfl)
  have h1 := hV i hlt'
  have e : (⟨b, o, none⟩ : Addr).add i = ⟨b, o + i, none⟩ := add_plain ..
  rw [e] at h1
  exact ⟨b, o, rfl, World.block_lt_of_cell? w _ h1, by simpa using h1⟩
theorem bools_open {t e : TypeId} {fuel : Nat} {c : Value} {x : DataW H × List MemPlace} (ht : P.underlying t = some (.slice e)) (he : P.underlying e = some .bool) (hc : P.cellsOf e = 1) (h : DataW.trod enc P w base spare held fuel t [c] = some x) :
    ∃ A len cap xs, c = .slice A len cap ∧ xs.length = len ∧ len ≤ cap ∧ cap ≤ maxLen ∧ BoolsAt w.heap.size w A xs :=
  one_open ht hc (fun n cs y hy => by obtain ⟨b, rfl, _⟩ := DataW.trod_bool he hy; exact ⟨b, rfl⟩) h
theorem ints_open {t e : TypeId} {fuel : Nat} {c : Value} {x : DataW H × List MemPlace} (ht : P.underlying t = some (.slice e)) (he : P.underlying e = some (.int .i64)) (hc : P.cellsOf e = 1) (h : DataW.trod enc P w base spare held fuel t [c] = some x) :
    ∃ A len cap xs, c = .slice A len cap ∧ xs.length = len ∧ len ≤ cap ∧ cap ≤ maxLen ∧ IntsAt w.heap.size w A xs :=
  one_open ht hc (fun n cs y hy => by obtain ⟨k, rfl, _⟩ := DataW.trod_int he hy; exact ⟨k, rfl⟩) h

/-- a tree of tasks: of any struct of two numbers and a row of such -/
theorem tasks_open {t e ti : TypeId} {fs : Array Field} (ht : P.underlying t = some (.slice e)) (he : P.underlying e = some (.struct fs)) (hc : P.cellsOf e = 3) (hti : P.underlying ti = some (.int .i64)) (hci : P.cellsOf ti = 1) (hct : P.cellsOf t = 1)
    (h0 : ∃ f, fs[0]? = some f ∧ f.type = ti ∧ f.offset = 0) (h1 : ∃ f, fs[1]? = some f ∧ f.type = ti ∧ f.offset = 1) (h2 : ∃ f, fs[2]? = some f ∧ f.type = t ∧ f.offset = 2) :
    ∀ (fuel : Nat) (c : Value) (x : DataW H × List MemPlace), DataW.trod enc P w base spare held fuel t [c] = some x → ∃ A len cap ps, c = .slice A len cap ∧ ps.length = len ∧ len ≤ cap ∧ cap ≤ maxLen ∧ PartsIs w.heap.size w A 0 ps := by
  intro fuel
  induction fuel using Nat.strongRecOn with
  | ind fuel ih =>
  intro c x h
  rcases row_open ht h with rfl | ⟨a, len, cap, n, rfl, rfl, hl, hm, hi⟩
  · exact ⟨none, 0, 0, [], rfl, rfl, Nat.le_refl _, by simp [maxLen], by rw [PartsIs]; trivial⟩
  rw [hc] at hi
  have hv : ∀ i, i < len → ∃ k m A' c' ps, w.cell? ((a.add (i * 3)).add 0) = some (.int .i64 k) ∧ w.cell? ((a.add (i * 3)).add 1) = some (.int .i64 m) ∧ w.cell? ((a.add (i * 3)).add 2) = some (.slice A' (List.length ps) c') ∧ List.length ps ≤ c' ∧ c' ≤ maxLen ∧ PartsIs w.heap.size w A' 0 ps := by
    intro i hlt
    obtain ⟨cs, y, g1, g2, g3⟩ := hi i hlt
    obtain ⟨ys, n', hn', -, -, hys, hf⟩ := DataW.trod_struct he g3
    match cs, g1 with
    | [c0, c1, c2], _ =>
      obtain ⟨f0, e0, t0, o0⟩ := h0
      obtain ⟨f1, e1, t1, o1⟩ := h1
      obtain ⟨f2, e2, t2, o2⟩ := h2
      have q0 := hf 0 f0 e0
      have q1 := hf 1 f1 e1
      have q2 := hf 2 f2 e2
      have l0 := (Array.getElem?_eq_some_iff.1 e0).1
      have l1 := (Array.getElem?_eq_some_iff.1 e1).1
      have l2 := (Array.getElem?_eq_some_iff.1 e2).1
      rw [t0, o0, hci, List.getElem?_eq_getElem (by omega)] at q0
      rw [t1, o1, hci, List.getElem?_eq_getElem (by omega)] at q1
      rw [t2, o2, hct, List.getElem?_eq_getElem (by omega)] at q2
      simp only [List.drop_zero, List.drop_succ_cons, List.take_succ_cons, List.take_zero] at q0 q1 q2
      obtain ⟨k, r0, -⟩ := DataW.trod_int hti q0
      obtain ⟨m, r1, -⟩ := DataW.trod_int hti q1
      obtain ⟨A', len', cap', ps, r2, p1, p2, p3, p4⟩ := ih n' (by omega) c2 _ q2
      simp only [List.cons.injEq, and_true] at r0 r1
      subst r0 r1 r2 p1
      exact ⟨k, m, A', cap', ps, by simpa using g2 0 (by omega), by simpa using g2 1 (by omega), by simpa using g2 2 (by omega), p2, p3, p4⟩
  obtain ⟨T, hT⟩ : ∃ T : (i : Nat) → i < len → Task, ∀ i h, ∃ A' c', w.cell? ((a.add (i * 3)).add 0) = some (.int .i64 (T i h).kind) ∧ w.cell? ((a.add (i * 3)).add 1) = some (.int .i64 (T i h).n) ∧ w.cell? ((a.add (i * 3)).add 2) = some (.slice A' (T i h).parts.length c') ∧ (T i h).parts.length ≤ c' ∧ c' ≤ maxLen ∧ PartsIs w.heap.size w A' 0 (T i h).parts := by
    have hv' : ∀ i, i < len → ∃ t : Task, ∃ A' c', w.cell? ((a.add (i * 3)).add 0) = some (.int .i64 t.kind) ∧ w.cell? ((a.add (i * 3)).add 1) = some (.int .i64 t.n) ∧ w.cell? ((a.add (i * 3)).add 2) = some (.slice A' t.parts.length c') ∧ t.parts.length ≤ c' ∧ c' ≤ maxLen ∧ PartsIs w.heap.size w A' 0 t.parts := fun i hlt => by
      obtain ⟨k, m, A', c', ps, q⟩ := hv i hlt
      exact ⟨.mk k m ps, A', c', q⟩
    exact ⟨fun i h => (hv' i h).choose, fun i h => (hv' i h).choose_spec⟩
  obtain ⟨qs, hlen, hget⟩ : ∃ qs : List Task, qs.length = len ∧ ∀ i (h : i < len) (h2 : i < qs.length), qs[i] = T i h := ⟨(List.range len).attach.map (fun i => T i.1 (List.mem_range.1 i.2)), by simp, fun i h h2 => by simp⟩
  refine ⟨some a, len, cap, qs, rfl, hlen, hl, hm, ?_⟩
  have hstep : ∀ (l : List Task) (k : Nat), (∀ i (h : i < l.length), ∃ h2 : k + i < len, l[i] = T (k + i) h2) → PartsIs w.heap.size w (some a) k l := by
    intro l
    induction l with
    | nil => intro k _; rw [PartsIs]; trivial
    | cons t ts ihl =>
      intro k hk
      rw [PartsIs]
      refine ⟨?_, ihl (k + 1) fun i h => ?_⟩
      · obtain ⟨h2, e⟩ := hk 0 (by simp)
        simp only [List.getElem_cons_zero, Nat.add_zero] at e h2
        obtain ⟨A', c', q0, q1, q2, q3, q4, q5⟩ := hT k h2
        obtain ⟨A0, c0, r0, -⟩ := hT 0 (by omega)
        rw [Nat.zero_mul] at r0
        have r0' : w.cell? (a.add 0) = some (.int .i64 (T 0 (by omega)).kind) := by simpa [Addr.add] using r0
        obtain ⟨b, o, rfl⟩ := addr_plain r0' (.inl rfl)
        simp only [add_plain] at q0 q1 q2
        rw [e]
        refine ⟨b, o, _, _, _, rfl, World.block_lt_of_cell? w _ q0, q0, q1, q2, ?_⟩
        generalize T k h2 = tk at *
        cases tk with
        | mk k' n' ps' => rw [TaskIs]; exact ⟨A', c', rfl, q3, q4, q5⟩
      · obtain ⟨h2, e⟩ := hk (i + 1) (by simpa using h)
        exact ⟨by omega, by simpa [Nat.add_assoc, Nat.add_comm 1 i] using e⟩
  exact hstep qs 0 fun i h => ⟨by omega, by rw [hget i (by omega) h]; simp⟩
end
end Go.Proofs.Ytpccgdkidnkppaa

set_option linter.unusedVariables false
set_option linter.unusedSimpArgs false
namespace Go.Proofs.Ytpccgdkidnkppaa
open Go Go.RowKit Go.ChangeShapes Go.WideShapes Go.Deep
section
variable {H : Type} {enc : TypeId × Value → H} {w : World} {base : Nat} {spare : Nat → Bool} {held : Bool}
theorem cell1_bool : Try.prog.cellsOf 4 = 1 := by kernel_rfl
theorem cell1_int : Try.prog.cellsOf 3 = 1 := by kernel_rfl
set_option maxRecDepth 100000 in
theorem ints_came {d : DataW H} {p : List MemPlace} {A : Option Addr} {len c : Nat} (h : DataW.Trod enc Try.prog w base spare held 26 (.slice A len c) d p) :
    ∃ xs, xs.length = len ∧ len ≤ c ∧ c ≤ maxLen ∧ IntsAt w.heap.size w A xs := by
  obtain ⟨fuel, hf⟩ := h
  obtain ⟨A', len', c', xs, e, h1, h2, h3, h4⟩ := ints_open Try.underlying26 Try.underlying3 cell1_int (c := .slice A len c) (by simpa [Value.cells] using hf)
  cases e
  exact ⟨xs, h1, h2, h3, h4⟩

set_option maxRecDepth 100000 in
theorem sheet_came {r : Go.Reach} {b0 : Nat} {v : Value} {d : DataW H} {p : List MemPlace} (hv : Value.okWide Try.prog w r b0 25 v) (h : DataW.Trod enc Try.prog w base spare held 25 v d p) :
    ∃ Am cm At ct made tasks, v = .agg #[.slice Am made.length cm, .slice At tasks.length ct] ∧ SheetAt w.heap.size w Am cm At ct made tasks := by
  obtain ⟨cs, rfl, hsz⟩ := okWide_struct Try.underlying25 hv
  have hC : Try.prog.cellsOf 25 = 2 := by kernel_rfl
  obtain ⟨l⟩ := cs
  match l, hsz.trans hC with
  | [c0, c1], _ =>
    obtain ⟨fuel, hf⟩ := h
    obtain ⟨xs, n, _, hx, _, hlen, hg⟩ := DataW.trod_struct Try.underlying25 hf
    have q0 := hg 0 _ rfl
    have q1 := hg 1 _ rfl
    have k0 : Try.prog.cellsOf 22 = 1 := by kernel_rfl
    have k1 : Try.prog.cellsOf 23 = 1 := by kernel_rfl
    have hl2 : xs.length = 2 := hlen
    simp only [Value.cells, k0, k1, List.drop_zero, List.drop_succ_cons, List.take_succ_cons, List.take_zero] at q0 q1
    rw [List.getElem?_eq_getElem (by omega)] at q0 q1
    obtain ⟨Am, nm, cm, made, rfl, rfl, h2, h3, h4⟩ := bools_open Try.underlying22 Try.underlying4 cell1_bool q0
    obtain ⟨At, nt, ct, tasks, rfl, rfl, g2, g3, g4⟩ := tasks_open Try.underlying23 Try.underlying136 (by kernel_rfl) Try.underlying3 cell1_int k1 ⟨_, rfl, rfl, rfl⟩ ⟨_, rfl, rfl, rfl⟩ ⟨_, rfl, rfl, rfl⟩ n c1 _ q1
    exact ⟨Am, cm, At, ct, made, tasks, rfl, ⟨h2, h3, g2, g3, h4, g4⟩⟩
end
end Go.Proofs.Ytpccgdkidnkppaa

set_option linter.unusedVariables false
set_option linter.unusedSimpArgs false
namespace Go.Proofs.Ytpccgdkidnkppaa
open Go Go.RowKit Go.ChangeShapes Go.WideShapes Go.Deep
section
variable {H : Type} {enc : TypeId × Value → H} {P : Program} {w : World} {base : Nat} {spare : Nat → Bool} {held : Bool}
/-- a row of orders: of any struct of two rows of numbers -/
theorem orders_open {t e tr te : TypeId} {fs : Array Field} {fuel : Nat} {c : Value} {x : DataW H × List MemPlace} (ht : P.underlying t = some (.slice e)) (he : P.underlying e = some (.struct fs)) (hc : P.cellsOf e = 2) (htr : P.underlying tr = some (.slice te)) (hte : P.underlying te = some (.int .i64)) (hce : P.cellsOf te = 1) (hcr : P.cellsOf tr = 1)
    (h0 : ∃ f, fs[0]? = some f ∧ f.type = tr ∧ f.offset = 0) (h1 : ∃ f, fs[1]? = some f ∧ f.type = tr ∧ f.offset = 1) (h : DataW.trod enc P w base spare held fuel t [c] = some x) :
    ∃ A len cap l, c = .slice A len cap ∧ List.length l = len ∧ len ≤ cap ∧ cap ≤ maxLen ∧ OrdsAt w.heap.size w A l := by
  rcases row_open ht h with rfl | ⟨a, len, cap, n, rfl, rfl, hl, hm, hi⟩
  · exact ⟨none, 0, 0, [], rfl, rfl, Nat.le_refl _, by simp [maxLen], fun i hi => by simp at hi⟩
  rw [hc] at hi
  have hv : ∀ i, i < len → ∃ (x : Ordr), ∃ Ai ci Ak ck, w.cell? ((a.add (i * 2)).add 0) = some (.slice Ai x.1.length ci) ∧ w.cell? ((a.add (i * 2)).add 1) = some (.slice Ak x.2.length ck) ∧ OrdIs w.heap.size w Ai ci Ak ck x := by
    intro i hlt
    obtain ⟨cs, y, g1, g2, g3⟩ := hi i hlt
    obtain ⟨ys, n', hn', -, -, hys, hf⟩ := DataW.trod_struct he g3
    match cs, g1 with
    | [c0, c1], _ =>
      obtain ⟨f0, e0, t0, o0⟩ := h0
      obtain ⟨f1, e1, t1, o1⟩ := h1
      have q0 := hf 0 f0 e0
      have q1 := hf 1 f1 e1
      have l0 := (Array.getElem?_eq_some_iff.1 e0).1
      have l1 := (Array.getElem?_eq_some_iff.1 e1).1
      rw [t0, o0, hcr, List.getElem?_eq_getElem (by omega)] at q0
      rw [t1, o1, hcr, List.getElem?_eq_getElem (by omega)] at q1
      simp only [List.drop_zero, List.drop_succ_cons, List.take_succ_cons, List.take_zero] at q0 q1
      obtain ⟨Ai, ni, ci, xs, rfl, rfl, a1, a2, a3⟩ := ints_open htr hte hce q0
      obtain ⟨Ak, nk, ck, ks, rfl, rfl, b1, b2, b3⟩ := ints_open htr hte hce q1
      exact ⟨(xs, ks), Ai, ci, Ak, ck, by simpa using g2 0 (by omega), by simpa using g2 1 (by omega), ⟨a3, a1, a2, b3, b1, b2⟩⟩
  obtain ⟨T, hT⟩ : ∃ T : (i : Nat) → i < len → Ordr, ∀ i h, ∃ Ai ci Ak ck, w.cell? ((a.add (i * 2)).add 0) = some (.slice Ai (T i h).1.length ci) ∧ w.cell? ((a.add (i * 2)).add 1) = some (.slice Ak (T i h).2.length ck) ∧ OrdIs w.heap.size w Ai ci Ak ck (T i h) :=
    ⟨fun i h => (hv i h).choose, fun i h => (hv i h).choose_spec⟩
  obtain ⟨qs, hlen, hget⟩ : ∃ qs : List Ordr, qs.length = len ∧ ∀ i (h : i < len) (h2 : i < qs.length), qs[i] = T i h := ⟨(List.range len).attach.map (fun i => T i.1 (List.mem_range.1 i.2)), by simp, fun i h h2 => by simp⟩
  refine ⟨some a, len, cap, qs, rfl, hlen, hl, hm, fun i hi => ?_⟩
  have hil : i < len := by omega
  rw [hget i hil hi]
  obtain ⟨Ai, ci, Ak, ck, q0, q1, q2⟩ := hT i hil
  obtain ⟨A0, c0, A1, c1, r0, -⟩ := hT 0 (by omega)
  rw [Nat.zero_mul] at r0
  have r0' : w.cell? (a.add 0) = some (.slice A0 (T 0 (by omega)).1.length c0) := by simpa [Addr.add] using r0
  obtain ⟨b, o, rfl⟩ := addr_plain r0' (.inl rfl)
  simp only [add_plain] at q0 q1
  exact ⟨b, o, Ai, ci, Ak, ck, rfl, World.block_lt_of_cell? w _ q0, q0, q1, q2⟩
end
section
variable {H : Type} {enc : TypeId × Value → H} {w : World} {base : Nat} {spare : Nat → Bool} {held : Bool}
set_option maxRecDepth 100000 in
theorem orders_came {d : DataW H} {p : List MemPlace} {A : Option Addr} {len c : Nat} (h : DataW.Trod enc Try.prog w base spare held 56 (.slice A len c) d p) :
    ∃ l, List.length l = len ∧ len ≤ c ∧ c ≤ maxLen ∧ OrdsAt w.heap.size w A l := by
  obtain ⟨fuel, hf⟩ := h
  have k0 : Try.prog.cellsOf 26 = 1 := by kernel_rfl
  obtain ⟨A', len', c', l, e, h1, h2, h3, h4⟩ := orders_open Try.underlying56 Try.underlying118 (by kernel_rfl) Try.underlying26 Try.underlying3 cell1_int k0 ⟨_, rfl, rfl, rfl⟩ ⟨_, rfl, rfl, rfl⟩ (c := .slice A len c) (by simpa [Value.cells] using hf)
  cases e
  exact ⟨l, h1, h2, h3, h4⟩
end
end Go.Proofs.Ytpccgdkidnkppaa
