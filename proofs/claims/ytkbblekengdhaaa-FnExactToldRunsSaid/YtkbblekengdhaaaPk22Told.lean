import Derived.Deep.RegionHeld3
import Derived.Test.YtkbblekengdhaaaPk15Told
import Derived.Test.YtkbblekengdhaaaPk21Told
set_option linter.unusedVariables false
set_option linter.unusedSimpArgs false
namespace Go.Proofs.Ytkbblekengdhaaa
open Go Go.RowKit

/-! the same trees -/
def PTask : Task → Prop := fun p => ∀ (A A2 : Option Addr) (c c2 : Nat) (w : World), p.parts.length ≤ c → c ≤ maxLen → PartsIs w.heap.size w A 0 p.parts → PartsIs w.heap.size w A2 0 p.parts →
      Calls Try.prog 95 #[.agg #[.int .i64 p.kind, .int .i64 p.n, .slice A p.parts.length c], .agg #[.int .i64 p.kind, .int .i64 p.n, .slice A2 p.parts.length c2]] w fun e w' => e = .returned (.bool true) ∧ Below w.heap.size w w'
set_option maxHeartbeats 4000000 in
theorem eqTaskS_of (ps : List Task) (ih : ∀ p ∈ ps, PTask p) (A A2 : Option Addr) (c c2 : Nat) (w : World) (hc : ps.length ≤ c) (hm : c ≤ maxLen) (hp : PartsIs w.heap.size w A 0 ps) (hp2 : PartsIs w.heap.size w A2 0 ps) :
    Calls Try.prog 58 #[.slice A ps.length c, .slice A2 ps.length c2] w fun e w' => e = .returned (.bool true) ∧ Below w.heap.size w w' := by
  unfold maxLen at hm
  replace ih := Lib.hid ih
  replace hp := Lib.hid hp
  replace hp2 := Lib.hid hp2
  go_enter Try.func58, Try.ntmps58
  go_wp2_with fail
  go_loopw [5] (fun i wr => ∃ (j : Nat), j ≤ ps.length ∧ i = .int .i64 j ∧ Hid (Below w.heap.size w wr)) (fun i _ => ps.length - (intOf i).toNat)
  case atStart => exact ⟨0, Nat.zero_le _, rfl, Lib.hid (Below.refl _ _)⟩
  case round =>
    obtain ⟨j, hj, rfl, hw⟩ := hrel
    by_cases hlt : j < ps.length
    · obtain ⟨b, o, A', c', rfl, hb', h1, h2, h3, h4, h5, h6⟩ := hp.out.at hw.out j hlt
      obtain ⟨b2, o2, A2', c2', rfl, hb2', g1, g2, g3, g4, g5, g6⟩ := hp2.out.at hw.out j hlt
      have hbl : b < wr.heap.size := by have := hw.out.size; omega
      have hbl2 : b2 < wr.heap.size := by have := hw.out.size; omega
      have hcall := ih.out ps[j] (List.getElem_mem hlt) A' A2' c' c2' wr.drew h4 h5 (PartsIs.up hw.out.drew hw.out.size _ _ _ h6) (PartsIs.up hw.out.drew hw.out.size _ _ _ g6)
      replace hcall := Lib.hid hcall
      clear h4 h5 h6 g4 g5 g6
      go_wp2_with fail
      go_region_held3 (fun w' => w'.cell? ⟨b, o + j * 3, none⟩ = some (.int .i64 ps[j].kind) ∧ w'.cell? ⟨b, o + j * 3 + 1, none⟩ = some (.int .i64 ps[j].n) ∧ w'.cell? ⟨b, o + j * 3 + 2, none⟩ = some (.slice A' ps[j].parts.length c') ∧ w'.cell? ⟨b2, o2 + j * 3, none⟩ = some (.int .i64 ps[j].kind) ∧ w'.cell? ⟨b2, o2 + j * 3 + 1, none⟩ = some (.int .i64 ps[j].n) ∧ w'.cell? ⟨b2, o2 + j * 3 + 2, none⟩ = some (.slice A2' ps[j].parts.length c2'))
        (first | exact ⟨k1, k2, k3, k4, k5, k6⟩ | exact ⟨h1, h2, h3, g1, g2, g3⟩)
        (first | (go_at_call 95; refine hcall.out.mono ?_; rintro e w2 ⟨rfl, q2⟩; have k1 := kept_cell q2 hbl h1; have k2 := kept_cell q2 hbl h2; have k3 := kept_cell q2 hbl h3; have k4 := kept_cell q2 hbl2 g1; have k5 := kept_cell q2 hbl2 g2; have k6 := kept_cell q2 hbl2 g3; have hw2 := below_up hw.out.drew q2; replace hw2 := Lib.hid hw2; clear q2))
      all_goals
        go_wp2_with fail
        go_roundw
        case rel => exact ⟨j + 1, by omega, by go_num, hw2⟩
        case measure => simp [intOf]; omega
    · go_wp2_with fail
      go_ret
      exact ⟨rfl, hw.out⟩
theorem eqTask_same : ∀ (p : Task), PTask p := by
  refine Task.ind ?_
  intro k n ps ih A A2 c c2 w hc hm hp hp2
  simp only [Task.kind, Task.n, Task.parts] at hc hp hp2 ⊢
  have hS := fun w1 (hw : Below w.heap.size w w1) => eqTaskS_of ps ih A A2 c c2 w1 hc hm (PartsIs.up hw hw.size _ _ _ hp) (PartsIs.up hw hw.size _ _ _ hp2)
  replace hS := Lib.hid hS
  clear ih hp hp2
  have hkk : (k != k) = false := by simp
  have hnn : (n != n) = false := by simp
  go_enter Try.func95, Try.ntmps95
  go_wp2_with fail
  refine (hS.out _ (below_al (below_al (Below.refl _ _) _) _)).mono ?_
  rintro e w1 ⟨rfl, h1⟩
  go_wp2_with fail
  go_ret
  exact ⟨rfl, below_from (below_from h1)⟩
theorem eqTaskS_same (ps : List Task) (A A2 : Option Addr) (c c2 : Nat) (w : World) (hc : ps.length ≤ c) (hm : c ≤ maxLen) (hp : PartsIs w.heap.size w A 0 ps) (hp2 : PartsIs w.heap.size w A2 0 ps) :
    Calls Try.prog 58 #[.slice A ps.length c, .slice A2 ps.length c2] w fun e w' => e = .returned (.bool true) ∧ Below w.heap.size w w' :=
  eqTaskS_of ps (fun p _ => eqTask_same p) A A2 c c2 w hc hm hp hp2
theorem eqSheet_same (Am At Am2 At2 : Option Addr) (cm ct cm2 ct2 : Nat) (made : List Bool) (tasks : List Task) (w : World) (hs : SheetAt w.heap.size w Am cm At ct made tasks) (hs2 : SheetAt w.heap.size w Am2 cm2 At2 ct2 made tasks) :
    Calls Try.prog 27 #[.agg #[.slice Am made.length cm, .slice At tasks.length ct], .agg #[.slice Am2 made.length cm2, .slice At2 tasks.length ct2]] w fun e w' => e = .returned (.bool true) ∧ Below w.heap.size w w' := by
  have h1 := fun w1 (hw : Below w.heap.size w w1) => eqBoolS_same Am Am2 cm cm2 made w1 (Nat.le_trans hs.lm hs.mm) (hs.made.up hw hw.size) (hs2.made.up hw hw.size)
  have h2 := fun w1 (hw : Below w.heap.size w w1) => eqTaskS_same tasks At At2 ct ct2 w1 hs.lt hs.mt (PartsIs.up hw hw.size _ _ _ hs.tasks) (PartsIs.up hw hw.size _ _ _ hs2.tasks)
  replace h1 := Lib.hid h1
  replace h2 := Lib.hid h2
  clear hs hs2
  go_enter Try.func27, Try.ntmps27
  go_wp2_with fail
  refine (h1.out _ (below_al (below_al (Below.refl _ _) _) _)).mono ?_
  rintro e w1 ⟨rfl, g1⟩
  have x1 : w1.cell? ⟨w.heap.size, 1, none⟩ = some (.slice At tasks.length ct) := (g1.cell (p := ⟨w.heap.size, 1, none⟩) (by simp; omega)).trans (by simp)
  have x2 : w1.cell? ⟨w.heap.size + 1, 1, none⟩ = some (.slice At2 tasks.length ct2) := (g1.cell (p := ⟨w.heap.size + 1, 1, none⟩) (by simp)).trans (by simp)
  have b1 := below_from (below_from g1)
  replace b1 := Lib.hid b1
  clear g1
  go_wp2_with fail
  refine (h2.out _ b1.out).mono ?_
  rintro e w2 ⟨rfl, g2⟩
  go_wp2_with fail
  go_ret
  exact ⟨rfl, below_up b1.out g2⟩

/-! marks -/
def marksI (k : Int) (n : Nat) : List Int := (List.range n).map fun i : Nat => k + i
theorem marksI_length (k : Int) (n : Nat) : (marksI k n).length = n := by simp [marksI]
theorem marksI_get {k : Int} {n i : Nat} (h : i < (marksI k n).length) : (marksI k n)[i] = k + i := by simp [marksI]
theorem marksI_succ (k : Int) (n : Nat) : marksI k (n + 1) = marksI k n ++ [k + n] := by simp [marksI, List.range_succ]
set_option maxHeartbeats 2000000 in
theorem markIntS_calls (base : Nat) (v : Value) (xs : List Int) (k : Int) (w : World) (ho : w.ownsRow base 3 1 v xs.length (ints xs)) (h0 : 0 ≤ k) (hk : k + xs.length ≤ 1000000000000) :
    Calls Try.prog 32 #[v, .int .i64 k] w fun e w' => e = .returned (.int .i64 (k + xs.length)) ∧ w'.ownsRow base 3 1 v xs.length (ints (marksI k xs.length)) ∧ Turn (fun i => v.ownBlock = some i) (fun i => v.ownBlock = some i) w w' := by
  obtain ⟨A, c, rfl, hl1, hl2, hl3⟩ := ownsRow_ints ho
  unfold maxLen at hl2
  replace ho := Lib.hid ho
  replace hl3 := Lib.hid hl3
  go_enter Try.func32, Try.ntmps32
  go_wp2_with fail
  go_loopw [1, 5] (fun x i wr => ∃ (j : Nat), j ≤ xs.length ∧ i = .int .i64 j ∧ x = .int .i64 (k + j) ∧ Hid (wr.ownsRow base 3 1 (.slice A xs.length c) xs.length (ints (marksI k j ++ xs.drop j))) ∧ Hid (Turn (fun i => (Value.slice A xs.length c).ownBlock = some i) (fun i => (Value.slice A xs.length c).ownBlock = some i) w wr)) (fun _ i _ => xs.length - (intOf i).toNat)
  case atStart => exact ⟨0, Nat.zero_le _, rfl, by simp, ho, Lib.hid (Turn.refl _ _)⟩
  case round =>
    obtain ⟨j, hj, rfl, rfl, ho, hT⟩ := hrel
    by_cases hlt : j < xs.length
    · obtain ⟨g, cap, hv, hg, -⟩ := ho.out.form (by omega)
      obtain ⟨rfl, -, rfl⟩ : A = some ⟨g, 0, none⟩ ∧ True ∧ c = cap := by cases hv; exact ⟨rfl, trivial, rfl⟩
      have c0 : wr.cell? ⟨g, j, none⟩ = some (.int .i64 xs[j]) := by
        have := ho.out.cells (g := g) rfl j (.int .i64 xs[j]) (by
          simp only [ints, List.map_append]
          rw [List.getElem?_append_right (by simp [marksI])]
          simp [marksI, hlt])
        rwa [Addr.add_lit, Nat.zero_add] at this
      have f0 : wr.frozen? ⟨g, j, none⟩ = false := by
        obtain ⟨_, ⟨h2, _⟩ | ⟨g', cap', cur, h2, h3, h4, _⟩⟩ := ho.out
        · cases h2
        · cases h2; exact frozenm h4 j
      have hset := ownsRow_set ho.out j (.int .i64 (k + j)) hlt
      have e : (ints (marksI k j ++ xs.drop j)).set j (.int .i64 (k + j)) = ints (marksI k (j + 1) ++ xs.drop (j + 1)) := by
        simp only [ints, List.map_append]
        rw [List.set_append_right _ _ (by simp [marksI]), List.drop_eq_getElem_cons hlt, marksI_succ, List.length_map, marksI_length, Nat.sub_self, List.map_cons, List.set_cons_zero, List.map_append, List.append_assoc]; rfl
      rw [e] at hset
      have hT2 := hT.out.trans (setCell_turn (F := fun i => (Value.slice (some ⟨g, 0, none⟩) xs.length c).ownBlock = some i) (w := wr) (a := ⟨g, j, none⟩) rfl (.int .i64 (k + j)))
      replace hset := Lib.hid hset
      replace hT2 := Lib.hid hT2
      replace e := Lib.hid e
      clear ho hT
      go_wp2_with fail
      go_roundw
      case rel => exact ⟨j + 1, by omega, by go_num, by go_num, hset, hT2⟩
      case measure => simp [intOf]; omega
    · have e : j = xs.length := by omega
      subst e
      have ho2 := ho.out
      rw [List.drop_length, List.append_nil] at ho2
      replace ho2 := Lib.hid ho2
      go_wp2_with fail
      go_ret
      exact ⟨rfl, ho2.out, hT.out⟩
set_option maxHeartbeats 2000000 in
theorem heldIntS_calls (A : Option Addr) (c n : Nat) (k : Int) (w : World) (hn : n ≤ 1000000000) (h0 : 0 ≤ k) (hk : k + n ≤ 1000000000000) (hx : IntsAt w.heap.size w A (marksI k n)) :
    Calls Try.prog 33 #[.slice A n c, .int .i64 k] w fun e w' => e = .returned (.int .i64 (k + n)) ∧ Below w.heap.size w w' := by
  replace hx := Lib.hid hx
  go_enter Try.func33, Try.ntmps33
  go_wp2_with fail
  go_loopw [1, 5] (fun x i wr => ∃ (j : Nat), j ≤ n ∧ i = .int .i64 j ∧ x = .int .i64 (k + j) ∧ wr = w) (fun _ i _ => n - (intOf i).toNat)
  case atStart => exact ⟨0, Nat.zero_le _, rfl, by simp, rfl⟩
  case round =>
    obtain ⟨j, hj, rfl, rfl, rfl⟩ := hrel
    by_cases hlt : j < n
    · obtain ⟨b, o, e, hb, y⟩ := hx.out j (by rw [marksI_length]; exact hlt)
      rw [marksI_get] at y
      subst e
      have hne : (k + (j : Int) != k + (j : Int)) = false := by simp
      go_wp2_with fail
      go_roundw
      case rel => exact ⟨j + 1, by omega, by go_num, by go_num, by first | rfl | trivial⟩
      case measure => simp [intOf]; omega
    · have e : j = n := by omega
      subst e
      go_wp2_with fail
      go_ret
      exact ⟨rfl, Below.refl _ _⟩
set_option maxHeartbeats 2000000 in
theorem markBoolS_calls (b : Nat) (xs : List Bool) (k : Int) (w : World) (hR : RowBlk (fun b : Bool => Value.bool b) 4 w b xs) (hl : xs.length ≤ 1048576) (h0 : 0 ≤ k) (hk : k + xs.length ≤ 1000000000000) :
    Calls Try.prog 59 #[.slice (some ⟨b, 0, none⟩) xs.length xs.length, .int .i64 k] w fun e w' => e = .returned (.int .i64 (k + xs.length)) ∧ Turn (· = b) (· = b) w w' := by
  replace hR := Lib.hid hR
  go_enter Try.func59, Try.ntmps59
  go_wp2_with fail
  go_loopw [1, 5] (fun x i wr => ∃ (j : Nat) (ys : List Bool), j ≤ xs.length ∧ ys.length = xs.length ∧ i = .int .i64 j ∧ x = .int .i64 (k + j) ∧ Hid (RowBlk (fun b : Bool => Value.bool b) 4 wr b ys) ∧ Hid (Turn (· = b) (· = b) w wr)) (fun _ i _ => xs.length - (intOf i).toNat)
  case atStart => exact ⟨0, xs, Nat.zero_le _, rfl, rfl, by simp, hR, Lib.hid (Turn.refl _ _)⟩
  case round =>
    obtain ⟨j, ys, hj, hyl, rfl, rfl, hR, hT⟩ := hrel
    replace hyl := Lib.hid hyl
    by_cases hlt : j < xs.length
    · have c0 := hR.out.cell (i := j) (by rw [hyl.out]; exact hlt)
      have f0 := hR.out.frozen j
      obtain ⟨d, hd⟩ : ∃ d, ((k + (j : Int)) % 3 == 0) = d := ⟨_, rfl⟩
      have hset := hR.out.set j d
      have hT2 := hT.out.trans (setCell_turn (F := (· = b)) (w := wr) (a := ⟨b, j, none⟩) rfl (.bool d))
      have hyl2 : (ys.set j d).length = xs.length := by rw [List.length_set]; exact hyl.out
      replace hset := Lib.hid hset
      replace hT2 := Lib.hid hT2
      replace hyl2 := Lib.hid hyl2
      clear hR hT
      go_wp2_with fail
      go_roundw
      case rel => exact ⟨j + 1, _, by omega, hyl2.out, by go_num, by go_num, hset, hT2⟩
      case measure => simp [intOf]; omega
    · have e : j = xs.length := by omega
      subst e
      go_wp2_with fail
      go_ret
      exact ⟨rfl, hT.out⟩

/-- marking a tree: numbers alone turn, in its region -/
def MarkT (lo hi : Nat) (k m : Int) (w : World) (e : Ending) (w' : World) : Prop :=
  e = .returned (.int .i64 (k + 2 * m)) ∧ (∀ A qs, TL false lo hi w A 0 qs → TL false lo hi w' A 0 qs) ∧ Turn (fun i => lo ≤ i ∧ i < hi) (fun i => lo ≤ i ∧ i < hi) w w'
set_option maxHeartbeats 4000000 in
theorem markTaskS_of (lo hi : Nat) (ps : List Task) (ih : ∀ p ∈ ps, ∀ (A : Option Addr) (c : Nat) (k : Int) (w : World), p.parts.length ≤ c → c ≤ maxLen → TL false lo hi w A 0 p.parts → 0 ≤ k → k + 2 * nodesL p.parts ≤ 1000000000000 →
      Calls Try.prog 60 #[.slice A p.parts.length c, .int .i64 k] w (MarkT lo hi k (nodesL p.parts) w))
    (A : Option Addr) (c : Nat) (k : Int) (w : World) (hc : ps.length ≤ c) (hm : c ≤ maxLen) (ht : TL false lo hi w A 0 ps) (h0 : 0 ≤ k) (hk : k + 2 * nodesL ps ≤ 1000000000000) :
    Calls Try.prog 60 #[.slice A ps.length c, .int .i64 k] w (MarkT lo hi k (nodesL ps) w) := by
  unfold maxLen at hm
  have hlen := parts_len ps
  replace ih := Lib.hid ih
  replace ht := Lib.hid ht
  go_enter Try.func60, Try.ntmps60
  go_wp2_with fail
  go_loopw [1, 5] (fun x i wr => ∃ (j : Nat) (q : Int), j ≤ ps.length ∧ i = .int .i64 j ∧ x = .int .i64 q ∧ 0 ≤ q ∧ Hid (q = k + 2 * nodesL (ps.take j)) ∧ Hid (TL false lo hi wr A 0 ps) ∧ Hid (∀ A qs, TL false lo hi w A 0 qs → TL false lo hi wr A 0 qs) ∧ Hid (Turn (fun i => lo ≤ i ∧ i < hi) (fun i => lo ≤ i ∧ i < hi) w wr)) (fun _ i _ => ps.length - (intOf i).toNat)
  case atStart => exact ⟨0, k, Nat.zero_le _, rfl, rfl, h0, Lib.hid (by simp [nodesL]), ht, Lib.hid (fun _ _ h => h), Lib.hid (Turn.refl _ _)⟩
  case round =>
    obtain ⟨j, q, hj, rfl, rfl, hq0, hq, ht, hall, hT⟩ := hrel
    by_cases hlt : j < ps.length
    · obtain ⟨b, o, cur, T, x, y, z, rfl, h1, h2, h3, g0, g1, g2, h4⟩ := ht.out.get j hlt
      rw [Nat.zero_add] at g0 g1 g2
      obtain ⟨kk, nn, A', c', rfl, rfl, rfl, -, h5, h6, h7⟩ := h4.open
      have htk : nodesL (ps.take (j + 1)) = nodesL (ps.take j) + (1 + nodesL ps[j].parts) := by rw [List.take_succ_eq_append_getElem hlt, nodesL_snoc, nodes_parts]
      have hle : nodesL (ps.take (j + 1)) ≤ nodesL ps := by
        have e : ps = ps.take (j + 1) ++ ps.drop (j + 1) := (List.take_append_drop _ _).symm
        have hs : ∀ (l m : List Task), nodesL l ≤ nodesL (l ++ m) := by
          intro l
          induction l with
          | nil => intro m; rw [nodesL]; exact nodesL_pos _
          | cons a l ihl => intro m; rw [List.cons_append, nodesL, nodesL]; have := ihl m; omega
        have := hs (ps.take (j + 1)) (ps.drop (j + 1))
        rwa [← e] at this
      have hqb : q + 2 + 2 * nodesL ps[j].parts ≤ 1000000000000 := by have := hq.out; omega
      have hnp := nodesL_pos ps[j].parts
      have ha := cellm h3 (o + j * 3)
      rw [g0] at ha
      have hb := cellm h3 (o + j * 3 + 1)
      rw [g1] at hb
      have hc2 := cellm h3 (o + j * 3 + 2)
      rw [g2] at hc2
      have f0 := frozenm h3 (o + j * 3)
      have f1 := frozenm h3 (o + j * 3 + 1)
      have e1 := setCell_block h3 (o + j * 3) (.int .i64 q)
      have g1' : (cur.setIfInBounds (o + j * 3) (.int .i64 q))[o + j * 3 + 1]? = some (.int .i64 nn) := by rw [Array.getElem?_setIfInBounds, if_neg (by omega)]; exact g1
      have hput : ∀ B' qs, TL false lo hi wr B' 0 qs → TL false lo hi ((wr.setCell ⟨b, o + j * 3, none⟩ (.int .i64 q)).setCell ⟨b, o + j * 3 + 1, none⟩ (.int .i64 (q + 1))) B' 0 qs := fun B' qs h => TL.put e1 g1' (q + 1) qs B' (TL.put h3 g0 q qs B' h)
      have hT2 := (hT.out.trans (setCell_turn (F := fun i => lo ≤ i ∧ i < hi) (w := wr) (a := ⟨b, o + j * 3, none⟩) ⟨h1, h2⟩ (.int .i64 q))).trans (setCell_turn (F := fun i => lo ≤ i ∧ i < hi) (a := ⟨b, o + j * 3 + 1, none⟩) ⟨h1, h2⟩ (.int .i64 (q + 1)))
      have hcall := ih.out ps[j] (List.getElem_mem hlt) A' c' (q + 1 + 1) ((wr.setCell ⟨b, o + j * 3, none⟩ (.int .i64 q)).setCell ⟨b, o + j * 3 + 1, none⟩ (.int .i64 (q + 1))) h5 h6 (hput _ _ h7) (by omega) (by omega)
      replace hput := Lib.hid hput
      replace hcall := Lib.hid hcall
      replace hT2 := Lib.hid hT2
      replace htk := Lib.hid htk
      replace hle := Lib.hid hle
      clear h3 g0 g1 g2 e1 g1' h4 h5 h6 h7
      go_wp2_with fail
      refine hcall.out.mono ?_
      rintro e w2 ⟨rfl, hall2, hT3⟩
      have hall3 : ∀ A qs, TL false lo hi w A 0 qs → TL false lo hi w2 A 0 qs := fun A' qs h => hall2 _ _ (hput.out _ _ (hall.out _ _ h))
      have ht2 := hall2 _ _ (hput.out _ _ ht.out)
      have hT4 := hT2.out.trans hT3
      have hq2 : q + 1 + 1 + 2 * nodesL ps[j].parts = k + 2 * nodesL (ps.take (j + 1)) := by have := hq.out; have := htk.out; omega
      replace hall3 := Lib.hid hall3
      replace ht2 := Lib.hid ht2
      replace hT4 := Lib.hid hT4
      replace hq2 := Lib.hid hq2
      clear hall2 hT3 hcall hput
      go_wp2_with fail
      go_roundw
      case rel => exact ⟨j + 1, _, by omega, by go_num, rfl, by omega, hq2, ht2, hall3, hT4⟩
      case measure => simp [intOf]; omega
    · have e : j = ps.length := by omega
      subst e
      have hq2 := hq.out
      rw [List.take_length] at hq2
      replace hq2 := Lib.hid hq2
      go_wp2_with fail
      go_ret
      exact ⟨by rw [hq2.out]; rfl, hall.out, hT.out⟩
theorem markTaskS_calls (lo hi : Nat) (ps : List Task) (A : Option Addr) (c : Nat) (k : Int) (w : World) (hc : ps.length ≤ c) (hm : c ≤ maxLen) (ht : TL false lo hi w A 0 ps) (h0 : 0 ≤ k) (hk : k + 2 * nodesL ps ≤ 1000000000000) :
    Calls Try.prog 60 #[.slice A ps.length c, .int .i64 k] w (MarkT lo hi k (nodesL ps) w) := by
  have h : ∀ (t : Task), ∀ (A : Option Addr) (c : Nat) (k : Int) (w : World), t.parts.length ≤ c → c ≤ maxLen → TL false lo hi w A 0 t.parts → 0 ≤ k → k + 2 * nodesL t.parts ≤ 1000000000000 →
      Calls Try.prog 60 #[.slice A t.parts.length c, .int .i64 k] w (MarkT lo hi k (nodesL t.parts) w) := by
    refine Task.ind ?_
    intro kk n ps ih A c k w hc hm ht h0 hk
    exact markTaskS_of lo hi ps ih A c k w hc hm ht h0 hk
  exact h (.mk 0 0 ps) A c k w hc hm ht h0 hk
theorem markSheet_calls (lo mid hi bm bt : Nat) (made : List Bool) (tasks : List Task) (k : Int) (w : World) (hs : SheetT lo mid hi bm bt made tasks w) (hhi : hi ≤ w.heap.size) (hml : made.length ≤ 1048576) (hn : nodesL tasks ≤ 1048576) (h0 : 0 ≤ k) (hk : k ≤ 1000000000) :
    Calls Try.prog 30 #[.agg #[.slice (some ⟨bm, 0, none⟩) made.length made.length, .slice (some ⟨bt, 0, none⟩) tasks.length tasks.length], .int .i64 k] w fun e w' => ∃ q : Int, e = .returned (.int .i64 q) ∧ k ≤ q ∧ q ≤ k + 10000000 ∧ Turn (fun i => lo ≤ i ∧ i < hi) (fun i => lo ≤ i ∧ i < hi) w w' := by
  have hlen := parts_len tasks
  have hnp := nodesL_pos tasks
  have hbm := hs.h2
  have hR := hs.row.turn (w' := w.alloc (.cells #[.slice (some ⟨bm, 0, none⟩) made.length made.length, .slice (some ⟨bt, 0, none⟩) tasks.length tasks.length] 26 (0, 0))) (heap_old hs.row.lt)
  have h1 := markBoolS_calls bm made k _ hR hml h0 (by omega)
  have h2 := fun w1 (ht : TL false mid hi w1 (some ⟨bt, 0, none⟩) 0 tasks) => markTaskS_calls mid hi tasks (some ⟨bt, 0, none⟩) tasks.length (k + made.length) w1 (Nat.le_refl _) (by unfold maxLen; omega) ht (by omega) (by omega)
  have hbl := hs.row.lt
  have h3 := hs.h3
  have hl1 := hs.h1
  have ht := hs.tree.weak
  replace h1 := Lib.hid h1
  replace h2 := Lib.hid h2
  replace ht := Lib.hid ht
  clear hs hR
  go_enter Try.func30, Try.ntmps30
  go_wp2_with fail
  refine h1.out.mono ?_
  rintro e w1 ⟨rfl, t1⟩
  have x1 : w1.cell? ⟨w.heap.size, 1, none⟩ = some (.slice (some ⟨bt, 0, none⟩) tasks.length tasks.length) := (t1.cell 1 (by simp) (by omega)).trans (by simp)
  have ht1 := h2.out w1 (TL.kept (fun b h4 h5 => (t1.block b (by simp; omega) (by omega)).trans (heap_old (by omega))) (Nat.le_refl _) (Nat.le_refl _) _ _ _ ht.out)
  have t2 : Turn (fun i => lo ≤ i ∧ i < hi) (fun i => lo ≤ i ∧ i < hi) w w1 := ⟨t1.os, t1.tape, t1.output, by have := t1.size; simp at this; omega, fun i h4 h5 => (t1.block i (by simp; omega) (by omega)).trans (heap_old h4), fun i h => .inl h⟩
  replace ht1 := Lib.hid ht1
  replace t2 := Lib.hid t2
  clear t1 h1 h2
  go_wp2_with fail
  refine ht1.out.mono ?_
  rintro e w2 ⟨rfl, -, t3⟩
  have t4 : Turn (fun i => lo ≤ i ∧ i < hi) (fun i => lo ≤ i ∧ i < hi) w w2 := ⟨t3.os.trans t2.out.os, t3.tape.trans t2.out.tape, t3.output.trans t2.out.output, Nat.le_trans t2.out.size t3.size, fun i h4 h5 => (t3.block i (Nat.lt_of_lt_of_le h4 t2.out.size) (by omega)).trans (t2.out.block i h4 h5), fun i h => .inl h⟩
  replace t4 := Lib.hid t4
  clear t3
  go_wp2_with fail
  go_ret
  exact ⟨_, rfl, by omega, by omega, t4.out⟩
end Go.Proofs.Ytkbblekengdhaaa

set_option linter.unusedVariables false
set_option linter.unusedSimpArgs false
namespace Go.Proofs.Ytkbblekengdhaaa
open Go Go.RowKit

/-! sizes: -1, or what is left -/
def SzR (l r m : Int) : Prop := r = -1 ∨ (0 ≤ r ∧ r + m = l)
def Sized (l m : Int) (w : World) (e : Ending) (w' : World) : Prop := ∃ r : Int, e = .returned (.int .i64 r) ∧ SzR l r m ∧ Below w.heap.size w w'

theorem szBoolS_calls (A : Option Addr) (n c : Nat) (l : Int) (w : World) (hn : n ≤ maxLen) (h0 : 0 ≤ l) (hl : l ≤ 1048576) :
    Calls Try.prog 52 #[.slice A n c, .int .i64 l] w (Sized l n w) := by
  unfold maxLen at hn
  by_cases h : l - n < 0 <;>
  · go_enter Try.func52, Try.ntmps52
    go_wp2_with fail
    go_ret
    exact ⟨_, rfl, by unfold SzR; omega, Below.refl _ _⟩

/-- the size of a row of tasks, the sizes of tasks given -/
theorem szTaskS_of (ps : List Task) (ih : ∀ p ∈ ps, ∀ (A : Option Addr) (c : Nat) (l : Int) (B : Nat) (w0 w : World), Below B w0 w → B ≤ w.heap.size → p.parts.length ≤ c → c ≤ maxLen → PartsIs B w0 A 0 p.parts → 0 ≤ l → l ≤ 1048576 →
      Calls Try.prog 93 #[.agg #[.int .i64 p.kind, .int .i64 p.n, .slice A p.parts.length c], .int .i64 l] w (Sized l (nodesL p.parts) w))
    (A : Option Addr) (c : Nat) (l : Int) (B : Nat) (w0 w : World) (hb : Below B w0 w) (hB : B ≤ w.heap.size) (hc : ps.length ≤ c) (hm : c ≤ maxLen) (hp : PartsIs B w0 A 0 ps) (h0 : 0 ≤ l) (hl : l ≤ 1048576) :
    Calls Try.prog 53 #[.slice A ps.length c, .int .i64 l] w (Sized l (nodesL ps) w) := by
  unfold maxLen at hm
  replace ih := Lib.hid ih
  replace hb := Lib.hid hb
  replace hp := Lib.hid hp
  by_cases h : l - ps.length < 0
  · go_enter Try.func53, Try.ntmps53
    go_wp2_with fail
    go_ret
    exact ⟨_, rfl, .inl rfl, Below.refl _ _⟩
  · go_enter Try.func53, Try.ntmps53
    go_wp2_with fail
    go_loopw [1, 5] (fun x i wr => ∃ (j : Nat) (r : Int), j ≤ ps.length ∧ i = .int .i64 j ∧ x = .int .i64 r ∧ 0 ≤ r ∧ r ≤ 1048576 ∧ Hid (r + (ps.length - j) + nodesL (ps.take j) = l) ∧ Hid (Below w.heap.size w wr)) (fun _ i _ => ps.length - (intOf i).toNat)
    case atStart => exact ⟨0, l - ps.length, Nat.zero_le _, rfl, rfl, by omega, by omega, Lib.hid (by simp [nodesL]), Lib.hid (Below.refl _ _)⟩
    case round =>
      obtain ⟨j, r, hj, rfl, rfl, hr0, hr1, he, hw⟩ := hrel
      by_cases hlt : j < ps.length
      · obtain ⟨b, o, A', c', rfl, hb', h1, h2, h3, h4, h5, h6⟩ := hp.out.at (below_up' hb.out hB hw.out) j hlt
        have hcall := ih.out ps[j] (List.getElem_mem hlt) A' c' r B w0 wr (below_up' hb.out hB hw.out) (Nat.le_trans hB hw.out.size) h4 h5 h6 hr0 hr1
        have htk : nodesL (ps.take (j + 1)) = nodesL (ps.take j) + (1 + nodesL ps[j].parts) := by rw [List.take_succ_eq_append_getElem hlt, nodesL_snoc, nodes_parts]
        have hbl : b < wr.heap.size := by have := hw.out.size; omega
        replace hcall := Lib.hid hcall
        replace htk := Lib.hid htk
        clear h4 h5 h6
        go_wp2_with fail
        refine hcall.out.mono ?_
        rintro e w2 ⟨r2, rfl, hz, h2⟩
        have hw2 := below_up hw.out h2
        replace hw2 := Lib.hid hw2
        clear h2 hcall
        rcases hz with rfl | ⟨hz0, hz1⟩
        · go_wp2_with fail
          go_ret
          exact ⟨_, rfl, .inl rfl, hw2.out⟩
        · have hle : r2 ≤ r := by have := nodesL_pos ps[j].parts; omega
          have he2 : r2 + (ps.length - (j + 1 : Nat)) + nodesL (ps.take (j + 1)) = l := by have := he.out; have := htk.out; omega
          have hn : ¬ r2 < 0 := by omega
          replace hz1 := Lib.hid hz1
          replace he2 := Lib.hid he2
          go_wp2_with fail
          go_roundw
          case rel => exact ⟨j + 1, r2, by omega, by go_num, rfl, hz0, by omega, he2, hw2⟩
          case measure => simp [intOf]; omega
      · have e : j = ps.length := by omega
        subst e
        have he2 := he.out
        rw [List.take_length] at he2
        replace he2 := Lib.hid he2
        go_wp2_with fail
        go_ret
        exact ⟨_, rfl, .inr ⟨hr0, by have := he2.out; omega⟩, hw.out⟩
theorem szTask_calls : ∀ (p : Task) (A : Option Addr) (c : Nat) (l : Int) (B : Nat) (w0 w : World), Below B w0 w → B ≤ w.heap.size → p.parts.length ≤ c → c ≤ maxLen → PartsIs B w0 A 0 p.parts → 0 ≤ l → l ≤ 1048576 →
      Calls Try.prog 93 #[.agg #[.int .i64 p.kind, .int .i64 p.n, .slice A p.parts.length c], .int .i64 l] w (Sized l (nodesL p.parts) w) := by
  refine Task.ind ?_
  intro k n ps ih A c l B w0 w hb hB hc hm hp h0 hl
  simp only [Task.kind, Task.n, Task.parts] at hc hp ⊢
  have hS := fun w1 (hw : Below w.heap.size w w1) => szTaskS_of ps ih A c l B w0 w1 (below_up' hb hB hw) (Nat.le_trans hB hw.size) hc hm hp h0 hl
  replace hS := Lib.hid hS
  clear ih hb hp
  go_enter Try.func93, Try.ntmps93
  go_wp2_with fail
  refine (hS.out _ (below_al (Below.refl _ _) _)).mono ?_
  rintro e w1 ⟨r, rfl, hz, h1⟩
  have b1 := below_from h1
  replace b1 := Lib.hid b1
  clear h1 hS
  rcases hz with rfl | ⟨hz0, hz1⟩
  · go_wp2_with fail
    go_ret
    exact ⟨_, rfl, .inl rfl, b1.out⟩
  · have hn : ¬ r < 0 := by omega
    replace hz1 := Lib.hid hz1
    go_wp2_with fail
    go_ret
    exact ⟨_, rfl, .inr ⟨hz0, hz1.out⟩, b1.out⟩
theorem szTaskS_calls (ps : List Task) (A : Option Addr) (c : Nat) (l : Int) (B : Nat) (w0 w : World) (hb : Below B w0 w) (hB : B ≤ w.heap.size) (hc : ps.length ≤ c) (hm : c ≤ maxLen) (hp : PartsIs B w0 A 0 ps) (h0 : 0 ≤ l) (hl : l ≤ 1048576) :
    Calls Try.prog 53 #[.slice A ps.length c, .int .i64 l] w (Sized l (nodesL ps) w) :=
  szTaskS_of ps (fun p _ => szTask_calls p) A c l B w0 w hb hB hc hm hp h0 hl

theorem szSheet_calls (Am At : Option Addr) (nm cm ct : Nat) (ps : List Task) (l : Int) (B : Nat) (w0 w : World) (hb : Below B w0 w) (hB : B ≤ w.heap.size) (hnm : nm ≤ maxLen) (hc : ps.length ≤ ct) (hm : ct ≤ maxLen) (hp : PartsIs B w0 At 0 ps) (h0 : 0 ≤ l) (hl : l ≤ 1048576) :
    Calls Try.prog 22 #[.agg #[.slice Am nm cm, .slice At ps.length ct], .int .i64 l] w (Sized l (nm + nodesL ps) w) := by
  have h1 := fun w1 => szBoolS_calls Am nm cm l w1 hnm h0 hl
  have h2 := fun w1 (hw : Below w.heap.size w w1) (l : Int) (h0 : 0 ≤ l) (hl : l ≤ 1048576) => szTaskS_calls ps At ct l B w0 w1 (below_up' hb hB hw) (Nat.le_trans hB hw.size) hc hm hp h0 hl
  replace h1 := Lib.hid h1
  replace h2 := Lib.hid h2
  clear hb hp
  go_enter Try.func22, Try.ntmps22
  go_wp2_with fail
  refine (h1.out _).mono ?_
  rintro e w1 ⟨r, rfl, hz, hw1⟩
  have x1 : w1.cell? ⟨w.heap.size, 1, none⟩ = some (.slice At ps.length ct) := (hw1.cell (p := ⟨w.heap.size, 1, none⟩) (by simp)).trans (by simp)
  have b1 := below_from hw1
  replace b1 := Lib.hid b1
  clear hw1 h1
  rcases hz with rfl | ⟨hz0, hz1⟩
  · go_wp2_with fail
    go_ret
    exact ⟨_, rfl, .inl rfl, b1.out⟩
  · have hn : ¬ r < 0 := by omega
    have hc2 := h2.out w1 b1.out r hz0 (by omega)
    replace hz1 := Lib.hid hz1
    replace hc2 := Lib.hid hc2
    go_wp2_with fail
    refine hc2.out.mono ?_
    rintro e w2 ⟨r2, rfl, hz', hw2⟩
    have b2 := below_up b1.out hw2
    replace b2 := Lib.hid b2
    clear hw2 hc2 h2
    rcases hz' with rfl | ⟨hz0', hz1'⟩
    · go_wp2_with fail
      go_ret
      exact ⟨_, rfl, .inl rfl, b2.out⟩
    · have hn2 : ¬ r2 < 0 := by omega
      replace hz1' := Lib.hid hz1'
      go_wp2_with fail
      go_ret
      exact ⟨_, rfl, .inr ⟨hz0', by have := hz1.out; have := hz1'.out; omega⟩, b2.out⟩
end Go.Proofs.Ytkbblekengdhaaa

set_option linter.unusedVariables false
set_option linter.unusedSimpArgs false
namespace Go.Proofs.Ytkbblekengdhaaa
open Go Go.RowKit

def sumL : List (List Int) → Int
  | [] => 0
  | x :: l => x.length + sumL l
theorem sumL_pos : ∀ l, 0 ≤ sumL l
  | [] => by simp [sumL]
  | x :: l => by have := sumL_pos l; simp only [sumL]; omega
theorem sumL_app : ∀ a b, sumL (a ++ b) = sumL a + sumL b
  | [], b => by simp [sumL]
  | x :: a, b => by rw [List.cons_append, sumL, sumL_app a b, sumL]; omega
theorem sumL_take (l : List (List Int)) (j : Nat) : sumL (l.take j) ≤ sumL l := by
  have h := sumL_app (l.take j) (l.drop j)
  rw [List.take_append_drop] at h
  have := sumL_pos (l.drop j)
  omega
theorem sumL_succ {l : List (List Int)} {j : Nat} (h : j < l.length) : sumL (l.take (j + 1)) = sumL (l.take j) + l[j].length := by
  rw [List.take_succ_eq_append_getElem h, sumL_app]; simp [sumL]
def marksR : Int → List (List Int) → List (List Int)
  | _, [] => []
  | k, x :: l => marksI k x.length :: marksR (k + x.length) l
theorem marksR_length : ∀ (l : List (List Int)) (k : Int), (marksR k l).length = l.length
  | [], k => rfl
  | x :: l, k => by rw [marksR, List.length_cons, marksR_length l, List.length_cons]
theorem marksR_snoc : ∀ (l : List (List Int)) (k : Int) (x : List Int), marksR k (l ++ [x]) = marksR k l ++ [marksI (k + sumL l) x.length]
  | [], k, x => by simp [marksR, sumL]
  | y :: l, k, x => by rw [List.cons_append, marksR, marksR_snoc l, marksR, sumL, List.cons_append]; congr 3; rw [Int.add_assoc]
theorem marksR_get : ∀ (l : List (List Int)) (k : Int) (j : Nat) (h : j < l.length) (h2 : j < (marksR k l).length), (marksR k l)[j] = marksI (k + sumL (l.take j)) l[j].length
  | [], k, j, h, _ => by simp at h
  | x :: l, k, 0, h, _ => by simp [marksR, sumL]
  | x :: l, k, j + 1, h, h2 => by
    have := marksR_get l (k + x.length) j (by simpa using h) (by rw [marksR_length]; simpa using h)
    simp only [marksR, List.getElem_cons_succ, List.take_succ_cons, sumL]
    rw [this, Int.add_assoc]
section
variable {base H : Nat} {w w2 : World} {v : Value} {vs : List Value} {ll : List (List Int)}
theorem OwnRR.keep (h : OwnRR base H w v vs ll) (hk : ∀ i, base ≤ i → i < H → w2.heap[i]? = w.heap[i]?) : OwnRR base H w2 v vs ll :=
  ⟨ownsRow_block h.out fun i hi => hk i (h.out.lt i hi).1 (h.vlt i hi), fun i h1 h2 => ownsRow_block (h.inn i h1 h2) fun g hg => hk g ((h.inn i h1 h2).lt g hg).1 (h.lt _ (List.getElem_mem h1) g hg), h.apart, h.sep, h.lt, h.vlt⟩
theorem OwnRR.rowsAt {A : Option Addr} {n c : Nat} (h : OwnRR base H w (.slice A n c) vs ll) : RowsAt w.heap.size w A ll := by
  obtain ⟨A', c', e, _, _, h4⟩ := h.rows
  cases e
  exact h4
theorem OwnRR.put (h : OwnRR base H w v vs ll) {j : Nat} (hj : j < vs.length) (hjl : j < ll.length) {ys : List Int} (hk : ∀ i, i < w.heap.size → vs[j].ownBlock ≠ some i → w2.heap[i]? = w.heap[i]?) (ho : w2.ownsRow base 3 1 vs[j] ys.length (ints ys)) : OwnRR base H w2 v vs (ll.set j ys) := by
  refine ⟨?_, fun i h1 h2 => ?_, h.apart, h.sep, h.lt, h.vlt⟩
  · rw [List.length_set]
    exact ownsRow_block h.out fun i hi => hk i (h.out.lt i hi).2 (fun e => h.sep _ (List.getElem_mem hj) i e hi)
  · by_cases e : i = j
    · subst e
      simp only [List.getElem_set_self]
      exact ho
    · have h3 : i < ll.length := by simpa using h2
      have := h.inn i h1 h3
      rw [List.getElem_set_ne (by omega)]
      exact ownsRow_block this fun g hg => hk g (this.lt g hg).2 (fun e2 => e (h.apart i j h1 hj g hg e2))
end
set_option maxHeartbeats 4000000 in
theorem markIntSS_calls (base H : Nat) (v : Value) (vs : List Value) (ll : List (List Int)) (k : Int) (w : World) (h : OwnRR base H w v vs ll) (h0 : 0 ≤ k) (hk : k + sumL ll ≤ 1000000000) :
    Calls Try.prog 31 #[v, .int .i64 k] w fun e w' => e = .returned (.int .i64 (k + sumL ll)) ∧ OwnRR base H w' v vs (marksR k ll) ∧ Turn (fun i => base ≤ i ∧ i < H) (fun i => base ≤ i ∧ i < H) w w' := by
  obtain ⟨A, c, rfl, hl1, hl2, hl3⟩ := ownsRow_cells h.out
  have hlen := h.len
  unfold maxLen at hl2
  replace h := Lib.hid h
  clear hl3
  go_enter Try.func31, Try.ntmps31
  go_wp2_with fail
  go_loopw [1, 5] (fun x i wr => ∃ (j : Nat) (q : Int), j ≤ ll.length ∧ i = .int .i64 j ∧ x = .int .i64 q ∧ Hid (q = k + sumL (ll.take j)) ∧ Hid (OwnRR base H wr (.slice A ll.length c) vs (marksR k (ll.take j) ++ ll.drop j)) ∧ Hid (Turn (fun i => base ≤ i ∧ i < H) (fun i => base ≤ i ∧ i < H) w wr)) (fun _ i _ => ll.length - (intOf i).toNat)
  case atStart => exact ⟨0, k, Nat.zero_le _, rfl, rfl, Lib.hid (by simp [sumL]), Lib.hid (by simpa [marksR] using h.out), Lib.hid (Turn.refl _ _)⟩
  case round =>
    obtain ⟨j, q, hj, rfl, rfl, hq, hO, hT⟩ := hrel
    by_cases hlt : j < ll.length
    · have hlj : (marksR k (ll.take j)).length = j := by rw [marksR_length, List.length_take]; omega
      have hcl : (marksR k (ll.take j) ++ ll.drop j).length = ll.length := by rw [List.length_append, hlj, List.length_drop]; omega
      have hvj : j < vs.length := by omega
      have hcj : (marksR k (ll.take j) ++ ll.drop j)[j]'(by omega) = ll[j] := by
        rw [List.getElem_append_right (by omega)]
        simp [hlj]
      have hin := hO.out.inn j hvj (by omega)
      rw [hcj] at hin
      obtain ⟨A', c', e', -, -, hcell⟩ := ownsRow_cells hO.out.out
      rw [hcl] at e'
      cases e'
      obtain ⟨b, rfl, hb, y⟩ := hcell j hvj
      obtain ⟨Ar, cr, er, -, -⟩ := ownsRow_cells hin
      rw [er] at y
      have hss := sumL_succ hlt
      have hst := sumL_take ll (j + 1)
      have hsp := sumL_pos (ll.take j)
      have hqq := hq.out
      have hcall := markIntS_calls base vs[j] ll[j] q wr hin (by omega) (by omega)
      rw [er] at hcall
      replace hcall := Lib.hid hcall
      replace er := Lib.hid er
      replace hss := Lib.hid hss
      replace hst := Lib.hid hst
      replace hcj := Lib.hid hcj
      replace hlj := Lib.hid hlj
      replace hcl := Lib.hid hcl
      clear hcell hqq hsp
      go_wp2_with fail
      refine hcall.out.mono ?_
      rintro e w2 ⟨rfl, hM, t2⟩
      have hM2 : w2.ownsRow base 3 1 vs[j] (marksI q ll[j].length).length (ints (marksI q ll[j].length)) := by rw [er.out, marksI_length]; exact hM
      have hO2 := hO.out.put hvj (by rw [hcl.out]; exact hlt) (fun i hi hne => t2.block i hi (fun e => hne (by rw [er.out]; exact e))) hM2
      have hset : (marksR k (ll.take j) ++ ll.drop j).set j (marksI q ll[j].length) = marksR k (ll.take (j + 1)) ++ ll.drop (j + 1) := by
        have hlj' := hlj.out
        rw [List.set_append_right _ _ (by omega), hlj', Nat.sub_self, List.drop_eq_getElem_cons hlt, List.set_cons_zero, List.take_succ_eq_append_getElem hlt, marksR_snoc, ← hq.out, List.append_assoc]; rfl
      rw [hset] at hO2
      have hT2 : Turn (fun i => base ≤ i ∧ i < H) (fun i => base ≤ i ∧ i < H) w w2 :=
        ⟨t2.os.trans hT.out.os, t2.tape.trans hT.out.tape, t2.output.trans hT.out.output, Nat.le_trans hT.out.size t2.size, fun i hi hF => (t2.block i (by have := hT.out.size; omega) (fun e => hF (by
          have e2 : vs[j].ownBlock = some i := by rw [er.out]; exact e
          exact ⟨((hO.out.inn j hvj (by rw [hcl.out]; exact hlt)).lt i e2).1, hO.out.lt _ (List.getElem_mem hvj) i e2⟩))).trans (hT.out.block i hi hF), fun i h => .inl h⟩
      have hq2 : q + ll[j].length = k + sumL (ll.take (j + 1)) := by have := hq.out; have := hss.out; omega
      replace hO2 := Lib.hid hO2
      replace hT2 := Lib.hid hT2
      replace hq2 := Lib.hid hq2
      replace hset := Lib.hid hset
      clear hM hM2 t2 hcall hO hT hq y
      go_wp2_with fail
      go_roundw
      case rel => exact ⟨j + 1, _, by omega, by go_num, rfl, hq2, hO2, hT2⟩
      case measure => simp [intOf]; omega
    · have e : ll.take j = ll := List.take_of_length_le (by omega)
      have e2 : ll.drop j = [] := List.drop_eq_nil_of_le (by omega)
      have hO2 := hO.out
      have hq2 := hq.out
      rw [e, e2, List.append_nil] at hO2
      rw [e] at hq2
      replace hO2 := Lib.hid hO2
      replace hq2 := Lib.hid hq2
      replace e := Lib.hid e
      replace e2 := Lib.hid e2
      go_wp2_with fail
      go_ret
      exact ⟨by rw [← hq2.out]; rfl, hO2.out, hT.out⟩
end Go.Proofs.Ytkbblekengdhaaa

set_option linter.unusedVariables false
set_option linter.unusedSimpArgs false
namespace Go.Proofs.Ytkbblekengdhaaa
open Go Go.RowKit

theorem szIntS_calls (A : Option Addr) (n c : Nat) (l : Int) (w : World) (hn : n ≤ maxLen) (h0 : 0 ≤ l) (hl : l ≤ 1048576) :
    Calls Try.prog 54 #[.slice A n c, .int .i64 l] w (Sized l n w) := by
  unfold maxLen at hn
  by_cases h : l - n < 0 <;>
  · go_enter Try.func54, Try.ntmps54
    go_wp2_with fail
    go_ret
    exact ⟨_, rfl, by unfold SzR; omega, Below.refl _ _⟩
/-- how much a row of orders takes -/
def ordsL : List Ordr → Int
  | [] => 0
  | x :: l => 1 + x.1.length + x.2.length + ordsL l
theorem ordsL_pos : ∀ l : List Ordr, 0 ≤ ordsL l
  | [] => by simp [ordsL]
  | x :: l => by have := ordsL_pos l; simp only [ordsL]; omega
theorem ordsL_snoc : ∀ (l : List Ordr) (x : Ordr), ordsL (l ++ [x]) = ordsL l + (1 + x.1.length + x.2.length)
  | [], x => by simp [ordsL]
  | y :: l, x => by rw [List.cons_append, ordsL, ordsL_snoc l x, ordsL]; omega
theorem ordsL_len : ∀ l : List Ordr, (l.length : Int) ≤ ordsL l
  | [] => by simp [ordsL]
  | x :: l => by have := ordsL_len l; simp only [ordsL, List.length_cons]; omega
theorem ordsL_mem : ∀ (l : List Ordr) (x : Ordr), x ∈ l → (x.1.length : Int) + x.2.length ≤ ordsL l
  | [], x, h => by cases h
  | y :: l, x, h => by
    have hp := ordsL_pos l
    simp only [ordsL]
    rcases List.mem_cons.1 h with rfl | h
    · omega
    · have := ordsL_mem l x h; omega
set_option maxHeartbeats 1000000 in
theorem eqIntSS_same (A : Option Addr) (c : Nat) (A2 : Option Addr) (c2 : Nat) (ll : List (List Int)) (w : World) (hx : RowsAt w.heap.size w A ll) (hy : RowsAt w.heap.size w A2 ll) (hl : ll.length ≤ 1048576) (hs : ∀ x ∈ ll, x.length ≤ 1048576) :
    Calls Try.prog 28 #[.slice A ll.length c, .slice A2 ll.length c2] w fun e w' => e = .returned (.bool true) ∧ Below w.heap.size w w' := by
  replace hx := Lib.hid hx
  replace hy := Lib.hid hy
  replace hs := Lib.hid hs
  go_enter Try.func28, Try.ntmps28
  go_wp2_with fail
  go_loopw [5] (fun i wr => ∃ (j : Nat), j ≤ ll.length ∧ i = .int .i64 j ∧ Hid (Below w.heap.size w wr)) (fun i _ => ll.length - (intOf i).toNat)
  case atStart => exact ⟨0, Nat.zero_le _, rfl, Lib.hid (Below.refl _ _)⟩
  case round =>
    obtain ⟨j, hj, rfl, hw⟩ := hrel
    obtain ⟨w9, hw9⟩ : ∃ w9, w9 = wr := ⟨_, rfl⟩
    subst hw9
    by_cases hlt : j < ll.length
    · obtain ⟨b, o, Ar, cr, rfl, hb, c1, hi1⟩ := hx.out.at hw.out hw.out.size j hlt
      obtain ⟨b2, o2, Ar2, cr2, rfl, hb2, c3, hi2⟩ := hy.out.at hw.out hw.out.size j hlt
      have hm := hs.out _ (List.getElem_mem hlt)
      have hk := eqIntS_same Ar Ar2 cr cr2 ll[j] w9.drew (by unfold maxLen; omega) (hi1.up (Below.refl _ _).drew (Nat.le_refl _)) (hi2.up (Below.refl _ _).drew (Nat.le_refl _))
      replace hk := Lib.hid hk
      clear hi1 hi2
      go_wp2_with fail
      go_region_held3 (fun w' => w'.cell? ⟨b, o + j, none⟩ = some (.slice Ar ll[j].length cr) ∧ w'.cell? ⟨b2, o2 + j, none⟩ = some (.slice Ar2 ll[j].length cr2)) (first | exact ⟨l1, l2⟩ | exact ⟨c1, c3⟩)
        (first | (go_at_call 29; refine hk.out.mono ?_; rintro e w10 ⟨rfl, h10⟩; have l1 := kept_cell h10 hb c1; have l2 := kept_cell h10 hb2 c3))
      all_goals
        have hw10 := hw.out.drew.trans (h10.mono hw.out.size)
        replace hw10 := Lib.hid hw10
        clear h10 l1 l2 c1 c3
        go_wp2_with fail
        go_roundw
        case rel => exact ⟨j + 1, by omega, by go_num, hw10⟩
        case measure => simp [intOf]; omega
    · go_wp2_with fail
      go_ret
      exact ⟨rfl, hw.out⟩
end Go.Proofs.Ytkbblekengdhaaa

set_option linter.unusedVariables false
set_option linter.unusedSimpArgs false
namespace Go.Proofs.Ytkbblekengdhaaa
open Go Go.RowKit

/-! rows of orders, copied -/
def IR (ex : Bool) (w : World) (b : Nat) (xs : List Int) : Prop := ∃ ys : List Int, ys.length = xs.length ∧ (ex = true → ys = xs) ∧ RowBlk (fun n : Int => Value.int .i64 n) 3 w b ys
theorem IR.lt {ex : Bool} {w : World} {b : Nat} {xs : List Int} (h : IR ex w b xs) : b < w.heap.size := by obtain ⟨ys, _, _, h⟩ := h; exact h.lt
theorem IR.keep {ex : Bool} {w w' : World} {b : Nat} {xs : List Int} (h : IR ex w b xs) (hk : w'.heap[b]? = w.heap[b]?) : IR ex w' b xs := by
  obtain ⟨ys, h1, h2, h3⟩ := h
  exact ⟨ys, h1, h2, h3.turn hk⟩
theorem IR.weak {ex : Bool} {w : World} {b : Nat} {xs : List Int} (h : IR ex w b xs) : IR false w b xs := by
  obtain ⟨ys, h1, h2, h3⟩ := h
  exact ⟨ys, h1, fun e => (by cases e), h3⟩
section
variable {ex : Bool} {lo hi bn j : Nat} {l : List Ordr} {f g : Nat → Nat} {w w' : World}
end
def ToO (x : Ordr) (w : World) (e : Ending) (w' : World) : Prop :=
  ∃ bi bk, e = .returned (.agg #[.slice (some ⟨bi, 0, none⟩) x.1.length x.1.length, .slice (some ⟨bk, 0, none⟩) x.2.length x.2.length]) ∧ w.heap.size ≤ bi ∧ bi < bk ∧ RowBlk (fun n : Int => Value.int .i64 n) 3 w' bi x.1 ∧ RowBlk (fun n : Int => Value.int .i64 n) 3 w' bk x.2 ∧ Below w.heap.size w w'

end Go.Proofs.Ytkbblekengdhaaa

set_option linter.unusedVariables false
set_option linter.unusedSimpArgs false
namespace Go.Proofs.Ytkbblekengdhaaa
open Go Go.RowKit

def updN (f : Nat → Nat) (j v : Nat) : Nat → Nat := fun i => if i = j then v else f i
section
variable {lo hi bn j : Nat} {l : List Ordr} {f g : Nat → Nat} {w : World}
end
/-- a row that is owned, as long as its block -/
theorem own_blk {w : World} {base b : Nat} {ys : List Int} (h : w.ownsRow base 3 1 (.slice (some ⟨b, 0, none⟩) ys.length ys.length) ys.length (ints ys)) : RowBlk (fun n : Int => Value.int .i64 n) 3 w b ys := by
  obtain ⟨h1, ⟨h2, _⟩ | ⟨g, cap, cur, h2, h3, h4, h5, h6, h7, h8⟩⟩ := h
  · cases h2
  · simp only [Value.slice.injEq, Option.some.injEq, Addr.mk.injEq, and_true, true_and] at h2
    obtain ⟨rfl, rfl⟩ := h2
    unfold RowBlk
    rw [h4]
    congr 2
    apply Array.ext'
    rw [Nat.mul_one] at h7 h8
    rw [← h7, ← Array.length_toList, List.take_length] at h8
    simpa [ints] using h8
theorem IR.mark {ex : Bool} {w : World} {b : Nat} {xs : List Int} (h : IR ex w b xs) (hl : xs.length ≤ 1048576) (k : Int) (h0 : 0 ≤ k) (hk : k + xs.length ≤ 1000000000000) :
    Calls Try.prog 32 #[.slice (some ⟨b, 0, none⟩) xs.length xs.length, .int .i64 k] w fun e w' => e = .returned (.int .i64 (k + xs.length)) ∧ IR false w' b xs ∧ Turn (· = b) (· = b) w w' := by
  obtain ⟨ys, h1, -, h2⟩ := h
  have := markIntS_calls b (.slice (some ⟨b, 0, none⟩) ys.length ys.length) ys k w (h2.owns (Nat.le_refl _) (by unfold maxLen; omega)) h0 (by omega)
  rw [h1] at this
  refine this.mono fun e w' h => ⟨h.1, ⟨marksI k xs.length, by rw [marksI_length], fun e => (by cases e), own_blk (base := b) (by rw [marksI_length]; exact h.2.1)⟩, ?_⟩
  have ht := h.2.2
  exact ⟨ht.os, ht.tape, ht.output, ht.size, fun i hi hF => ht.block i hi (fun e => hF (by cases e; rfl)), fun i hi => .inl hi⟩

end Go.Proofs.Ytkbblekengdhaaa

set_option linter.unusedVariables false
set_option linter.unusedSimpArgs false
namespace Go.Proofs.Ytkbblekengdhaaa
open Go Go.RowKit

/-! rows of rows of numbers as arguments of an exact law: their size, and their copy -/
def rowsL (l : List (List Int)) : Int := l.length + sumL l
theorem rowsL_pos (l : List (List Int)) : 0 ≤ rowsL l := by have := sumL_pos l; unfold rowsL; omega
theorem rowsL_len (l : List (List Int)) : (l.length : Int) ≤ rowsL l := by have := sumL_pos l; unfold rowsL; omega
theorem sumL_mem : ∀ (l : List (List Int)) (x : List Int), x ∈ l → (x.length : Int) ≤ sumL l
  | [], x, h => by cases h
  | y :: l, x, h => by
    have := sumL_pos l
    rcases List.mem_cons.1 h with rfl | h
    · simp only [sumL]; omega
    · have := sumL_mem l x h; simp only [sumL]; omega
theorem rowsL_mem (l : List (List Int)) (x : List Int) (h : x ∈ l) : (x.length : Int) ≤ rowsL l := by have := sumL_mem l x h; unfold rowsL; omega
theorem RowsAt.cap {B : Nat} {w : World} {A : Option Addr} {ll : List (List Int)} (h : RowsAt B w A ll) : ∀ x ∈ ll, x.length ≤ maxLen := fun x hx => by
  obtain ⟨i, hi, rfl⟩ := List.getElem_of_mem hx
  obtain ⟨b, o, Ar, cr, -, -, -, h1, h2, -⟩ := h i hi
  omega
set_option maxHeartbeats 1000000 in
theorem szIntSS_calls (A : Option Addr) (c : Nat) (l : List (List Int)) (lf : Int) (B : Nat) (w0 w : World) (hb : Below B w0 w) (hB : B ≤ w.heap.size) (hl : l.length ≤ maxLen) (hx : RowsAt B w0 A l) (h0 : 0 ≤ lf) (hlf : lf ≤ 1048576) :
    Calls Try.prog 23 #[.slice A l.length c, .int .i64 lf] w (Sized lf (rowsL l) w) := by
  unfold maxLen at hl
  have hcap := hx.cap
  replace hb := Lib.hid hb
  replace hx := Lib.hid hx
  replace hcap := Lib.hid hcap
  by_cases h : lf - l.length < 0
  · go_enter Try.func23, Try.ntmps23
    go_wp2_with fail
    go_ret
    exact ⟨_, rfl, .inl rfl, Below.refl _ _⟩
  · go_enter Try.func23, Try.ntmps23
    go_wp2_with fail
    go_loopw [1, 5] (fun x i wr => ∃ (j : Nat) (r : Int), j ≤ l.length ∧ i = .int .i64 j ∧ x = .int .i64 r ∧ 0 ≤ r ∧ r ≤ 1048576 ∧ Hid (r + l.length + sumL (l.take j) = lf) ∧ Hid (Below w.heap.size w wr)) (fun _ i _ => l.length - (intOf i).toNat)
    case atStart => exact ⟨0, lf - l.length, Nat.zero_le _, rfl, rfl, by omega, by omega, Lib.hid (by simp [sumL]), Lib.hid (Below.refl _ _)⟩
    case round =>
      obtain ⟨j, r, hj, rfl, rfl, hr0, hr1, he, hw⟩ := hrel
      by_cases hlt : j < l.length
      · obtain ⟨b, o, Ar, cr, rfl, hbl, h1, hi1⟩ := hx.out.at (below_up' hb.out hB hw.out) (Nat.le_trans hB hw.out.size) j hlt
        have hcall := szIntS_calls Ar l[j].length cr r wr (hcap.out _ (List.getElem_mem _)) hr0 hr1
        have htk := sumL_succ hlt
        replace hcall := Lib.hid hcall
        replace htk := Lib.hid htk
        replace hi1 := Lib.hid hi1
        go_wp2_with fail
        refine hcall.out.mono ?_
        rintro e w2 ⟨r2, rfl, hz, h2⟩
        have hw2 := below_up hw.out h2
        replace hw2 := Lib.hid hw2
        clear h2 hcall
        rcases hz with rfl | ⟨hz0, hz1⟩
        · go_wp2_with fail
          go_ret
          exact ⟨_, rfl, .inl rfl, hw2.out⟩
        · have hle : r2 ≤ r := by omega
          have he2 : r2 + l.length + sumL (l.take (j + 1)) = lf := by have := he.out; have := htk.out; omega
          have hn : ¬ r2 < 0 := by omega
          replace hz1 := Lib.hid hz1
          replace he2 := Lib.hid he2
          go_wp2_with fail
          go_roundw
          case rel => exact ⟨j + 1, r2, by omega, by go_num, rfl, hz0, by omega, he2, hw2⟩
          case measure => simp [intOf]; omega
      · have e : j = l.length := by omega
        subst e
        have he2 := he.out
        rw [List.take_length] at he2
        replace he2 := Lib.hid he2
        go_wp2_with fail
        go_ret
        exact ⟨_, rfl, .inr ⟨hr0, by have := he2.out; unfold rowsL; omega⟩, hw.out⟩

structure RowT (hi bn : Nat) (l : List (List Int)) (j : Nat) (f : Nat → Nat) (w : World) : Prop where
  hhi : bn < hi
  blk : ∃ cur, w.heap[bn]? = some (.cells cur 28 (0, 0)) ∧ cur.size = l.length ∧ ∀ i (h : i < l.length), i < j → cur[i]? = some (.slice (some ⟨f i, 0, none⟩) l[i].length l[i].length)
  rows : ∀ i (h : i < l.length), i < j → RowBlk (fun n : Int => Value.int .i64 n) 3 w (f i) l[i]
  ord : ∀ i, i < l.length → i < j → bn < f i ∧ f i < hi
  apart : ∀ i i', i < i' → i' < j → i' < l.length → f i < f i'
section
variable {hi bn j : Nat} {l : List (List Int)} {f : Nat → Nat} {w w' : World}
theorem RowT.kept {hi' : Nat} (h : RowT hi bn l j f w) (hk : ∀ b, bn ≤ b → b < hi → w'.heap[b]? = w.heap[b]?) (hh : hi ≤ hi') : RowT hi' bn l j f w' := by
  obtain ⟨cur, h1, h2, h3⟩ := h.blk
  have a2 := h.hhi
  refine ⟨by omega, ⟨cur, (hk bn (Nat.le_refl _) a2).trans h1, h2, h3⟩, fun i hi hj => ?_, fun i hi hj => ?_, h.apart⟩
  · have := h.ord i hi hj
    exact (h.rows i hi hj).turn (hk _ (by omega) (by omega))
  · have := h.ord i hi hj
    omega
theorem RowT.cells (h : RowT hi bn l j f w) {i : Nat} (hi : i < l.length) : (∃ x, w.cell? ⟨bn, i, none⟩ = some x) ∧ ∀ q, w.frozen? ⟨bn, q, none⟩ = false := by
  obtain ⟨cur, h1, h2, h3⟩ := h.blk
  exact ⟨⟨_, (cellm h1 _).trans (Array.getElem?_eq_getElem (by omega))⟩, fun q => frozenm h1 q⟩
theorem RowT.put {hi' bi : Nat} (h : RowT hi bn l j f w) (hj : j < l.length) (h1 : hi ≤ bi) (h3 : bi < hi') (r1 : RowBlk (fun n : Int => Value.int .i64 n) 3 w bi l[j]) :
    RowT hi' bn l (j + 1) (updN f j bi) (w.setCell ⟨bn, j, none⟩ (.slice (some ⟨bi, 0, none⟩) l[j].length l[j].length)) := by
  obtain ⟨cur, g1, g2, g3⟩ := h.blk
  have a2 := h.hhi
  have e1 := setCell_block g1 j (.slice (some ⟨bi, 0, none⟩) l[j].length l[j].length)
  have hfar : ∀ b, b ≠ bn → (w.setCell ⟨bn, j, none⟩ (.slice (some ⟨bi, 0, none⟩) l[j].length l[j].length)).heap[b]? = w.heap[b]? := fun b hb => setCell_far hb
  refine ⟨by omega, ⟨_, e1, by simpa using g2, fun i hil hij => ?_⟩, fun i hil hij => ?_, fun i hil hij => ?_, fun i i' h4 h5 h6 => ?_⟩
  · by_cases e : i = j
    · subst e
      simp [updN, Array.getElem?_setIfInBounds, show i < cur.size by omega]
    · have c1 := g3 i hil (by omega)
      simpa [updN, e, Array.getElem?_setIfInBounds, show ¬ j = i by omega] using c1
  · by_cases e : i = j
    · subst e
      simp only [updN, if_true]
      exact r1.turn (hfar _ (by omega))
    · have q1 := h.rows i hil (by omega)
      have ho := h.ord i hil (by omega)
      simp only [updN, if_neg e]
      exact q1.turn (hfar _ (by omega))
  · by_cases e : i = j
    · subst e
      simp only [updN, if_true]
      omega
    · have ho := h.ord i hil (by omega)
      simp only [updN, if_neg e]
      omega
  · by_cases e : i' = j
    · subst e
      have ho := h.ord i (by omega) h4
      simp only [updN, if_true, if_neg (show ¬ i = i' by omega)]
      omega
    · have := h.apart i i' h4 (by omega) h6
      simp only [updN, if_neg e, if_neg (show ¬ i = j by omega)]
      exact this
theorem RowT.own (h : RowT hi bn l l.length f w) (hl : l.length ≤ maxLen) (hs : ∀ x ∈ l, x.length ≤ maxLen) : ∃ vs, OwnRR bn hi w (.slice (some ⟨bn, 0, none⟩) l.length l.length) vs l := by
  obtain ⟨cur, h1, h2, h3⟩ := h.blk
  have hcl : cur.toList.length = l.length := by simpa using h2
  have hget : ∀ i (hi : i < cur.toList.length) (hl : i < l.length), cur.toList[i] = .slice (some ⟨f i, 0, none⟩) l[i].length l[i].length := fun i hi hil => by
    have := h3 i hil hil
    rw [← Array.getElem?_toList, List.getElem?_eq_getElem hi] at this
    exact Option.some.inj this
  have hob : ∀ i (hi : i < cur.toList.length) (g : Nat), cur.toList[i].ownBlock = some g → g = f i := fun i hi g hg => by
    rw [hget i hi (by omega)] at hg
    exact (Option.some.inj (show some (f i) = some g from hg)).symm
  refine ⟨cur.toList, ⟨by omega, .inr ⟨bn, l.length, cur, rfl, Nat.le_refl _, h1, Nat.le_refl _, hl, by omega, by simp [List.take_of_length_le, hcl]⟩⟩, fun i hi hil => ?_, fun i i' hi hi' g hg hg' => ?_, fun u hu g hg e => ?_, fun u hu g hg => ?_, fun g hg => ?_⟩
  · rw [hget i hi hil]
    exact (h.rows i hil hil).owns (by have := h.ord i hil hil; omega) (hs _ (List.getElem_mem _))
  · have a := hob i hi g hg
    have b := hob i' hi' g hg'
    rcases Nat.lt_trichotomy i i' with e | e | e
    · have := h.apart i i' e (by omega) (by omega); omega
    · exact e
    · have := h.apart i' i e (by omega) (by omega); omega
  · obtain ⟨i, hi, rfl⟩ := List.getElem_of_mem hu
    have a := hob i hi g hg
    have b := h.ord i (by omega) (by omega)
    have e2 := Option.some.inj (show some bn = some g from e)
    omega
  · obtain ⟨i, hi, rfl⟩ := List.getElem_of_mem hu
    have a := hob i hi g hg
    have b := h.ord i (by omega) (by omega)
    omega
  · have e2 := Option.some.inj (show some bn = some g from hg)
    have := h.hhi
    omega
end
theorem make_rows (n : Nat) (hn : n ≤ 1048576) : ∀ W : World, (Instr.makeSlice 27 (.int .i64 (n : Int)) (.int .i64 (n : Int))).run Try.prog W = .ok (.slice (some ⟨W.heap.size, 0, none⟩) n n) (W.alloc (.cells (madeCells #[.slice none 0 0] n) 28)) :=
  fun W => run_make_row' 27 28 (.slice none 0 0) 24 Try.underlying27 (by kernel_rfl) rfl .i64 .i64 n (by omega) (by omega) W

set_option maxHeartbeats 4000000 in
theorem toIntSS_calls (A : Option Addr) (c : Nat) (l : List (List Int)) (B : Nat) (w0 w : World) (hb : Below B w0 w) (hB : B ≤ w.heap.size) (hl : l.length ≤ 1048576) (hs : ∀ x ∈ l, x.length ≤ 1048576) (hx : RowsAt B w0 A l) :
    Calls Try.prog 25 #[.slice A l.length c] w fun e w' => e = .returned (.slice (some ⟨w.heap.size, 0, none⟩) l.length l.length) ∧ (∃ vs, OwnRR w.heap.size w'.heap.size w' (.slice (some ⟨w.heap.size, 0, none⟩) l.length l.length) vs l) ∧ w.heap.size < w'.heap.size ∧ Below w.heap.size w w' := by
  have hmk := make_rows l.length (by omega)
  replace hb := Lib.hid hb
  replace hx := Lib.hid hx
  replace hs := Lib.hid hs
  go_enter Try.func25, Try.ntmps25
  go_wp2_with fail
  go_loopw [4] (fun i wr => ∃ (j : Nat) (f : Nat → Nat), j ≤ l.length ∧ i = .int .i64 j ∧ Hid (RowT wr.heap.size w.heap.size l j f wr) ∧ Hid (Below w.heap.size w wr)) (fun i _ => l.length - (intOf i).toNat)
  case atStart => exact ⟨0, id, Nat.zero_le _, rfl, Lib.hid ⟨by simp, ⟨_, heap_new rfl, by simp [madeCells], fun i hi h => by omega⟩, fun i hi h => by omega, fun i hi h => by omega, fun i i' h1 h2 => by omega⟩, Lib.hid (below_al (Below.refl _ _) _)⟩
  case round =>
    obtain ⟨j, f, hj, rfl, hL, hw⟩ := hrel
    obtain ⟨w9, hw9⟩ : ∃ w9, w9 = wr := ⟨_, rfl⟩
    subst hw9
    by_cases hlt : j < l.length
    · obtain ⟨b, o, Ar, cr, rfl, hbl, h1, hi1⟩ := hx.out.at (below_up' hb.out hB hw.out) (Nat.le_trans hB hw.out.size) j hlt
      have hsj := hs.out _ (List.getElem_mem hlt)
      have hcall := fun w1 (h : Below w9.heap.size w9 w1) => toIntS_calls Ar cr l[j] w9.heap.size w9 w1 h h.size hsj hi1
      have hsz : w.heap.size < w9.heap.size := hL.out.hhi
      replace hcall := Lib.hid hcall
      replace hi1 := Lib.hid hi1
      replace hsj := Lib.hid hsj
      have hc0 := hcall.out w9 (Below.refl _ _)
      replace hc0 := Lib.hid hc0
      clear hcall
      go_wp2_with fail
      refine hc0.out.mono ?_
      rintro e w2 ⟨rfl, r1, g5⟩
      have hL2 := hL.out.kept (w' := w2) (hi' := w9.heap.size) (fun b _ q => g5.block b q) (Nat.le_refl _)
      have hw2 := below_up hw.out g5
      obtain ⟨⟨x0, y0⟩, ff⟩ := hL2.cells hlt
      have f0 := ff j
      have hL3 := hL2.put hlt (Nat.le_refl _) r1.lt r1
      have hz3 : (w2.setCell ⟨w.heap.size, j, none⟩ (.slice (some ⟨w9.heap.size, 0, none⟩) l[j].length l[j].length)).heap.size = w2.heap.size := by simp [World.setCell]
      rw [← hz3] at hL3
      have hw3 : Below w.heap.size w (w2.setCell ⟨w.heap.size, j, none⟩ (.slice (some ⟨w9.heap.size, 0, none⟩) l[j].length l[j].length)) := hw2.setCell (by simp) _
      replace hL3 := Lib.hid hL3
      replace hw3 := Lib.hid hw3
      replace hz3 := Lib.hid hz3
      clear r1 g5 hL2 hw2 hc0 ff hL hw
      go_wp2_with fail
      go_roundw
      case rel => exact ⟨j + 1, _, by omega, by go_num, hL3, hw3⟩
      case measure => simp [intOf]; omega
    · have e : j = l.length := by omega
      subst e
      have hfin := hL.out.own (by unfold maxLen; omega) (fun x hx => by have := hs.out x hx; unfold maxLen; omega)
      have hlt2 := hL.out.hhi
      replace hfin := Lib.hid hfin
      go_wp2_with fail
      go_ret
      exact ⟨rfl, hfin.out, hlt2, hw.out⟩
end Go.Proofs.Ytkbblekengdhaaa
