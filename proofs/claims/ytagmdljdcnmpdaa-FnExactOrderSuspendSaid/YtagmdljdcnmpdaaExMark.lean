import Derived.Test.YtagmdljdcnmpdaaExSh
import Derived.Deep.RegionHeld3
set_option linter.unusedVariables false
set_option linter.unusedSimpArgs false
namespace Go.Proofs.Ytagmdljdcnmpdaa
open Go Go.RowKit

/-! the same trees -/
def PTask : Task → Prop := fun p => ∀ (A A2 : Option Addr) (c c2 : Nat) (w : World), p.parts.length ≤ c → c ≤ maxLen → PartsIs w.heap.size w A 0 p.parts → PartsIs w.heap.size w A2 0 p.parts →
      Calls Try.prog 90 #[.agg #[.int .i64 p.kind, .int .i64 p.n, .slice A p.parts.length c], .agg #[.int .i64 p.kind, .int .i64 p.n, .slice A2 p.parts.length c2]] w fun e w' => e = .returned (.bool true) ∧ Below w.heap.size w w'
set_option maxHeartbeats 4000000 in
theorem eqTaskS_of (ps : List Task) (ih : ∀ p ∈ ps, PTask p) (A A2 : Option Addr) (c c2 : Nat) (w : World) (hc : ps.length ≤ c) (hm : c ≤ maxLen) (hp : PartsIs w.heap.size w A 0 ps) (hp2 : PartsIs w.heap.size w A2 0 ps) :
    Calls Try.prog 63 #[.slice A ps.length c, .slice A2 ps.length c2] w fun e w' => e = .returned (.bool true) ∧ Below w.heap.size w w' := by
  unfold maxLen at hm
  replace ih := Lib.hid ih
  replace hp := Lib.hid hp
  replace hp2 := Lib.hid hp2
  go_enter Try.func63, Try.ntmps63
  go_wp2_with fail
  go_loopw [5] (fun i wr => ∃ (j : Nat), j ≤ ps.length ∧ i = .int .i64 j ∧ Hid (Below w.heap.size w wr)) (fun i _ => ps.length - (intOf i).toNat)
  case atStart => exact ⟨0, Nat.zero_le _, rfl, Lib.hid (Below.refl _ _)⟩
  case round =>
    obtain ⟨j, hj, rfl, hw⟩ := hrel
    by_cases hlt : j < ps.length
    · obtain ⟨b, o, A', c', rfl, hb', h1, h2, h3, h4, h5, h6⟩ := hp.out.at hw.out j hlt
      obtain ⟨b2, o2, A2', c2', rfl, hb2', g1, g2, g3, g4, g5, g6⟩ := hp2.out.at hw.out j hlt
      have hbl : b < wr.heap.size := by have := hw.out.size; omega
      have hbl2 : b2 < wr.heap.size := by have := hw.out.size; omega
      have hcall := ih.out ps[j] (List.getElem_mem hlt) A' A2' c' c2' wr.drew h4 h5 (PartsIs.up hw.out.drew hw.out.size _ _ _ h6) (PartsIs.up hw.out.drew hw.out.size _ _ _ g6)
      replace hcall := Lib.hid hcall
      clear h4 h5 h6 g4 g5 g6
      go_wp2_with fail
      go_region_held3 (fun w' => w'.cell? ⟨b, o + j * 3, none⟩ = some (.int .i64 ps[j].kind) ∧ w'.cell? ⟨b, o + j * 3 + 1, none⟩ = some (.int .i64 ps[j].n) ∧ w'.cell? ⟨b, o + j * 3 + 2, none⟩ = some (.slice A' ps[j].parts.length c') ∧ w'.cell? ⟨b2, o2 + j * 3, none⟩ = some (.int .i64 ps[j].kind) ∧ w'.cell? ⟨b2, o2 + j * 3 + 1, none⟩ = some (.int .i64 ps[j].n) ∧ w'.cell? ⟨b2, o2 + j * 3 + 2, none⟩ = some (.slice A2' ps[j].parts.length c2'))
        (first | exact ⟨k1, k2, k3, k4, k5, k6⟩ | exact ⟨h1, h2, h3, g1, g2, g3⟩)
        (first | (go_at_call 90; refine hcall.out.mono ?_; rintro e w2 ⟨rfl, q2⟩; have k1 := kept_cell q2 hbl h1; have k2 := kept_cell q2 hbl h2; have k3 := kept_cell q2 hbl h3; have k4 := kept_cell q2 hbl2 g1; have k5 := kept_cell q2 hbl2 g2; have k6 := kept_cell q2 hbl2 g3; have hw2 := below_up hw.out.drew q2; replace hw2 := Lib.hid hw2; clear q2))
      all_goals
        go_wp2_with fail
        go_roundw
        case rel => exact ⟨j + 1, by omega, by go_num, hw2⟩
        case measure => simp [intOf]; omega
    · go_wp2_with fail
      go_ret
      exact ⟨rfl, hw.out⟩
theorem eqTask_same : ∀ (p : Task), PTask p := by
  refine Task.ind ?_
  intro k n ps ih A A2 c c2 w hc hm hp hp2
  simp only [Task.kind, Task.n, Task.parts] at hc hp hp2 ⊢
  have hS := fun w1 (hw : Below w.heap.size w w1) => eqTaskS_of ps ih A A2 c c2 w1 hc hm (PartsIs.up hw hw.size _ _ _ hp) (PartsIs.up hw hw.size _ _ _ hp2)
  replace hS := Lib.hid hS
  clear ih hp hp2
  have hkk : (k != k) = false := by simp
  have hnn : (n != n) = false := by simp
  go_enter Try.func90, Try.ntmps90
  go_wp2_with fail
  refine (hS.out _ (below_al (below_al (Below.refl _ _) _) _)).mono ?_
  rintro e w1 ⟨rfl, h1⟩
  go_wp2_with fail
  go_ret
  exact ⟨rfl, below_from (below_from h1)⟩
theorem eqTaskS_same (ps : List Task) (A A2 : Option Addr) (c c2 : Nat) (w : World) (hc : ps.length ≤ c) (hm : c ≤ maxLen) (hp : PartsIs w.heap.size w A 0 ps) (hp2 : PartsIs w.heap.size w A2 0 ps) :
    Calls Try.prog 63 #[.slice A ps.length c, .slice A2 ps.length c2] w fun e w' => e = .returned (.bool true) ∧ Below w.heap.size w w' :=
  eqTaskS_of ps (fun p _ => eqTask_same p) A A2 c c2 w hc hm hp hp2
theorem eqSheet_same (Am At Am2 At2 : Option Addr) (cm ct cm2 ct2 : Nat) (made : List Bool) (tasks : List Task) (w : World) (hs : SheetAt w.heap.size w Am cm At ct made tasks) (hs2 : SheetAt w.heap.size w Am2 cm2 At2 ct2 made tasks) :
    Calls Try.prog 30 #[.agg #[.slice Am made.length cm, .slice At tasks.length ct], .agg #[.slice Am2 made.length cm2, .slice At2 tasks.length ct2]] w fun e w' => e = .returned (.bool true) ∧ Below w.heap.size w w' := by
  have h1 := fun w1 (hw : Below w.heap.size w w1) => eqBoolS_same Am Am2 cm cm2 made w1 (Nat.le_trans hs.lm hs.mm) (hs.made.up hw hw.size) (hs2.made.up hw hw.size)
  have h2 := fun w1 (hw : Below w.heap.size w w1) => eqTaskS_same tasks At At2 ct ct2 w1 hs.lt hs.mt (PartsIs.up hw hw.size _ _ _ hs.tasks) (PartsIs.up hw hw.size _ _ _ hs2.tasks)
  replace h1 := Lib.hid h1
  replace h2 := Lib.hid h2
  clear hs hs2
  go_enter Try.func30, Try.ntmps30
  go_wp2_with fail
  refine (h1.out _ (below_al (below_al (Below.refl _ _) _) _)).mono ?_
  rintro e w1 ⟨rfl, g1⟩
  have x1 : w1.cell? ⟨w.heap.size, 1, none⟩ = some (.slice At tasks.length ct) := (g1.cell (p := ⟨w.heap.size, 1, none⟩) (by simp; omega)).trans (by simp)
  have x2 : w1.cell? ⟨w.heap.size + 1, 1, none⟩ = some (.slice At2 tasks.length ct2) := (g1.cell (p := ⟨w.heap.size + 1, 1, none⟩) (by simp)).trans (by simp)
  have b1 := below_from (below_from g1)
  replace b1 := Lib.hid b1
  clear g1
  go_wp2_with fail
  refine (h2.out _ b1.out).mono ?_
  rintro e w2 ⟨rfl, g2⟩
  go_wp2_with fail
  go_ret
  exact ⟨rfl, below_up b1.out g2⟩

/-! marks -/
def marksI (k : Int) (n : Nat) : List Int := (List.range n).map fun i : Nat => k + i
theorem marksI_length (k : Int) (n : Nat) : (marksI k n).length = n := by simp [marksI]
theorem marksI_get {k : Int} {n i : Nat} (h : i < (marksI k n).length) : (marksI k n)[i] = k + i := by simp [marksI]
theorem marksI_succ (k : Int) (n : Nat) : marksI k (n + 1) = marksI k n ++ [k + n] := by simp [marksI, List.range_succ]
set_option maxHeartbeats 2000000 in
theorem markIntS_calls (base : Nat) (v : Value) (xs : List Int) (k : Int) (w : World) (ho : w.ownsRow base 3 1 v xs.length (ints xs)) (h0 : 0 ≤ k) (hk : k + xs.length ≤ 1000000000000) :
    Calls Try.prog 32 #[v, .int .i64 k] w fun e w' => e = .returned (.int .i64 (k + xs.length)) ∧ w'.ownsRow base 3 1 v xs.length (ints (marksI k xs.length)) ∧ Turn (fun i => v.ownBlock = some i) (fun i => v.ownBlock = some i) w w' := by
  obtain ⟨A, c, rfl, hl1, hl2, hl3⟩ := ownsRow_ints ho
  unfold maxLen at hl2
  replace ho := Lib.hid ho
  replace hl3 := Lib.hid hl3
  go_enter Try.func32, Try.ntmps32
  go_wp2_with fail
  go_loopw [1, 5] (fun x i wr => ∃ (j : Nat), j ≤ xs.length ∧ i = .int .i64 j ∧ x = .int .i64 (k + j) ∧ Hid (wr.ownsRow base 3 1 (.slice A xs.length c) xs.length (ints (marksI k j ++ xs.drop j))) ∧ Hid (Turn (fun i => (Value.slice A xs.length c).ownBlock = some i) (fun i => (Value.slice A xs.length c).ownBlock = some i) w wr)) (fun _ i _ => xs.length - (intOf i).toNat)
  case atStart => exact ⟨0, Nat.zero_le _, rfl, by simp, ho, Lib.hid (Turn.refl _ _)⟩
  case round =>
    obtain ⟨j, hj, rfl, rfl, ho, hT⟩ := hrel
    by_cases hlt : j < xs.length
    · obtain ⟨g, cap, hv, hg, -⟩ := ho.out.form (by omega)
      obtain ⟨rfl, -, rfl⟩ : A = some ⟨g, 0, none⟩ ∧ True ∧ c = cap := by cases hv; exact ⟨rfl, trivial, rfl⟩
      have c0 : wr.cell? ⟨g, j, none⟩ = some (.int .i64 xs[j]) := by
        have := ho.out.cells (g := g) rfl j (.int .i64 xs[j]) (by
          simp only [ints, List.map_append]
          rw [List.getElem?_append_right (by simp [marksI])]
          simp [marksI, hlt])
        rwa [Addr.add_lit, Nat.zero_add] at this
      have f0 : wr.frozen? ⟨g, j, none⟩ = false := by
        obtain ⟨_, ⟨h2, _⟩ | ⟨g', cap', cur, h2, h3, h4, _⟩⟩ := ho.out
        · cases h2
        · cases h2; exact frozenm h4 j
      have hset := ownsRow_set ho.out j (.int .i64 (k + j)) hlt
      have e : (ints (marksI k j ++ xs.drop j)).set j (.int .i64 (k + j)) = ints (marksI k (j + 1) ++ xs.drop (j + 1)) := by
        simp only [ints, List.map_append]
        rw [List.set_append_right _ _ (by simp [marksI]), List.drop_eq_getElem_cons hlt, marksI_succ, List.length_map, marksI_length, Nat.sub_self, List.map_cons, List.set_cons_zero, List.map_append, List.append_assoc]; rfl
      rw [e] at hset
      have hT2 := hT.out.trans (setCell_turn (F := fun i => (Value.slice (some ⟨g, 0, none⟩) xs.length c).ownBlock = some i) (w := wr) (a := ⟨g, j, none⟩) rfl (.int .i64 (k + j)))
      replace hset := Lib.hid hset
      replace hT2 := Lib.hid hT2
      replace e := Lib.hid e
      clear ho hT
      go_wp2_with fail
      go_roundw
      case rel => exact ⟨j + 1, by omega, by go_num, by go_num, hset, hT2⟩
      case measure => simp [intOf]; omega
    · have e : j = xs.length := by omega
      subst e
      have ho2 := ho.out
      rw [List.drop_length, List.append_nil] at ho2
      replace ho2 := Lib.hid ho2
      go_wp2_with fail
      go_ret
      exact ⟨rfl, ho2.out, hT.out⟩
set_option maxHeartbeats 2000000 in
theorem heldIntS_calls (A : Option Addr) (c n : Nat) (k : Int) (w : World) (hn : n ≤ 1000000000) (h0 : 0 ≤ k) (hk : k + n ≤ 1000000000000) (hx : IntsAt w.heap.size w A (marksI k n)) :
    Calls Try.prog 33 #[.slice A n c, .int .i64 k] w fun e w' => e = .returned (.int .i64 (k + n)) ∧ Below w.heap.size w w' := by
  replace hx := Lib.hid hx
  go_enter Try.func33, Try.ntmps33
  go_wp2_with fail
  go_loopw [1, 5] (fun x i wr => ∃ (j : Nat), j ≤ n ∧ i = .int .i64 j ∧ x = .int .i64 (k + j) ∧ wr = w) (fun _ i _ => n - (intOf i).toNat)
  case atStart => exact ⟨0, Nat.zero_le _, rfl, by simp, rfl⟩
  case round =>
    obtain ⟨j, hj, rfl, rfl, rfl⟩ := hrel
    by_cases hlt : j < n
    · obtain ⟨b, o, e, hb, y⟩ := hx.out j (by rw [marksI_length]; exact hlt)
      rw [marksI_get] at y
      subst e
      have hne : (k + (j : Int) != k + (j : Int)) = false := by simp
      go_wp2_with fail
      go_roundw
      case rel => exact ⟨j + 1, by omega, by go_num, by go_num, by first | rfl | trivial⟩
      case measure => simp [intOf]; omega
    · have e : j = n := by omega
      subst e
      go_wp2_with fail
      go_ret
      exact ⟨rfl, Below.refl _ _⟩
set_option maxHeartbeats 2000000 in
theorem markBoolS_calls (b : Nat) (xs : List Bool) (k : Int) (w : World) (hR : RowBlk (fun b : Bool => Value.bool b) 4 w b xs) (hl : xs.length ≤ 1048576) (h0 : 0 ≤ k) (hk : k + xs.length ≤ 1000000000000) :
    Calls Try.prog 64 #[.slice (some ⟨b, 0, none⟩) xs.length xs.length, .int .i64 k] w fun e w' => e = .returned (.int .i64 (k + xs.length)) ∧ Turn (· = b) (· = b) w w' := by
  replace hR := Lib.hid hR
  go_enter Try.func64, Try.ntmps64
  go_wp2_with fail
  go_loopw [1, 5] (fun x i wr => ∃ (j : Nat) (ys : List Bool), j ≤ xs.length ∧ ys.length = xs.length ∧ i = .int .i64 j ∧ x = .int .i64 (k + j) ∧ Hid (RowBlk (fun b : Bool => Value.bool b) 4 wr b ys) ∧ Hid (Turn (· = b) (· = b) w wr)) (fun _ i _ => xs.length - (intOf i).toNat)
  case atStart => exact ⟨0, xs, Nat.zero_le _, rfl, rfl, by simp, hR, Lib.hid (Turn.refl _ _)⟩
  case round =>
    obtain ⟨j, ys, hj, hyl, rfl, rfl, hR, hT⟩ := hrel
    replace hyl := Lib.hid hyl
    by_cases hlt : j < xs.length
    · have c0 := hR.out.cell (i := j) (by rw [hyl.out]; exact hlt)
      have f0 := hR.out.frozen j
      obtain ⟨d, hd⟩ : ∃ d, ((k + (j : Int)) % 3 == 0) = d := ⟨_, rfl⟩
      have hset := hR.out.set j d
      have hT2 := hT.out.trans (setCell_turn (F := (· = b)) (w := wr) (a := ⟨b, j, none⟩) rfl (.bool d))
      have hyl2 : (ys.set j d).length = xs.length := by rw [List.length_set]; exact hyl.out
      replace hset := Lib.hid hset
      replace hT2 := Lib.hid hT2
      replace hyl2 := Lib.hid hyl2
      clear hR hT
      go_wp2_with fail
      go_roundw
      case rel => exact ⟨j + 1, _, by omega, hyl2.out, by go_num, by go_num, hset, hT2⟩
      case measure => simp [intOf]; omega
    · have e : j = xs.length := by omega
      subst e
      go_wp2_with fail
      go_ret
      exact ⟨rfl, hT.out⟩

/-- marking a tree: numbers alone turn, in its region -/
def MarkT (lo hi : Nat) (k m : Int) (w : World) (e : Ending) (w' : World) : Prop :=
  e = .returned (.int .i64 (k + 2 * m)) ∧ (∀ A qs, TL false lo hi w A 0 qs → TL false lo hi w' A 0 qs) ∧ Turn (fun i => lo ≤ i ∧ i < hi) (fun i => lo ≤ i ∧ i < hi) w w'
set_option maxHeartbeats 4000000 in
theorem markTaskS_of (lo hi : Nat) (ps : List Task) (ih : ∀ p ∈ ps, ∀ (A : Option Addr) (c : Nat) (k : Int) (w : World), p.parts.length ≤ c → c ≤ maxLen → TL false lo hi w A 0 p.parts → 0 ≤ k → k + 2 * nodesL p.parts ≤ 1000000000000 →
      Calls Try.prog 65 #[.slice A p.parts.length c, .int .i64 k] w (MarkT lo hi k (nodesL p.parts) w))
    (A : Option Addr) (c : Nat) (k : Int) (w : World) (hc : ps.length ≤ c) (hm : c ≤ maxLen) (ht : TL false lo hi w A 0 ps) (h0 : 0 ≤ k) (hk : k + 2 * nodesL ps ≤ 1000000000000) :
    Calls Try.prog 65 #[.slice A ps.length c, .int .i64 k] w (MarkT lo hi k (nodesL ps) w) := by
  unfold maxLen at hm
  have hlen := parts_len ps
  replace ih := Lib.hid ih
  replace ht := Lib.hid ht
  go_enter Try.func65, Try.ntmps65
  go_wp2_with fail
  go_loopw [1, 5] (fun x i wr => ∃ (j : Nat) (q : Int), j ≤ ps.length ∧ i = .int .i64 j ∧ x = .int .i64 q ∧ 0 ≤ q ∧ Hid (q = k + 2 * nodesL (ps.take j)) ∧ Hid (TL false lo hi wr A 0 ps) ∧ Hid (∀ A qs, TL false lo hi w A 0 qs → TL false lo hi wr A 0 qs) ∧ Hid (Turn (fun i => lo ≤ i ∧ i < hi) (fun i => lo ≤ i ∧ i < hi) w wr)) (fun _ i _ => ps.length - (intOf i).toNat)
  case atStart => exact ⟨0, k, Nat.zero_le _, rfl, rfl, h0, Lib.hid (by simp [nodesL]), ht, Lib.hid (fun _ _ h => h), Lib.hid (Turn.refl _ _)⟩
  case round =>
    obtain ⟨j, q, hj, rfl, rfl, hq0, hq, ht, hall, hT⟩ := hrel
    by_cases hlt : j < ps.length
    · obtain ⟨b, o, cur, T, x, y, z, rfl, h1, h2, h3, g0, g1, g2, h4⟩ := ht.out.get j hlt
      rw [Nat.zero_add] at g0 g1 g2
      obtain ⟨kk, nn, A', c', rfl, rfl, rfl, -, h5, h6, h7⟩ := h4.open
      have htk : nodesL (ps.take (j + 1)) = nodesL (ps.take j) + (1 + nodesL ps[j].parts) := by rw [List.take_succ_eq_append_getElem hlt, nodesL_snoc, nodes_parts]
      have hle : nodesL (ps.take (j + 1)) ≤ nodesL ps := by
        have e : ps = ps.take (j + 1) ++ ps.drop (j + 1) := (List.take_append_drop _ _).symm
        have hs : ∀ (l m : List Task), nodesL l ≤ nodesL (l ++ m) := by
          intro l
          induction l with
          | nil => intro m; rw [nodesL]; exact nodesL_pos _
          | cons a l ihl => intro m; rw [List.cons_append, nodesL, nodesL]; have := ihl m; omega
        have := hs (ps.take (j + 1)) (ps.drop (j + 1))
        rwa [← e] at this
      have hqb : q + 2 + 2 * nodesL ps[j].parts ≤ 1000000000000 := by have := hq.out; omega
      have hnp := nodesL_pos ps[j].parts
      have ha := cellm h3 (o + j * 3)
      rw [g0] at ha
      have hb := cellm h3 (o + j * 3 + 1)
      rw [g1] at hb
      have hc2 := cellm h3 (o + j * 3 + 2)
      rw [g2] at hc2
      have f0 := frozenm h3 (o + j * 3)
      have f1 := frozenm h3 (o + j * 3 + 1)
      have e1 := setCell_block h3 (o + j * 3) (.int .i64 q)
      have g1' : (cur.setIfInBounds (o + j * 3) (.int .i64 q))[o + j * 3 + 1]? = some (.int .i64 nn) := by rw [Array.getElem?_setIfInBounds, if_neg (by omega)]; exact g1
      have hput : ∀ B' qs, TL false lo hi wr B' 0 qs → TL false lo hi ((wr.setCell ⟨b, o + j * 3, none⟩ (.int .i64 q)).setCell ⟨b, o + j * 3 + 1, none⟩ (.int .i64 (q + 1))) B' 0 qs := fun B' qs h => TL.put e1 g1' (q + 1) qs B' (TL.put h3 g0 q qs B' h)
      have hT2 := (hT.out.trans (setCell_turn (F := fun i => lo ≤ i ∧ i < hi) (w := wr) (a := ⟨b, o + j * 3, none⟩) ⟨h1, h2⟩ (.int .i64 q))).trans (setCell_turn (F := fun i => lo ≤ i ∧ i < hi) (a := ⟨b, o + j * 3 + 1, none⟩) ⟨h1, h2⟩ (.int .i64 (q + 1)))
      have hcall := ih.out ps[j] (List.getElem_mem hlt) A' c' (q + 1 + 1) ((wr.setCell ⟨b, o + j * 3, none⟩ (.int .i64 q)).setCell ⟨b, o + j * 3 + 1, none⟩ (.int .i64 (q + 1))) h5 h6 (hput _ _ h7) (by omega) (by omega)
      replace hput := Lib.hid hput
      replace hcall := Lib.hid hcall
      replace hT2 := Lib.hid hT2
      replace htk := Lib.hid htk
      replace hle := Lib.hid hle
      clear h3 g0 g1 g2 e1 g1' h4 h5 h6 h7
      go_wp2_with fail
      refine hcall.out.mono ?_
      rintro e w2 ⟨rfl, hall2, hT3⟩
      have hall3 : ∀ A qs, TL false lo hi w A 0 qs → TL false lo hi w2 A 0 qs := fun A' qs h => hall2 _ _ (hput.out _ _ (hall.out _ _ h))
      have ht2 := hall2 _ _ (hput.out _ _ ht.out)
      have hT4 := hT2.out.trans hT3
      have hq2 : q + 1 + 1 + 2 * nodesL ps[j].parts = k + 2 * nodesL (ps.take (j + 1)) := by have := hq.out; have := htk.out; omega
      replace hall3 := Lib.hid hall3
      replace ht2 := Lib.hid ht2
      replace hT4 := Lib.hid hT4
      replace hq2 := Lib.hid hq2
      clear hall2 hT3 hcall hput
      go_wp2_with fail
      go_roundw
      case rel => exact ⟨j + 1, _, by omega, by go_num, rfl, by omega, hq2, ht2, hall3, hT4⟩
      case measure => simp [intOf]; omega
    · have e : j = ps.length := by omega
      subst e
      have hq2 := hq.out
      rw [List.take_length] at hq2
      replace hq2 := Lib.hid hq2
      go_wp2_with fail
      go_ret
      exact ⟨by rw [hq2.out]; rfl, hall.out, hT.out⟩
theorem markTaskS_calls (lo hi : Nat) (ps : List Task) (A : Option Addr) (c : Nat) (k : Int) (w : World) (hc : ps.length ≤ c) (hm : c ≤ maxLen) (ht : TL false lo hi w A 0 ps) (h0 : 0 ≤ k) (hk : k + 2 * nodesL ps ≤ 1000000000000) :
    Calls Try.prog 65 #[.slice A ps.length c, .int .i64 k] w (MarkT lo hi k (nodesL ps) w) := by
  have h : ∀ (t : Task), ∀ (A : Option Addr) (c : Nat) (k : Int) (w : World), t.parts.length ≤ c → c ≤ maxLen → TL false lo hi w A 0 t.parts → 0 ≤ k → k + 2 * nodesL t.parts ≤ 1000000000000 →
      Calls Try.prog 65 #[.slice A t.parts.length c, .int .i64 k] w (MarkT lo hi k (nodesL t.parts) w) := by
    refine Task.ind ?_
    intro kk n ps ih A c k w hc hm ht h0 hk
    exact markTaskS_of lo hi ps ih A c k w hc hm ht h0 hk
  exact h (.mk 0 0 ps) A c k w hc hm ht h0 hk
theorem markSheet_calls (lo mid hi bm bt : Nat) (made : List Bool) (tasks : List Task) (k : Int) (w : World) (hs : SheetT lo mid hi bm bt made tasks w) (hhi : hi ≤ w.heap.size) (hml : made.length ≤ 1048576) (hn : nodesL tasks ≤ 1048576) (h0 : 0 ≤ k) (hk : k ≤ 1000000000) :
    Calls Try.prog 31 #[.agg #[.slice (some ⟨bm, 0, none⟩) made.length made.length, .slice (some ⟨bt, 0, none⟩) tasks.length tasks.length], .int .i64 k] w fun e w' => ∃ q : Int, e = .returned (.int .i64 q) ∧ k ≤ q ∧ q ≤ k + 10000000 ∧ Turn (fun i => lo ≤ i ∧ i < hi) (fun i => lo ≤ i ∧ i < hi) w w' := by
  have hlen := parts_len tasks
  have hnp := nodesL_pos tasks
  have hbm := hs.h2
  have hR := hs.row.turn (w' := w.alloc (.cells #[.slice (some ⟨bm, 0, none⟩) made.length made.length, .slice (some ⟨bt, 0, none⟩) tasks.length tasks.length] 26 (0, 0))) (heap_old hs.row.lt)
  have h1 := markBoolS_calls bm made k _ hR hml h0 (by omega)
  have h2 := fun w1 (ht : TL false mid hi w1 (some ⟨bt, 0, none⟩) 0 tasks) => markTaskS_calls mid hi tasks (some ⟨bt, 0, none⟩) tasks.length (k + made.length) w1 (Nat.le_refl _) (by unfold maxLen; omega) ht (by omega) (by omega)
  have hbl := hs.row.lt
  have h3 := hs.h3
  have hl1 := hs.h1
  have ht := hs.tree.weak
  replace h1 := Lib.hid h1
  replace h2 := Lib.hid h2
  replace ht := Lib.hid ht
  clear hs hR
  go_enter Try.func31, Try.ntmps31
  go_wp2_with fail
  refine h1.out.mono ?_
  rintro e w1 ⟨rfl, t1⟩
  have x1 : w1.cell? ⟨w.heap.size, 1, none⟩ = some (.slice (some ⟨bt, 0, none⟩) tasks.length tasks.length) := (t1.cell 1 (by simp) (by omega)).trans (by simp)
  have ht1 := h2.out w1 (TL.kept (fun b h4 h5 => (t1.block b (by simp; omega) (by omega)).trans (heap_old (by omega))) (Nat.le_refl _) (Nat.le_refl _) _ _ _ ht.out)
  have t2 : Turn (fun i => lo ≤ i ∧ i < hi) (fun i => lo ≤ i ∧ i < hi) w w1 := ⟨t1.os, t1.tape, t1.output, by have := t1.size; simp at this; omega, fun i h4 h5 => (t1.block i (by simp; omega) (by omega)).trans (heap_old h4), fun i h => .inl h⟩
  replace ht1 := Lib.hid ht1
  replace t2 := Lib.hid t2
  clear t1 h1 h2
  go_wp2_with fail
  refine ht1.out.mono ?_
  rintro e w2 ⟨rfl, -, t3⟩
  have t4 : Turn (fun i => lo ≤ i ∧ i < hi) (fun i => lo ≤ i ∧ i < hi) w w2 := ⟨t3.os.trans t2.out.os, t3.tape.trans t2.out.tape, t3.output.trans t2.out.output, Nat.le_trans t2.out.size t3.size, fun i h4 h5 => (t3.block i (Nat.lt_of_lt_of_le h4 t2.out.size) (by omega)).trans (t2.out.block i h4 h5), fun i h => .inl h⟩
  replace t4 := Lib.hid t4
  clear t3
  go_wp2_with fail
  go_ret
  exact ⟨_, rfl, by omega, by omega, t4.out⟩
end Go.Proofs.Ytagmdljdcnmpdaa
