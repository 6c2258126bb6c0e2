import Derived.Deep.RegionHeld3
import Derived.Deep.QuietTactic
import Derived.BigQuiet
import Derived.OpenShut
import Derived.Test.YtpccgdkidnkppaaPk1FnOrderRestart
import Derived.Test.YtpccgdkidnkppaaPk6FnOrderRestart
import Derived.Test.YtpccgdkidnkppaaPk12FnOrderRestart
import Derived.Test.YtpccgdkidnkppaaPk14FnOrderRestart
import Derived.Test.YtpccgdkidnkppaaPk18FnOrderRestart
import Derived.Test.YtpccgdkidnkppaaPk19FnOrderRestart
set_option linter.unusedVariables false
set_option linter.unusedSimpArgs false
namespace Go.Proofs.Ytpccgdkidnkppaa
open Go Go.RowKit

theorem count_len {c : Nat} : ∀ (n : Nat) (l : List Int), (∀ x ∈ l, 0 ≤ x ∧ x < n) → (∀ j, l.count j ≤ c) → l.length ≤ n * c := by
  intro n
  induction n with
  | zero =>
    intro l h _
    cases l with
    | nil => simp
    | cons a l => have := h a (by simp); omega
  | succ n ih =>
    intro l h hc
    have h1 := ih (l.filter fun x => decide (x ≠ (n : Int))) (fun x hx => by
      obtain ⟨a, b⟩ := List.mem_filter.1 hx
      have := h x a
      simp at b
      omega) (fun j => Nat.le_trans (List.Sublist.count_le j List.filter_sublist) (hc j))
    have h2 : l.length = l.count (n : Int) + (l.filter fun x => decide (x ≠ (n : Int))).length := by
      clear h1 h hc ih
      induction l with
      | nil => rfl
      | cons a l ih =>
        simp only [List.length_cons, List.count_cons, List.filter_cons, ih]
        by_cases e : a = (n : Int)
        · simp [e]; omega
        · simp [e]; omega
    have := hc (n : Int)
    rw [Nat.add_mul]
    omega
theorem suspL_ok {S : Sh} (hS : S.Ok) (hsp : ∀ k, (specKeyP S k).2 = true) : ∀ (ks : List Int) (st : MkSt), Inv S S.made.length st → st.open_ = [] → KnE S st.known → (suspL S ks st).2 = true := by
  intro ks
  induction ks with
  | nil => intro st _ _ _; rfl
  | cons k ks ih =>
    intro st hi ho hK
    rw [suspL]
    have hs := keyP_spec hS S.made.length st [] k hi hK
    rw [ho] at hs
    obtain ⟨⟨h1, h2, h3⟩, h4⟩ := hs
    have hv := keyP_inv hS S.made.length st k hi
    have e : (keyP S S.made.length st k).1 = specKeyP S k := h1
    have hok : (keyP S S.made.length st k).1.2 = true := by rw [e]; exact hsp k
    rw [if_pos hok]
    exact ih _ hv.1 ((hv.2.1 hok).trans ho) (h2 hok).2.1
/-- what is safe is suspended to its end -/
theorem safe_susp {S : Sh} (hS : S.Ok) (h : safeP S.made (S.tks.map Tk.enc) = true) (keys : List Int) : (suspP S keys).2 = true :=
  suspL_ok hS (safe_all hS h) keys st0 (inv0 S) rfl (knE0 S)
theorem usesS_len {S : Sh} (hS : S.Ok) (all : List Int) {k : Int} (hk : mkK S.made k = true) : (usesS S all k).length ≤ 15 := by
  have hkr := mkK_range (show mkK S.made k ≠ false by rw [hk]; simp)
  obtain ⟨q, rfl⟩ := Int.eq_ofNat_of_zero_le hkr.1
  have hq : q < S.tks.length := by have := hS.len; omega
  have h1 := usesP_length (S.tk q) all
  have h2 := hS.okT hq
  rw [tk_at hq] at h1
  have h3 := fets_le S.tks[q]
  unfold okT at h2
  rw [Bool.and_eq_true, decide_eq_true_eq] at h2
  unfold usesS
  rw [tk_at hq]
  omega
structure RestGood (S : Sh) (keys : List Int) (all out : List Int) : Prop where
  hsafe : safeP S.made (S.tks.map Tk.enc) = true
  hkeys : keysOk S.made.length keys = true
  hall : buildAllP S = (all, true)
  many : ∀ j, out.count j ≤ 1 + (usesS S all j).length
  mem : ∀ x, x ∈ out ↔ Reach (mkK S.made) (usesS S all) keys x
theorem rest_any (made : List Bool) (tasks : List Task) (x1 x2 : List Int) (hnod : ∀ T ∈ tasks, nodes T ≤ 1000000000) (hml : (made.length : Int) ≤ 9223372036854775807) (hkl : x2.length ≤ 100) :
    ∃ R : List Int × Bool, R.1.length ≤ 1000 ∧ (R.2 = false → R.1 = []) ∧ (R.2 = true → ∃ tks all, tasks = tks.map Tk.enc ∧ Sh.Ok ⟨made, tks, x1⟩ ∧ RestGood ⟨made, tks, x1⟩ x2 all R.1) ∧
      SuspC 30 made tasks x1 x2 R ∧ SuspC 31 made tasks x1 x2 R := by
  by_cases hgood : safeP made tasks = true ∧ takesOk made.length x1 = true ∧ keysOk made.length x2 = true
  · obtain ⟨h1, h2, h3⟩ := hgood
    have hok : sheetOk made tasks = true := by have := h1; unfold safeP at this; rw [Bool.and_eq_true] at this; exact this.1
    obtain ⟨tks, rfl, hS⟩ := ok_sh hok h2
    obtain ⟨all, hall⟩ : ∃ all, buildAllP ⟨made, tks, x1⟩ = (all, true) := ⟨(buildAllP ⟨made, tks, x1⟩).1, Prod.ext rfl (safe_build hS h1)⟩
    obtain ⟨n0, fin, hr, hfq, hmany, hmem⟩ := rest_all hS hall h1 h3
    have hfl : fin.out.length ≤ 160 := by
      have := count_len (c := 16) made.length fin.out (fun x hx => mkK_range (show mkK made x ≠ false by rw [((hmem x).1 hx).isMade]; simp)) (fun j => by
        by_cases hj : j ∈ fin.out
        · have h4 := hmany j
          have h5 := usesS_len hS all ((hmem j).1 hj).isMade
          omega
        · rw [List.count_eq_zero.2 hj]; omega)
      have h10 := hS.ten
      simp only at h10
      have : made.length * 16 ≤ 10 * 16 := Nat.mul_le_mul_right _ h10
      omega
    refine ⟨(fin.out, true), (by simp only; omega), fun h => (by cases h), fun _ => ⟨tks, all, rfl, hS, ⟨h1, h3, hall, hmany, hmem⟩⟩, fun w Am At cm ct A1 c1 A2 c2 B w0 hb hB hs hi hl hc hi2 hl2 hc2 => ?_, fun w Am At cm ct A1 c1 A2 c2 B w0 hb hB hs hi hl hc hi2 hl2 hc2 => ?_⟩
    · have := orderRestart_good Am At A1 cm ct c1 B w0 ⟨made, tks, x1⟩ ⟨hs, hi, hl, hc, hS⟩ h1 A2 c2 x2 w hb hB h3 hi2 (by omega) n0 fin hr hfq (by omega)
      simp only [List.length_map]
      exact this.mono fun _ _ h => h.list
    · have := specOrderRestart_good Am At A1 cm ct c1 B w0 ⟨made, tks, x1⟩ ⟨hs, hi, hl, hc, hS⟩ hnod h1 A2 c2 x2 w hb hB h3 hi2 (by omega) n0 fin hr hfq (by omega)
      simp only [List.length_map]
      exact this.mono fun _ _ h => h.list
  · refine ⟨([], false), by simp, fun _ => rfl, fun h => (by cases h), fun w Am At cm ct A1 c1 A2 c2 B w0 hb hB hs hi hl hc hi2 hl2 hc2 => ?_, fun w Am At cm ct A1 c1 A2 c2 B w0 hb hB hs hi hl hc hi2 hl2 hc2 => ?_⟩
    · refine (orderRestart_bad Am At A1 A2 cm ct c1 c2 made tasks x1 x2 B w0 w hs hi (Nat.le_trans hl hc) hi2 (Nat.le_trans hl2 hc2) hb hB (fun a b => ?_)).mono ?_
      · cases h : keysOk made.length x2 with
        | false => rfl
        | true => exact (hgood ⟨a, b, h⟩).elim
      · rintro e w' ⟨rfl, hb⟩
        exact ⟨none, 0, rfl, Nat.le_refl _, by simp [maxLen], RowAt.nil _ _ _ _, hb⟩
    · refine (specOrderRestart_bad Am At A1 A2 cm ct c1 c2 made tasks x1 x2 B w0 w hs hi (Nat.le_trans hl hc) hi2 (Nat.le_trans hl2 hc2) hb hB hnod hml (fun a b => ?_)).mono fun _ _ h => h.list
      unfold inputsOk at a
      rw [Bool.and_eq_true] at a b
      cases h : safeP made tasks with
      | false => rfl
      | true => exact (hgood ⟨h, a.2, b.1⟩).elim
/-- TaskUses of a made key -/
theorem taskUses_key {made : List Bool} {tks : List Tk} {x1 : List Int} (hS : Sh.Ok ⟨made, tks, x1⟩) {all : List Int} (hall : buildAllP ⟨made, tks, x1⟩ = (all, true)) (q : Nat) (hq : q < tks.length) (A Av : Option Addr) (c cv : Nat) (w : World) (hc : tks[q].enc.parts.length ≤ c) (hcm : c ≤ maxLen) (hp : PartsIs w.heap.size w A 0 tks[q].enc.parts) (hv : IntsAt w.heap.size w Av all) :
    Calls Try.prog 32 #[.agg #[.int .i64 tks[q].enc.kind, .int .i64 tks[q].enc.n, .slice A tks[q].enc.parts.length c], .slice Av all.length cv] w fun e w' =>
      ∃ v, e = .returned (.tuple #[v, .bool true]) ∧ w'.ownsRow w.heap.size 3 1 v (usesS ⟨made, tks, x1⟩ all q).length (ints (usesS ⟨made, tks, x1⟩ all q)) ∧ Below w.heap.size w w' := by
  obtain ⟨a1, a2, a3, a4⟩ := all_law hS hall
  have h10 := hS.ten
  simp only at h10 a1
  have := taskUses_good tks[q] A c all Av cv w.heap.size w w (Below.refl _ _) (Nat.le_refl _) (hS.tks _ (List.getElem_mem hq)) (hS.okT hq) hc hcm hp (by unfold maxLen; omega) hv (by
    unfold valsOk
    rw [Bool.and_eq_true]
    exact ⟨by simp; omega, vals_iff.2 a2⟩)
  have ht : (Sh.mk made tks x1).tk q = tks[q] := tk_at hq
  unfold usesS
  rw [ht]
  exact this
end Go.Proofs.Ytpccgdkidnkppaa

set_option linter.unusedVariables false
set_option linter.unusedSimpArgs false
namespace Go.Proofs.Ytpccgdkidnkppaa
open Go Go.RowKit

set_option maxHeartbeats 4000000 in
theorem l91Keys_calls (R : RdEnv) (hR : R.Good) (p : Nat) (hp : p + 100 ≤ 1000000) (Am At : Option Addr) (nm cm nt ct : Nat) (w : World) (h : RdAt R p w) (hn : nm ≤ 20) :
    Calls Try.prog 69 #[.pointer (some ⟨R.g, 0, none⟩), .agg #[.slice Am nm cm, .slice At nt ct]] w (DrawIn R p 100 4 w) := by
  have hs : InSt R w (.slice Am nm cm) (.slice At nt ct) p [] (.slice (some ⟨w.heap.size + 1, 0, none⟩) 0 0) ((w.alloc (.cells #[.slice Am nm cm, .slice At nt ct] 31 (0, 0))).alloc (.cells #[] 3 (0, 0))) :=
    ⟨h.up (below_al (below_al (Below.refl _ _) _) _), ((Turn.refl _ _).alloc _).alloc _, by simpa [ints] using World.ownsRow_made (base := w.heap.size) (w.alloc (.cells #[.slice Am nm cm, .slice At nt ct] 31 (0, 0))) #[] 0 (by simp) (by simp [maxLen]) rfl, (heap_old (by simp)).trans (heap_new rfl), block_lt h.blk, h.size⟩
  have h1 := pick_calls R hR p (by omega) 3 _ hs.rd
  replace h1 := Lib.hid h1
  replace hs := Lib.hid hs
  clear h
  go_enter Try.func69, Try.ntmps69
  go_wp2_with fail
  refine h1.out.mono ?_
  rintro e w1 ⟨k, rfl, hk0, hk1, hr, ht⟩
  obtain ⟨q, rfl⟩ := Int.eq_ofNat_of_zero_le hk0
  have hq3 : q < 3 := by omega
  have hs1 := hs.out.step hr ht
  replace hs1 := Lib.hid hs1
  clear h1 hs hr ht hk1 hk0
  go_wp2_with fail
  go_loopw [5, 6] (fun o i wr => ∃ (t : Nat) (xs : List Int) (p2 : Nat), t ≤ 3 ∧ xs.length + t ≤ 3 ∧ p2 + t ≤ p + 4 ∧ p ≤ p2 ∧ i = .int .i64 t ∧ Hid (InSt R w (.slice Am nm cm) (.slice At nt ct) p2 xs o wr)) (fun _ i _ => (intOf i).toNat)
  case atStart => exact ⟨1 + q, [], p + 1, by omega, by simp; omega, by omega, by omega, by go_num, hs1⟩
  case round =>
    obtain ⟨t, xs, p2, ht3, hlen, hp2, hpp, rfl, hL⟩ := hrel
    have b0 : wr.cell? ⟨w.heap.size, 0, none⟩ = some (.slice Am nm cm) := cellm hL.out.box 0
    have hz := block_lt hL.out.box
    by_cases hgo : 0 < t ∧ 0 < nm
    · obtain ⟨ht0, hnm0⟩ := hgo
      have hc := pick_calls R hR p2 (by omega) nm wr.drew (hL.out.rd.up (Below.refl _ _).drew)
      have hwz := hL.out.turn.size
      replace hc := Lib.hid hc
      go_wp2_with fail
      go_region_held3 (fun w' => w'.cell? ⟨w.heap.size, 0, none⟩ = some (.slice Am nm cm)) (first | exact k4 | exact k0 | exact (cell_al hz2).trans k0 | exact b0)
        (first
          | ((with_reducible refine step_app1 (by rfl) (.tmp 21) (.tmp 33) 26 (by rfl) intTy w.heap.size u5 xs.length (ints xs) (by with_unfolding_all rfl) (hL2.out.own.alloc _) w2.heap.size 1 [.int .i64 _] (by with_unfolding_all rfl) (by with_unfolding_all rfl) ⟨_, _, heap_alloc_new w2 _, rfl⟩ (one_int _ _) ?_ ?_ ?_ ?_); (unfold maxLen; omega); (omega); (simp; omega); intro g cap w4 hown hgrow hat; have k4 : w4.cell? ⟨w.heap.size, 0, none⟩ = some (.slice Am nm cm) := cellm (hL2.out.app hgrow hown (v' := .slice (some ⟨g, 0, none⟩) (xs.length + 1) cap)).box 0)
          | (go_at_call 70; refine hc.out.mono ?_; rintro e w2 ⟨x, rfl, hx0, hx1, hr2, ht2⟩; have hL2 := (hL.out.step (hL.out.rd.up (Below.refl _ _).drew) (Turn.refl _ _).drew).step hr2 ht2; have k0 : w2.cell? ⟨w.heap.size, 0, none⟩ = some (.slice Am nm cm) := cellm hL2.box 0; have hwz2 := hL2.turn.size; have hz2 := block_lt hL2.box; replace hL2 := Lib.hid hL2))
      all_goals
        have hL4 := hL2.out.app (v' := .slice (some ⟨g, 0, none⟩) (xs.length + 1) cap) hgrow hown
        replace hL4 := Lib.hid hL4
        clear hown hgrow hat hL hL2 k0 k4 b0
        go_wp2_with fail
        go_roundw
        case rel => exact ⟨t - 1, _, p2 + 1, by omega, by simp; omega, by omega, by omega, by go_num, hL4⟩
        case measure => simp [intOf]; omega
    · have hc := pick_calls R hR p2 (by omega) 25 wr hL.out.rd
      replace hc := Lib.hid hc
      have hcase : (¬ 0 < t) ∨ (0 < t ∧ ¬ 0 < nm) := by
        by_cases h : 0 < t
        · exact .inr ⟨h, fun h2 => hgo ⟨h, h2⟩⟩
        · exact .inl h
      clear hgo
      rcases hcase with hq1 | ⟨hq1, hq2⟩
      all_goals
        go_wp2_with fail
        refine hc.out.mono ?_
        rintro e w2 ⟨x, rfl, hx0, hx1, hr2, ht2⟩
        have hL2 := hL.out.step hr2 ht2
        have hwz2 := hL2.turn.size
        clear hc hr2 ht2 hL b0 hz
        replace hL2 := Lib.hid hL2
        by_cases hx : x = 0
        · subst hx
          have hL3 := hL2.out.alloc (.cells #[.int .i64 (-1), .int .i64 10, .int .i64 9] 3 (0, 0))
          have hnum := l91Num_calls R hR (p2 + 1) (by omega) w2.heap.size 3 [-1, 10, 9] _ hL3.rd (by simp) (by simp) (by omega) (by simp) (by have h1 := hL2.out.glt; have h2 := hL2.out.turn.size; omega)
            (by intro i hi; rw [cellm (heap_new rfl) i]; rcases (show i = 0 ∨ i = 1 ∨ i = 2 by simp at hi; omega) with rfl | rfl | rfl <;> rfl)
          replace hL3 := Lib.hid hL3
          replace hnum := Lib.hid hnum
          clear hL2
          go_wp2_with fail
          refine hnum.out.mono ?_
          rintro e w3 ⟨x3, rfl, _, hr3, ht3⟩
          have hL4 := hL3.out.step hr3 ht3
          replace hL4 := Lib.hid hL4
          clear hL3 hnum hr3 ht3
          go_wp2_with (at_builtin; go_loud (with_reducible refine wpList_app1 (by rfl) (.tmp 38) (.tmp 42) 26 (by rfl) intTy w.heap.size u5 xs.length (ints xs) (by with_unfolding_all rfl) (hL4.out.own.alloc _) w3.heap.size 1 [.int .i64 x3] (by with_unfolding_all rfl) (by with_unfolding_all rfl) ⟨_, _, heap_alloc_new w3 _, rfl⟩ (one_int _ _) ?_ ?_ ?_ ?_))
          · unfold maxLen; omega
          · omega
          · have := hL4.out.turn.size; simp; omega
          intro g cap w4 hown hgrow hat
          have hL5 := hL4.out.app (x := x3) (v' := .slice (some ⟨g, 0, none⟩) (xs.length + 1) cap) hgrow hown
          replace hL5 := Lib.hid hL5
          clear hown hgrow hat hL4
          go_wp2_with fail
          go_ret
          exact ⟨p2 + 1 + 1, xs ++ [x3], _, rfl, by simp; omega, by omega, by omega, hL5.out.rd, hL5.out.turn, hL5.out.own⟩
        · have hx' : (x == 0) = false := by simp [hx]
          go_wp2_with fail
          go_ret
          exact ⟨p2 + 1, xs, u5, rfl, by omega, by omega, by omega, hL2.out.rd, hL2.out.turn, hL2.out.own⟩
end Go.Proofs.Ytpccgdkidnkppaa

set_option linter.unusedVariables false
set_option linter.unusedSimpArgs false
namespace Go.Proofs.Ytpccgdkidnkppaa
open Go Go.RowKit

/-! a world without its blocks below lo: what is read there lies in blocks from lo on -/
def mask (lo : Nat) (w : World) : World := { w with heap := w.heap.mapIdx fun i o => if i < lo then .map #[] 0 else o }
@[simp] theorem mask_size (lo : Nat) (w : World) : (mask lo w).heap.size = w.heap.size := by simp [mask]
theorem mask_heap (lo : Nat) (w : World) (i : Nat) : (mask lo w).heap[i]? = w.heap[i]?.map fun o => if i < lo then .map #[] 0 else o := by
  simp [mask, Array.getElem?_mapIdx]
theorem mask_hi {lo i : Nat} (w : World) (h : lo ≤ i) : (mask lo w).heap[i]? = w.heap[i]? := by
  rw [mask_heap]
  cases e : w.heap[i]? with
  | none => rfl
  | some o => simp [show ¬ i < lo by omega]
theorem mask_cell {lo : Nat} {w : World} {b o : Nat} {v : Value} (h : (mask lo w).cell? ⟨b, o, none⟩ = some v) : w.cell? ⟨b, o, none⟩ = some v := by
  by_cases hb : b < lo
  · unfold World.cell? at h
    rw [mask_heap] at h
    cases e : w.heap[b]? with
    | none => simp [e] at h
    | some ob => simp [e, hb] at h
  · exact (World.cell?_of_block (w := w) (mask_hi (lo := lo) (i := b) w (by omega))).symm.trans h
theorem mask_below {lo B : Nat} {w w' : World} (ho : w'.os = w.os) (ht : w'.tape = w.tape) (hp : w'.output = w.output) (hs : w.heap.size ≤ w'.heap.size) (hB : B ≤ w.heap.size) (h : ∀ i, lo ≤ i → i < B → w'.heap[i]? = w.heap[i]?) : Below B (mask lo w) (mask lo w') := by
  refine ⟨ho, ht, hp, by simpa using hs, fun k hk => ?_⟩
  by_cases e : k < lo
  · rw [mask_heap, mask_heap]
    have h1 : k < w.heap.size := by omega
    have h2 : k < w'.heap.size := by omega
    rw [Array.getElem?_eq_getElem h1, Array.getElem?_eq_getElem h2]
    simp [e]
  · rw [mask_hi _ (by omega), mask_hi _ (by omega)]
    exact h k (by omega) hk
theorem mask_turn {F F' : Nat → Prop} {lo : Nat} {w w' : World} (t : Turn F F' w w') (hF : ∀ i, F i → i < lo) : Below w.heap.size (mask lo w) (mask lo w') :=
  mask_below t.os t.tape t.output t.size (Nat.le_refl _) fun i hi hs => t.block i hs fun hf => by have := hF i hf; omega
theorem mask_up {lo : Nat} {w w' : World} (t : Below w.heap.size w w') : Below w.heap.size (mask lo w) (mask lo w') :=
  mask_below t.os t.tape t.output t.size (Nat.le_refl _) fun i hi hs => t.block i hs
theorem mask_set {lo b : Nat} (w : World) (h : b < lo) (o : Nat) (v : Value) : Below w.heap.size (mask lo w) (mask lo (w.setCell ⟨b, o, none⟩ v)) :=
  mask_below rfl rfl rfl (by simp) (Nat.le_refl _) fun i hi hs => setCell_far (by omega)
theorem mask_less {lo lo' : Nat} (w : World) (h : lo' ≤ lo) {b o : Nat} {v : Value} (hc : (mask lo w).cell? ⟨b, o, none⟩ = some v) : (mask lo' w).cell? ⟨b, o, none⟩ = some v := by
  by_cases hb : b < lo
  · unfold World.cell? at hc
    rw [mask_heap] at hc
    cases e : w.heap[b]? with
    | none => simp [e] at hc
    | some ob => simp [e, hb] at hc
  · rw [World.cell?_of_block (w := w) (mask_hi (lo := lo') (i := b) w (by omega))]
    exact mask_cell hc

theorem RowAt.imp {α : Type} {f : α → Value} {B B' : Nat} {w w' : World} {A : Option Addr} {xs : List α} (h : RowAt f B w A xs) (hB : B ≤ B') (hw : ∀ b o v, b < B → w.cell? ⟨b, o, none⟩ = some v → w'.cell? ⟨b, o, none⟩ = some v) : RowAt f B' w' A xs := by
  intro i hi
  obtain ⟨b, o, e, hlt, hc⟩ := h i hi
  exact ⟨b, o, e, by omega, hw _ _ _ hlt hc⟩
mutual
theorem TaskIs.imp {B B' : Nat} {w0 w : World} (hB : B ≤ B') (hw : ∀ b o v, b < B → w0.cell? ⟨b, o, none⟩ = some v → w.cell? ⟨b, o, none⟩ = some v) : ∀ (t : Task) (v : Value), TaskIs B w0 v t → TaskIs B' w v t
  | .mk k n ps, v, h => by
    rw [TaskIs] at h ⊢
    obtain ⟨A, c, e, hc, hm, hp⟩ := h
    exact ⟨A, c, e, hc, hm, PartsIs.imp hB hw ps A 0 hp⟩
theorem PartsIs.imp {B B' : Nat} {w0 w : World} (hB : B ≤ B') (hw : ∀ b o v, b < B → w0.cell? ⟨b, o, none⟩ = some v → w.cell? ⟨b, o, none⟩ = some v) : ∀ (ps : List Task) (A : Option Addr) (i : Nat), PartsIs B w0 A i ps → PartsIs B' w A i ps
  | [], A, i, _ => by rw [PartsIs]; trivial
  | t :: ts, A, i, h => by
    rw [PartsIs] at h ⊢
    obtain ⟨⟨b, o, x, y, z, e, hlt, hx, hy, hz, ht⟩, hts⟩ := h
    exact ⟨⟨b, o, x, y, z, e, by omega, hw _ _ _ hlt hx, hw _ _ _ hlt hy, hw _ _ _ hlt hz, TaskIs.imp hB hw t _ ht⟩, PartsIs.imp hB hw ts A (i + 1) hts⟩
end
theorem SheetAt.imp {B B' : Nat} {w w' : World} {Am At : Option Addr} {cm ct : Nat} {made : List Bool} {tasks : List Task} (h : SheetAt B w Am cm At ct made tasks) (hB : B ≤ B') (hw : ∀ b o v, b < B → w.cell? ⟨b, o, none⟩ = some v → w'.cell? ⟨b, o, none⟩ = some v) : SheetAt B' w' Am cm At ct made tasks :=
  ⟨h.lm, h.mm, h.lt, h.mt, h.made.imp hB hw, PartsIs.imp hB hw _ _ _ h.tasks⟩
theorem SheetAt.up {B B' : Nat} {w w' : World} {Am At : Option Addr} {cm ct : Nat} {made : List Bool} {tasks : List Task} (h : SheetAt B w Am cm At ct made tasks) (hb : Below B w w') (hB : B ≤ B') : SheetAt B' w' Am cm At ct made tasks :=
  h.imp hB fun b o v hlt hc => (hb.cell (p := ⟨b, o, none⟩) hlt).trans hc
theorem SheetAt.unmask {lo B : Nat} {w : World} {Am At : Option Addr} {cm ct : Nat} {made : List Bool} {tasks : List Task} (h : SheetAt B (mask lo w) Am cm At ct made tasks) : SheetAt B w Am cm At ct made tasks :=
  h.imp (Nat.le_refl _) fun b o v _ hc => mask_cell hc
theorem RowAt.unmask {α : Type} {f : α → Value} {lo B : Nat} {w : World} {A : Option Addr} {xs : List α} (h : RowAt f B (mask lo w) A xs) : RowAt f B w A xs := h.imp (Nat.le_refl _) fun b o v _ hc => mask_cell hc

section
variable {g B lo : Nat} {G : Rows} {made : List Bool} {ts : List (Value × Value × Value)} {vm vt : Value} {w : World}
theorem Sht.mask (h : Sht g B lo G made ts vm vt w) : Sht g B lo G made ts vm vt (mask lo w) :=
  ⟨ownsRow_block h.om (fun i hi => mask_hi w (h.om.lt i hi).1), ownsRow_block h.ot (fun i hi => mask_hi w (h.ot.lt i hi).1),
   fun b r m hb => by
     obtain ⟨h1, h2, cs, h3, h4⟩ := h.ty b r m hb
     exact ⟨h1, h2, cs, (mask_hi w (h.new b _ hb)).trans h3, h4⟩,
   h.tv, h.sep, h.new, h.glo⟩
/-- a drawn sheet, read in blocks from lo on -/
theorem Sht.readsM (h : Sht g B lo G made ts vm vt w) : ∃ Am cm At ct tasks, vm = .slice Am made.length cm ∧ vt = .slice At tasks.length ct ∧ tasks.length = ts.length ∧ SheetAt w.heap.size (Go.Proofs.Ytpccgdkidnkppaa.mask lo w) Am cm At ct made tasks ∧ ∀ T ∈ tasks, nodes T ≤ 13 := by
  obtain ⟨Am, cm, At, ct, tasks, h1, h2, h3, h4, h5⟩ := h.mask.reads
  exact ⟨Am, cm, At, ct, tasks, h1, h2, h3, by simpa using h4, fun T hT => by have := h5 T hT; simpa [nb] using this⟩
end
theorem rowM {w : World} {base lo : Nat} {e : TypeId} {v : Value} {xs : List Int} (h : w.ownsRow base e 1 v xs.length (ints xs)) (hl : lo ≤ base) : ∃ A c, v = .slice A xs.length c ∧ xs.length ≤ c ∧ c ≤ maxLen ∧ IntsAt w.heap.size (mask lo w) A xs := by
  obtain ⟨A, c, h1, h2, h3, h4⟩ := ownsRow_ints (ownsRow_block (w' := mask lo w) h (fun i hi => mask_hi w (by have := (h.lt i hi).1; omega)))
  exact ⟨A, c, h1, h2, h3, by simpa using h4⟩

theorem SheetAt.grow {B B' : Nat} {w : World} {Am At : Option Addr} {cm ct : Nat} {made : List Bool} {tasks : List Task} (h : SheetAt B w Am cm At ct made tasks) (hB : B ≤ B') : SheetAt B' w Am cm At ct made tasks := h.up (Below.refl _ _) hB
theorem RowAt.grow {α : Type} {f : α → Value} {B B' : Nat} {w : World} {A : Option Addr} {xs : List α} (h : RowAt f B w A xs) (hB : B ≤ B') : RowAt f B' w A xs := h.up (Below.refl _ _) hB
/-! what draws of a sheet and rows of numbers bring -/
structure Args2 (w : World) (Am : Option Addr) (cm : Nat) (At : Option Addr) (ct : Nat) (made : List Bool) (tasks : List Task) (Ai : Option Addr) (ci : Nat) (inputs : List Int) (Ak : Option Addr) (ck : Nat) (keys : List Int) : Prop where
  base : ArgsAt w Am cm At ct made tasks Ai ci inputs
  keysAt : IntsAt w.heap.size w Ak keys
  klen : keys.length ≤ 10
  kcap : keys.length ≤ ck
  kmax : ck ≤ maxLen
def DrawTwoP (w : World) (e : Ending) (w' : World) : Prop :=
  ∃ Am cm At ct made tasks Ai ci inputs Ak ck keys, e = .returned (.tuple #[.agg #[.slice Am made.length cm, .slice At tasks.length ct], .slice Ai inputs.length ci, .slice Ak keys.length ck]) ∧ Args2 w' Am cm At ct made tasks Ai ci inputs Ak ck keys ∧ Below w.heap.size w w'
theorem drawTwo_done {lo : Nat} {w w4 : World} {Am At Ai Ak : Option Addr} {cm ct ci ck : Nat} {made : List Bool} {tasks : List Task} {xs ks : List Int} (hlo : w.heap.size < lo) (hS : SheetAt w4.heap.size (mask lo w4) Am cm At ct made tasks) (hI : IntsAt w4.heap.size (mask lo w4) Ai xs) (hK : IntsAt w4.heap.size (mask lo w4) Ak ks)
    (h1 : tasks.length = made.length) (h2 : made.length ≤ 8) (h3 : ∀ T ∈ tasks, nodes T ≤ 13) (h4 : xs.length ≤ 9) (h5 : xs.length ≤ ci) (h6 : ci ≤ maxLen) (h7 : ks.length ≤ 10) (h8 : ks.length ≤ ck) (h9 : ck ≤ maxLen) (hb : Below w.heap.size w w4) (x y : Value) :
    DrawTwoP w (.returned (.tuple #[.agg #[.slice Am made.length cm, .slice At tasks.length ct], .slice Ai xs.length ci, .slice Ak ks.length ck])) ((w4.setCell ⟨w.heap.size, 0, none⟩ x).setCell ⟨w.heap.size, 1, none⟩ y) := by
  have hm := (mask_set w4 hlo 0 x).trans ((mask_set (w4.setCell ⟨w.heap.size, 0, none⟩ x) hlo 1 y).mono (by simp))
  have hz : w4.heap.size ≤ ((w4.setCell ⟨w.heap.size, 0, none⟩ x).setCell ⟨w.heap.size, 1, none⟩ y).heap.size := by simp
  exact ⟨Am, cm, At, ct, made, tasks, Ai, ci, xs, Ak, ck, ks, rfl, ⟨⟨(hS.up hm hz).unmask, (hI.up hm hz).unmask, h1, h2, h3, h4, h5, h6⟩, (hK.up hm hz).unmask, h7, h8, h9⟩,
    (hb.setCell (p := ⟨w.heap.size, 0, none⟩) (Nat.le_refl _) x).setCell (p := ⟨w.heap.size, 1, none⟩) (Nat.le_refl _) y⟩
end Go.Proofs.Ytpccgdkidnkppaa

set_option linter.unusedVariables false
set_option linter.unusedSimpArgs false
namespace Go.Proofs.Ytpccgdkidnkppaa
open Go Go.RowKit

set_option maxHeartbeats 2000000 in
theorem drawOrderSuspend_calls (A : Option Addr) (c : Nat) (bytes : List Int) (B : Nat) (w0 w : World) (hb : Below B w0 w) (hB : B ≤ w.heap.size) (hx : RowAt (fun b : Int => Value.int .u8 b) B w0 A bytes) (hl : bytes.length ≤ c) (hc : c ≤ maxLen) (hby : ∀ b ∈ bytes, 0 ≤ b ∧ b ≤ 255) :
    Calls Try.prog 24 #[.slice A bytes.length c] w (DrawTwoP w) := by
  have h0 := l6Open_calls A c bytes B w0 ((w.alloc (.cells #[.slice none 0 0, .slice none 0 0] 31 (0, 0)))) (below_al' hb _ hB) (by simp; omega) hx hl hc hby
  replace h0 := Lib.hid h0
  clear hb hx hby hl hc
  go_enter Try.func24, Try.ntmps24
  go_wp2_with fail
  refine h0.out.mono ?_
  rintro e w1 ⟨R, rfl, hR, hRB, hRw, hRg, hrd, hb1⟩
  have h1 := l91Sheet_calls R hR 0 (by omega) w1 hrd
  have hgl := block_lt hrd.blk
  have hres1 := (hb1.block w.heap.size (by simp)).trans (heap_new rfl)
  have hz1 : w.heap.size < w1.heap.size := by have := hb1.size; simp at this; omega
  have hg0 : w.heap.size < R.g := by simp at hRg; omega
  have hbw := below_from hb1
  replace h1 := Lib.hid h1
  clear hb1 h0 hRg
  go_wp2_with fail
  refine h1.out.mono ?_
  rintro e w2 ⟨p2, G, made, ts, vm, vt, rfl, hml, hm8, hm2, hp0, hp2, hrd2, ht2, hsh2⟩
  obtain ⟨Am, cm, At, ct, tasks, rfl, rfl, htl, hS2, hnd⟩ := hsh2.readsM
  have htl2 : tasks.length = made.length := by omega
  replace htl2 := Lib.hid htl2
  clear hml htl
  have hz2 : w1.heap.size ≤ w2.heap.size := ht2.size
  have hres2 := (ht2.block _ hz1 (fun e => by omega)).trans hres1
  have hbw2 : Below w.heap.size w w2 := hbw.trans (ht2.below (Nat.le_of_lt hz1) (fun i e => by cases e; omega))
  have hal := below_al (Below.refl _ w2) (.cells #[.slice Am made.length cm, .slice At tasks.length ct] 31 (0, 0))
  have h2 := l91Inputs_calls R hR p2 (by omega) Am At made.length cm tasks.length ct _ (hrd2.up hal) (by omega)
  have hS3 := hS2.up (mask_up hal) hal.size
  have hres3 := (hal.block _ (by omega)).trans hres2
  have hbw3 : Below w.heap.size w _ := hbw2.trans (hal.mono (by omega))
  have hbox3 := heap_alloc_new w2 (.cells #[.slice Am made.length cm, .slice At tasks.length ct] 31 (0, 0))
  replace h2 := Lib.hid h2
  replace hS3 := Lib.hid hS3
  clear h1 hrd2 ht2 hsh2 hres2 hbw2 hal hbw hres1 hrd hS2
  go_wp2_with fail
  refine h2.out.mono ?_
  rintro e w3 ⟨p3, xs, vi, rfl, hxl, hp3, hp3', hrd3, ht3, hown3⟩
  obtain ⟨Ai, ci, rfl, hil, him, hI3⟩ := rowM (lo := w1.heap.size) hown3 (by simp; omega)
  have hS4 := hS3.out.up (mask_turn ht3 (fun i e => by cases e; exact hgl)) ht3.size
  have hres4 := (ht3.block _ (by simp; omega) (fun e => by omega)).trans hres3
  have hbox4 := (ht3.block _ (by simp) (fun e => by omega)).trans hbox3
  have hbw4 : Below w.heap.size w w3 := hbw3.trans (ht3.below (by simp; omega) (fun i e => by cases e; omega))
  have hz3 : w2.heap.size < w3.heap.size := by have := ht3.size; simp at this; omega
  have x0 : w3.cell? ⟨w2.heap.size, 0, none⟩ = some (.slice Am made.length cm) := cellm hbox4 0
  have x1 : w3.cell? ⟨w2.heap.size, 1, none⟩ = some (.slice At tasks.length ct) := cellm hbox4 1
  have h3 := l91Keys_calls R hR p3 (by omega) Am At made.length cm tasks.length ct w3 hrd3 (by omega)
  replace h3 := Lib.hid h3
  replace hS4 := Lib.hid hS4
  replace hI3 := Lib.hid hI3
  clear h2 hS3 hres3 hbw3 hbox3 ht3 hown3 hrd3
  go_wp2_with fail
  refine h3.out.mono ?_
  rintro e w4 ⟨p4, ks, vk, rfl, hkl, hp4, hp4', hrd4, ht4, hown4⟩
  obtain ⟨Ak, ck, rfl, hkl2, hkm, hK⟩ := rowM (lo := w1.heap.size) hown4 (by omega)
  have hmt := mask_turn (lo := w1.heap.size) ht4 (fun i e => by cases e; exact hgl)
  have hS := hS4.out.up hmt ht4.size
  have hI := hI3.out.up hmt ht4.size
  have hres := (ht4.block _ (by omega) (fun e => by omega)).trans hres4
  have hbox := (ht4.block _ (by omega) (fun e => by omega)).trans hbox4
  have hbw5 : Below w.heap.size w w4 := hbw4.trans (ht4.below (by omega) (fun i e => by cases e; omega))
  have hz4 : w2.heap.size < w4.heap.size := by have := ht4.size; omega
  clear x0 x1
  have x0 : w4.cell? ⟨w2.heap.size, 0, none⟩ = some (.slice Am made.length cm) := cellm hbox 0
  have x1 : w4.cell? ⟨w2.heap.size, 1, none⟩ = some (.slice At tasks.length ct) := cellm hbox 1
  have y0 : w4.cell? ⟨w.heap.size, 0, none⟩ = some (.slice none 0 0) := cellm hres 0
  have y1 : w4.cell? ⟨w.heap.size, 1, none⟩ = some (.slice none 0 0) := cellm hres 1
  have f0 : w4.frozen? ⟨w.heap.size, 0, none⟩ = false := frozenm hres 0
  have f1 : w4.frozen? ⟨w.heap.size, 1, none⟩ = false := frozenm hres 1
  have hW := setCell_block (setCell_block hres 0 (.slice Am made.length cm)) 1 (.slice At tasks.length ct)
  have hfin := drawTwo_done hz1 hS hI hK htl2.out hm8 hnd (by omega) hil him (by omega) hkl2 hkm hbw5 (.slice Am made.length cm) (.slice At tasks.length ct)
  replace hfin := Lib.hid hfin
  replace hW := Lib.hid hW
  clear h3 hS4 hI3 hS hI hK hmt hres hbox hbw4 hbw5 ht4 hown4 hres4 hbox4 hrd4
  go_wp2_with fail
  exact ret_sheet2 rfl rfl rfl rfl (hW.out.trans rfl) hfin.out

set_option maxHeartbeats 2000000 in
theorem drawOrderRestart_calls (A : Option Addr) (c : Nat) (bytes : List Int) (B : Nat) (w0 w : World) (hb : Below B w0 w) (hB : B ≤ w.heap.size) (hx : RowAt (fun b : Int => Value.int .u8 b) B w0 A bytes) (hl : bytes.length ≤ c) (hc : c ≤ maxLen) (hby : ∀ b ∈ bytes, 0 ≤ b ∧ b ≤ 255) :
    Calls Try.prog 29 #[.slice A bytes.length c] w (DrawTwoP w) := by
  have h0 := l6Open_calls A c bytes B w0 ((w.alloc (.cells #[.slice none 0 0, .slice none 0 0] 31 (0, 0)))) (below_al' hb _ hB) (by simp; omega) hx hl hc hby
  replace h0 := Lib.hid h0
  clear hb hx hby hl hc
  go_enter Try.func29, Try.ntmps29
  go_wp2_with fail
  refine h0.out.mono ?_
  rintro e w1 ⟨R, rfl, hR, hRB, hRw, hRg, hrd, hb1⟩
  have h1 := l91Sheet_calls R hR 0 (by omega) w1 hrd
  have hgl := block_lt hrd.blk
  have hres1 := (hb1.block w.heap.size (by simp)).trans (heap_new rfl)
  have hz1 : w.heap.size < w1.heap.size := by have := hb1.size; simp at this; omega
  have hg0 : w.heap.size < R.g := by simp at hRg; omega
  have hbw := below_from hb1
  replace h1 := Lib.hid h1
  clear hb1 h0 hRg
  go_wp2_with fail
  refine h1.out.mono ?_
  rintro e w2 ⟨p2, G, made, ts, vm, vt, rfl, hml, hm8, hm2, hp0, hp2, hrd2, ht2, hsh2⟩
  obtain ⟨Am, cm, At, ct, tasks, rfl, rfl, htl, hS2, hnd⟩ := hsh2.readsM
  have htl2 : tasks.length = made.length := by omega
  replace htl2 := Lib.hid htl2
  clear hml htl
  have hz2 : w1.heap.size ≤ w2.heap.size := ht2.size
  have hres2 := (ht2.block _ hz1 (fun e => by omega)).trans hres1
  have hbw2 : Below w.heap.size w w2 := hbw.trans (ht2.below (Nat.le_of_lt hz1) (fun i e => by cases e; omega))
  have hal := below_al (Below.refl _ w2) (.cells #[.slice Am made.length cm, .slice At tasks.length ct] 31 (0, 0))
  have h2 := l91Inputs_calls R hR p2 (by omega) Am At made.length cm tasks.length ct _ (hrd2.up hal) (by omega)
  have hS3 := hS2.up (mask_up hal) hal.size
  have hres3 := (hal.block _ (by omega)).trans hres2
  have hbw3 : Below w.heap.size w _ := hbw2.trans (hal.mono (by omega))
  have hbox3 := heap_alloc_new w2 (.cells #[.slice Am made.length cm, .slice At tasks.length ct] 31 (0, 0))
  replace h2 := Lib.hid h2
  replace hS3 := Lib.hid hS3
  clear h1 hrd2 ht2 hsh2 hres2 hbw2 hal hbw hres1 hrd hS2
  go_wp2_with fail
  refine h2.out.mono ?_
  rintro e w3 ⟨p3, xs, vi, rfl, hxl, hp3, hp3', hrd3, ht3, hown3⟩
  obtain ⟨Ai, ci, rfl, hil, him, hI3⟩ := rowM (lo := w1.heap.size) hown3 (by simp; omega)
  have hS4 := hS3.out.up (mask_turn ht3 (fun i e => by cases e; exact hgl)) ht3.size
  have hres4 := (ht3.block _ (by simp; omega) (fun e => by omega)).trans hres3
  have hbox4 := (ht3.block _ (by simp) (fun e => by omega)).trans hbox3
  have hbw4 : Below w.heap.size w w3 := hbw3.trans (ht3.below (by simp; omega) (fun i e => by cases e; omega))
  have hz3 : w2.heap.size < w3.heap.size := by have := ht3.size; simp at this; omega
  have x0 : w3.cell? ⟨w2.heap.size, 0, none⟩ = some (.slice Am made.length cm) := cellm hbox4 0
  have x1 : w3.cell? ⟨w2.heap.size, 1, none⟩ = some (.slice At tasks.length ct) := cellm hbox4 1
  have h3 := l91Keys_calls R hR p3 (by omega) Am At made.length cm tasks.length ct w3 hrd3 (by omega)
  replace h3 := Lib.hid h3
  replace hS4 := Lib.hid hS4
  replace hI3 := Lib.hid hI3
  clear h2 hS3 hres3 hbw3 hbox3 ht3 hown3 hrd3
  go_wp2_with fail
  refine h3.out.mono ?_
  rintro e w4 ⟨p4, ks, vk, rfl, hkl, hp4, hp4', hrd4, ht4, hown4⟩
  obtain ⟨Ak, ck, rfl, hkl2, hkm, hK⟩ := rowM (lo := w1.heap.size) hown4 (by omega)
  have hmt := mask_turn (lo := w1.heap.size) ht4 (fun i e => by cases e; exact hgl)
  have hS := hS4.out.up hmt ht4.size
  have hI := hI3.out.up hmt ht4.size
  have hres := (ht4.block _ (by omega) (fun e => by omega)).trans hres4
  have hbox := (ht4.block _ (by omega) (fun e => by omega)).trans hbox4
  have hbw5 : Below w.heap.size w w4 := hbw4.trans (ht4.below (by omega) (fun i e => by cases e; omega))
  have hz4 : w2.heap.size < w4.heap.size := by have := ht4.size; omega
  clear x0 x1
  have x0 : w4.cell? ⟨w2.heap.size, 0, none⟩ = some (.slice Am made.length cm) := cellm hbox 0
  have x1 : w4.cell? ⟨w2.heap.size, 1, none⟩ = some (.slice At tasks.length ct) := cellm hbox 1
  have y0 : w4.cell? ⟨w.heap.size, 0, none⟩ = some (.slice none 0 0) := cellm hres 0
  have y1 : w4.cell? ⟨w.heap.size, 1, none⟩ = some (.slice none 0 0) := cellm hres 1
  have f0 : w4.frozen? ⟨w.heap.size, 0, none⟩ = false := frozenm hres 0
  have f1 : w4.frozen? ⟨w.heap.size, 1, none⟩ = false := frozenm hres 1
  have hW := setCell_block (setCell_block hres 0 (.slice Am made.length cm)) 1 (.slice At tasks.length ct)
  have hfin := drawTwo_done hz1 hS hI hK htl2.out hm8 hnd (by omega) hil him (by omega) hkl2 hkm hbw5 (.slice Am made.length cm) (.slice At tasks.length ct)
  replace hfin := Lib.hid hfin
  replace hW := Lib.hid hW
  clear h3 hS4 hI3 hS hI hK hmt hres hbox hbw4 hbw5 ht4 hown4 hres4 hbox4 hrd4
  go_wp2_with fail
  exact ret_sheet2 rfl rfl rfl rfl (hW.out.trans rfl) hfin.out

end Go.Proofs.Ytpccgdkidnkppaa

set_option linter.unusedVariables false
set_option linter.unusedSimpArgs false
namespace Go.Proofs.Ytpccgdkidnkppaa
open Go Go.RowKit

/-! the laws' own words -/
theorem brHas_any (A : Option Addr) (c : Nat) (xs : List Int) (x : Int) (B : Nat) (w0 w : World) (hb : Below B w0 w) (hB : B ≤ w.heap.size) (hx : IntsAt B w0 A xs) (hl : xs.length ≤ 1000000) :
    Calls Try.prog 86 #[.slice A xs.length c, .int .i64 x] w fun e w' => e = .returned (.bool (xs.contains x)) ∧ w = w' := by
  replace hx := Lib.hid hx
  replace hb := Lib.hid hb
  go_enter Try.func86, Try.ntmps86
  go_wp2_with fail
  go_loopw [5] (fun i wr => ∃ (j : Nat), j ≤ xs.length ∧ i = .int .i64 j ∧ wr = w ∧ Hid (∀ q (h : q < xs.length), q < j → xs[q] ≠ x)) (fun i _ => xs.length - (intOf i).toNat)
  case atStart => exact ⟨0, Nat.zero_le _, rfl, rfl, Lib.hid (fun q _ h => by omega)⟩
  case round =>
    obtain ⟨j, hj, rfl, rfl, hno⟩ := hrel
    by_cases hlt : j < xs.length
    · obtain ⟨b, o, rfl, hbl, y⟩ := hx.out.at hb.out hB j hlt
      by_cases e : xs[j] = x
      · have e' : (xs[j] == x) = true := by simp [e]
        have hr : xs.contains x = true := by rw [← e]; simp
        replace e := Lib.hid e
        replace hr := Lib.hid hr
        go_wp2_with fail
        go_ret
        exact ⟨by rw [hr.out]; rfl, rfl⟩
      · have e' : (xs[j] == x) = false := by simp [e]
        have hno2 : ∀ q (h : q < xs.length), q < j + 1 → xs[q] ≠ x := fun q h hq => by
          by_cases hqj : q = j
          · subst hqj; exact e
          · exact hno.out q h (by omega)
        replace e := Lib.hid e
        replace hno2 := Lib.hid hno2
        go_wp2_with fail
        go_roundw
        case rel => exact ⟨j + 1, by omega, by go_num, by first | rfl | trivial, hno2⟩
        case measure => simp [intOf]; omega
    · have hr : xs.contains x = false := by
        rw [List.contains_eq_mem, decide_eq_false_iff_not]
        intro hm
        obtain ⟨q, hq, e⟩ := List.getElem_of_mem hm
        exact hno.out q hq (by omega) e
      replace hr := Lib.hid hr
      go_wp2_with fail
      go_ret
      exact ⟨by rw [hr.out]; rfl, rfl⟩

theorem brAll_any (A : Option Addr) (c : Nat) (xs : List Int) (A2 : Option Addr) (c2 : Nat) (ys : List Int) (B : Nat) (w0 w : World) (hb : Below B w0 w) (hB : B ≤ w.heap.size) (hx : IntsAt B w0 A xs) (hl : xs.length ≤ 1000000) (hy : IntsAt B w0 A2 ys) (hl2 : ys.length ≤ 1000000) :
    Calls Try.prog 28 #[.slice A xs.length c, .slice A2 ys.length c2] w fun e w' => e = .returned (.bool (xs.all fun x => ys.contains x)) ∧ w = w' := by
  have hc := fun x => brHas_any A2 c2 ys x B w0 w hb hB hy hl2
  replace hc := Lib.hid hc
  replace hx := Lib.hid hx
  replace hb := Lib.hid hb
  clear hy
  go_enter Try.func28, Try.ntmps28
  go_wp2_with fail
  go_loopw [5] (fun i wr => ∃ (j : Nat), j ≤ xs.length ∧ i = .int .i64 j ∧ wr = w ∧ Hid (∀ q (h : q < xs.length), q < j → ys.contains xs[q] = true)) (fun i _ => xs.length - (intOf i).toNat)
  case atStart => exact ⟨0, Nat.zero_le _, rfl, rfl, Lib.hid (fun q _ h => by omega)⟩
  case round =>
    obtain ⟨j, hj, rfl, rfl, hno⟩ := hrel
    by_cases hlt : j < xs.length
    · obtain ⟨b, o, rfl, hbl, y⟩ := hx.out.at hb.out hB j hlt
      cases e : ys.contains xs[j] with
      | true =>
        have hno2 : ∀ q (h : q < xs.length), q < j + 1 → ys.contains xs[q] = true := fun q h hq => by
          by_cases hqj : q = j
          · subst hqj; exact e
          · exact hno.out q h (by omega)
        have h1 := hc.out xs[j]
        rw [e] at h1
        replace h1 := Lib.hid h1
        replace e := Lib.hid e
        replace hno2 := Lib.hid hno2
        go_wp2_with fail
        refine h1.out.mono ?_
        rintro e w1 ⟨rfl, rfl⟩
        go_wp2_with fail
        go_roundw
        case rel => exact ⟨j + 1, by omega, by go_num, by first | rfl | trivial, hno2⟩
        case measure => simp [intOf]; omega
      | false =>
        have hr : (xs.all fun x => ys.contains x) = false := by
          rw [List.all_eq_false]
          exact ⟨xs[j], List.getElem_mem _, by simp only [e]; decide⟩
        have h1 := hc.out xs[j]
        rw [e] at h1
        replace h1 := Lib.hid h1
        replace e := Lib.hid e
        replace hr := Lib.hid hr
        go_wp2_with fail
        refine h1.out.mono ?_
        rintro e w1 ⟨rfl, rfl⟩
        go_wp2_with fail
        go_ret
        exact ⟨by rw [hr.out]; rfl, rfl⟩
    · have hr : (xs.all fun x => ys.contains x) = true := by
        rw [List.all_eq_true]
        intro x hx2
        obtain ⟨q, hq, rfl⟩ := List.getElem_of_mem hx2
        exact hno.out q hq (by omega)
      replace hr := Lib.hid hr
      go_wp2_with fail
      go_ret
      exact ⟨by rw [hr.out]; rfl, rfl⟩
end Go.Proofs.Ytpccgdkidnkppaa

set_option linter.unusedVariables false
set_option linter.unusedSimpArgs false
namespace Go.Proofs.Ytpccgdkidnkppaa
open Go Go.RowKit

/-- what the law asks of what was tried -/
structure RestLaw (made : List Bool) (tasks : List Task) (At : Option Addr) (ct : Nat) (w1 : World) (rl sl al : List Int) : Prop where
  «at» : ∀ (j : Nat) (hj : j < rl.length), ∃ (q b o : Nat) (A' : Option Addr) (c' : Nat) (us : List Int), rl[j] = (q : Int) ∧ q < tasks.length ∧ At = some ⟨b, o, none⟩ ∧ b < w1.heap.size ∧
    ∃ (t : Task), w1.cell? ⟨b, o + q * 3, none⟩ = some (.int .i64 t.kind) ∧ w1.cell? ⟨b, o + q * 3 + 1, none⟩ = some (.int .i64 t.n) ∧ w1.cell? ⟨b, o + q * 3 + 2, none⟩ = some (.slice A' t.parts.length c') ∧ t.parts.length ≤ c' ∧ c' ≤ maxLen ∧
      (∀ (w : World) (Av : Option Addr) (cv : Nat), Below w1.heap.size w1 w → IntsAt w.heap.size w Av al → Calls Try.prog 32 #[.agg #[.int .i64 t.kind, .int .i64 t.n, .slice A' t.parts.length c'], .slice Av al.length cv] w fun e w' =>
        ∃ v, e = .returned (.tuple #[v, .bool true]) ∧ w'.ownsRow w.heap.size 3 1 v us.length (ints us) ∧ Below w.heap.size w w') ∧ us.length ≤ 15 ∧ rl.count rl[j] ≤ us.length + 1
  fwd : (rl.all fun x => sl.contains x) = true
  bwd : (sl.all fun x => rl.contains x) = true
theorem rest_law {made : List Bool} {tks : List Tk} {x1 x2 : List Int} (hS : Sh.Ok ⟨made, tks, x1⟩) {all rl sl al : List Int} {sb ab : Bool} (hG : RestGood ⟨made, tks, x1⟩ x2 all rl) (e1 : (sl, sb) = suspP ⟨made, tks, x1⟩ x2) (e2 : (al, ab) = buildAllP ⟨made, tks, x1⟩) {Am At : Option Addr} {cm ct : Nat} {w1 : World} (hs : SheetAt w1.heap.size w1 Am cm At ct made (tks.map Tk.enc)) :
    RestLaw made (tks.map Tk.enc) At ct w1 rl sl al := by
  have hal : al = all := by have := hG.hall; rw [← e2] at this; exact (Prod.mk.inj this).1
  subst hal
  have hsl : sl = (suspP ⟨made, tks, x1⟩ x2).1 := by rw [← e1]
  have hiff := susp_iff hS hG.hall (safe_susp hS hG.hsafe x2)
  refine ⟨fun j hj => ?_, ?_, ?_⟩
  · have hmk := ((hG.mem _).1 (List.getElem_mem hj)).isMade
    have hkr := mkK_range (show mkK made rl[j] ≠ false by rw [hmk]; simp)
    obtain ⟨q, hq⟩ := Int.eq_ofNat_of_zero_le hkr.1
    have hqt : q < tks.length := by have := hS.len; simp only at this; omega
    obtain ⟨b, o, A', c', hA, hbl, z0, z1, z2, hpc, hpm, hp⟩ := hs.tasks.at (Below.refl _ w1) q (by simpa using hqt)
    simp only [List.getElem_map] at z0 z1 z2 hpc hp
    refine ⟨q, b, o, A', c', usesS ⟨made, tks, x1⟩ al q, hq, by simpa using hqt, hA, hbl, tks[q].enc, z0, z1, z2, hpc, hpm, fun w Av cv hb hv => taskUses_key hS hG.hall q hqt A' Av c' cv w hpc hpm (PartsIs.up hb hb.size _ _ _ hp) hv, ?_, ?_⟩
    · exact usesS_len hS al (by rw [← hq]; exact hmk)
    · have := hG.many rl[j]
      rw [hq] at this ⊢; omega
  · rw [List.all_eq_true]
    intro x hx
    simpa [hsl] using (hiff x).2 ((hG.mem x).1 hx)
  · rw [List.all_eq_true]
    intro x hx
    rw [hsl] at hx
    simpa using (hG.mem x).2 ((hiff x).1 hx)

set_option maxRecDepth 5000 in
set_option maxHeartbeats 8000000 in
theorem fnOrderRestart_calls (A : Option Addr) (c : Nat) (bytes : List Int) (w : World) (hx : RowAt (fun b : Int => Value.int .u8 b) w.heap.size w A bytes) (hl : bytes.length ≤ c) (hc : c ≤ maxLen) (hby : ∀ b ∈ bytes, 0 ≤ b ∧ b ≤ 255) :
    Calls Try.prog 7 #[.slice A bytes.length c] w fun e w' => e = .returned (.bool true) ∧ Below w.heap.size w w' := by
  have hcm := hc
  unfold maxLen at hcm
  by_cases hbig : 1048576 < bytes.length
  · clear hx hby
    go_enter Try.func7, Try.ntmps7
    go_wp2_with fail
    go_ret
    exact ⟨rfl, Below.refl _ _⟩
  have hdr := drawOrderRestart_calls A c bytes w.heap.size w w (Below.refl _ _) (Nat.le_refl _) hx hl hc hby
  replace hdr := Lib.hid hdr
  clear hx hby
  go_enter Try.func7, Try.ntmps7
  go_wp2_with fail
  refine hdr.out.mono ?_
  rintro e w1 ⟨Am, cm, At, ct, made, tasks, Ai, ci, inputs, Ak, ck, keys, rfl, ha, hb1⟩
  have hnod : ∀ T ∈ tasks, nodes T ≤ 1000000000 := fun T hT => by have := ha.base.nodes T hT; omega
  have hsm := ha.base.small
  obtain ⟨⟨rl, rb⟩, hR10, hRn, hRg, hI, hS⟩ := rest_any made tasks inputs keys hnod (by omega) (by have := ha.klen; omega)
  obtain ⟨⟨sl, sb⟩, hS10, hSg, hU, -⟩ := susp_any made tasks inputs keys hnod (by omega)
  obtain ⟨⟨al, ab⟩, hA10, hAg, hA⟩ := all_any made tasks inputs
  have hI' := fun w2 (h : Below w1.heap.size w1 w2) => hI w2 Am At cm ct Ai ci Ak ck w1.heap.size w1 h h.size ha.base.sheet ha.base.ints ha.base.icap ha.base.imax ha.keysAt ha.kcap ha.kmax
  have hS' := fun w2 (h : Below w1.heap.size w1 w2) => hS w2 Am At cm ct Ai ci Ak ck w1.heap.size w1 h h.size ha.base.sheet ha.base.ints ha.base.icap ha.base.imax ha.keysAt ha.kcap ha.kmax
  have hU' := fun w2 (h : Below w1.heap.size w1 w2) => hU w2 Am At cm ct Ai ci Ak ck w1.heap.size w1 h h.size ha.base.sheet ha.base.ints ha.base.icap ha.base.imax ha.keysAt ha.kcap ha.kmax
  have hA' := fun w2 (h : Below w1.heap.size w1 w2) => hA w2 Am At cm ct Ai ci w1.heap.size w1 h h.size ha.base.sheet ha.base.ints ha.base.icap ha.base.imax
  have hlaw : rb = true → RestLaw made tasks At ct w1 rl sl al := fun h => by
    obtain ⟨tks, all, rfl, hSo, hGo⟩ := hRg h
    have e1 := hSg.is tks rfl hSo hGo.hkeys
    have e2 := hAg.is tks rfl hSo
    exact rest_law hSo hGo e1 e2 ha.base.sheet
  dsimp only at hR10 hRn hA10 hS10
  have hal := below_al (Below.refl w1.heap.size w1) (.cells #[.slice Am made.length cm, .slice At tasks.length ct] 31 (0, 0))
  have htl := Nat.le_trans ha.base.sheet.lt ha.base.sheet.mt
  unfold maxLen at htl
  replace hI := Lib.hid hI'
  replace hS := Lib.hid hS'
  replace hA := Lib.hid hA'
  replace hU := Lib.hid hU'
  replace hlaw := Lib.hid hlaw
  replace hRn := Lib.hid hRn
  replace hal := Lib.hid hal
  replace hb1 := Lib.hid hb1
  clear ha hdr hnod hRg hAg hSg hI' hS' hA' hU'
  go_wp2_with fail
  refine (hI.out _ hal.out).mono ?_
  rintro e w2 ⟨A1, c1, rfl, hl1, hm1, hi1, h2⟩
  dsimp only at hl1 hi1 ⊢
  have x0 : w2.cell? ⟨w1.heap.size, 0, none⟩ = some (.slice Am made.length cm) := (h2.cell (p := ⟨w1.heap.size, 0, none⟩) (by simp)).trans (by simp)
  have x1 : w2.cell? ⟨w1.heap.size, 1, none⟩ = some (.slice At tasks.length ct) := (h2.cell (p := ⟨w1.heap.size, 1, none⟩) (by simp)).trans (by simp)
  have s2 : w1.heap.size < w2.heap.size := by have := h2.size; simp at this; omega
  have b2 : Below w1.heap.size w1 w2 := below_from h2
  replace b2 := Lib.hid b2
  replace hi1 := Lib.hid hi1
  clear h2 hI
  go_wp2_with fail
  refine (hS.out _ b2.out).mono ?_
  rintro e w3 ⟨A2, c2, rfl, hl2, hm2, hi2, h3⟩
  dsimp only at hl2 hi2 ⊢
  have y0 := kept_cell h3 s2 x0
  have y1 := kept_cell h3 s2 x1
  have s3 : w1.heap.size < w3.heap.size := by have := h3.size; omega
  have b3 := b2.out.trans (h3.mono (Nat.le_of_lt s2))
  have hi13 := hi1.out.up h3 h3.size
  have hbr := brInts_calls A1 c1 rl A2 c2 rl w3 hi13 hi2 (by unfold maxLen; omega) (by unfold maxLen; omega)
  rw [decide_eq_true rfl] at hbr
  have hneq : (rb != rb) = false := by cases rb <;> rfl
  replace b3 := Lib.hid b3
  replace hi13 := Lib.hid hi13
  replace hbr := Lib.hid hbr
  clear h3 x0 x1 b2 hi2 hS hi1
  have hm1' := hm1
  unfold maxLen at hm1 hm2
  go_wp2_with fail
  refine hbr.out.mono ?_
  rintro e w4 ⟨rfl, h4⟩
  have z0 := kept_cell h4 s3 y0
  have z1 := kept_cell h4 s3 y1
  have s4 : w1.heap.size < w4.heap.size := by have := h4.size; omega
  have b4 := b3.out.trans (h4.mono b3.out.size)
  have hi14 := hi13.out.up h4 h4.size
  replace b4 := Lib.hid b4
  replace hi14 := Lib.hid hi14
  clear h4 y0 y1 b3 hi13 hbr
  go_wp2_with fail
  refine (hU.out _ b4.out).mono ?_
  rintro e w5 ⟨A5, c5, rfl, -, -, hi5, h5⟩
  dsimp only at hi5 ⊢
  have x0 := kept_cell h5 s4 z0
  have x1 := kept_cell h5 s4 z1
  have s5 : w1.heap.size < w5.heap.size := by have := h5.size; omega
  have b5 := b4.out.trans (h5.mono b4.out.size)
  have hi15 := hi14.out.up h5 h5.size
  replace b5 := Lib.hid b5
  replace hi15 := Lib.hid hi15
  replace hi5 := Lib.hid hi5
  clear h5 z0 z1 b4 hi14 hU
  go_wp2_with fail
  refine (hA.out _ b5.out).mono ?_
  rintro e w7 ⟨A6, c6, rfl, hl6, hm6, hi6, h6⟩
  dsimp only at hl6 hi6 ⊢
  have z0 := kept_cell h6 s5 x0
  have z1 := kept_cell h6 s5 x1
  have b7 := b5.out.trans (h6.mono b5.out.size)
  have s7 : w1.heap.size < w7.heap.size := by have := h6.size; omega
  have hi17 := hi15.out.up h6 h6.size
  have hi57 := hi5.out.up h6 h6.size
  replace b7 := Lib.hid b7
  replace hi17 := Lib.hid hi17
  replace hi57 := Lib.hid hi57
  replace hi6 := Lib.hid hi6
  clear h6 x0 x1 b5 hi15 hA hi5
  cases rb with
  | false =>
    have hrl := hRn.out rfl
    subst hrl
    go_wp2_with fail
    go_loopw [14] (fun i wr => i = .int .i64 0 ∧ wr = w7) (fun _ _ => 0)
    case atStart => exact ⟨rfl, rfl⟩
    case round =>
      obtain ⟨rfl, rfl⟩ := hrel
      go_wp2_with fail
      go_ret
      exact ⟨rfl, hb1.out.trans (b7.out.mono hb1.out.size)⟩
  | true =>
    have hL := hlaw.out (by first | rfl | trivial)
    replace hL := Lib.hid hL
    clear hlaw
    go_wp2_with fail
    go_loopw [14] (fun i wr => ∃ (j : Nat), j ≤ rl.length ∧ i = .int .i64 j ∧ Hid (Below w7.heap.size w7 wr)) (fun i _ => rl.length - (intOf i).toNat)
    case atStart => exact ⟨0, Nat.zero_le _, rfl, Lib.hid (Below.refl _ _)⟩
    case round =>
      obtain ⟨j, hj, rfl, hw⟩ := hrel
      obtain ⟨w9, hw9⟩ : ∃ w9, w9 = wr := ⟨_, rfl⟩
      subst hw9
      have y0 := (hw.out.cell (p := ⟨w1.heap.size, 0, none⟩) s7).trans z0
      have y1 := (hw.out.cell (p := ⟨w1.heap.size, 1, none⟩) s7).trans z1
      by_cases hlt : j < rl.length
      · obtain ⟨q, b, o, A', c', us, hq, hqt, hAt, hbl, T, t0, t1, t2, hpc, hpm, hcall, hu15, hcnt⟩ := hL.out.at j hlt
        subst hAt
        obtain ⟨bx, ox, rfl, hbx, yx⟩ := hi17.out.at hw.out hw.out.size j hlt
        go_wp2_with fail
        go_loopw [15, 16] (fun n k wr2 => ∃ (m c : Nat), m ≤ rl.length ∧ k = .int .i64 m ∧ n = .int .i64 c ∧ c ≤ m ∧ Hid (c = (rl.take m).count rl[j]) ∧ Hid (Below w9.heap.size w9 wr2)) (fun _ k _ => rl.length - (intOf k).toNat)
        case atStart => exact ⟨0, 0, Nat.zero_le _, rfl, rfl, Nat.le_refl _, Lib.hid (by simp), Lib.hid (Below.refl _ _)⟩
        case round =>
          obtain ⟨m, c, hm, rfl, rfl, hcm2, hcc, hw2⟩ := hrel
          have s9 : w1.heap.size < w9.heap.size := by have := hw.out.size; omega
          have hw7' := hw.out.trans (hw2.out.mono hw.out.size)
          have v0 := (hw2.out.cell (p := ⟨w1.heap.size, 0, none⟩) s9).trans y0
          have v1 := (hw2.out.cell (p := ⟨w1.heap.size, 1, none⟩) s9).trans y1
          have vx := (hw2.out.cell (p := ⟨bx, ox + j, none⟩) hbx).trans yx
          replace hw7' := Lib.hid hw7'
          by_cases hlt2 : m < rl.length
          · obtain ⟨bx2, ox2, e2, hbx2, ym⟩ := hi17.out.at hw7'.out hw7'.out.size m hlt2
            cases e2
            have htk := List.take_succ_eq_append_getElem hlt2
            by_cases e : rl[m] = rl[j]
            · have e' : (rl[m] == rl[j]) = true := by simp [e]
              have hcc2 : c + 1 = (rl.take (m + 1)).count rl[j] := by rw [htk, List.count_append, ← hcc.out, List.count_singleton, e']; rfl
              replace e := Lib.hid e
              replace hcc2 := Lib.hid hcc2
              replace htk := Lib.hid htk
              go_wp2_with fail
              go_quiet (fail)
              go_wp2_with fail
              go_roundw
              case rel => exact ⟨m + 1, c + 1, by omega, by go_num, by go_num, by omega, hcc2, Lib.hid (below_drewN hw2.out _)⟩
              case measure => simp [intOf]; omega
            · have e' : (rl[m] == rl[j]) = false := by simp [e]
              have hcc2 : c = (rl.take (m + 1)).count rl[j] := by rw [htk, List.count_append, ← hcc.out, List.count_singleton, e']; rfl
              replace e := Lib.hid e
              replace hcc2 := Lib.hid hcc2
              replace htk := Lib.hid htk
              go_wp2_with fail
              go_quiet (fail)
              go_wp2_with fail
              go_roundw
              case rel => exact ⟨m + 1, c, by omega, by go_num, rfl, by omega, hcc2, Lib.hid (below_drewN hw2.out _)⟩
              case measure => simp [intOf]; omega
          · have hme : m = rl.length := by omega
            subst hme
            have hcc3 : c ≤ us.length + 1 := by rw [hcc.out, List.take_length]; exact hcnt
            have hww : Below w1.heap.size w1 wr := b7.out.trans (hw7'.out.mono b7.out.size)
            have p0 := (hww.cell (p := ⟨b, o + q * 3, none⟩) hbl).trans t0
            have p1 := (hww.cell (p := ⟨b, o + q * 3 + 1, none⟩) hbl).trans t1
            have p2 := (hww.cell (p := ⟨b, o + q * 3 + 2, none⟩) hbl).trans t2
            have hcl := hcall wr.drew A6 c6 hww.drew (hi6.out.up hw7'.out.drew hw7'.out.size)
            have hs0 : w1.heap.size < wr.heap.size := by have := hw2.out.size; omega
            have hbx0 : bx < wr.heap.size := by have := hw2.out.size; omega
            have hbt0 : b < wr.heap.size := by omega
            rw [hq] at vx
            replace hcl := Lib.hid hcl
            replace hww := Lib.hid hww
            replace hq := Lib.hid hq
            clear hcall t0 t1 t2 hcc hcnt
            go_wp2_with fail
            go_region_held3 (fun w' => w'.cell? ⟨w1.heap.size, 1, none⟩ = some (.slice (some ⟨b, o, none⟩) tasks.length ct) ∧ w'.cell? ⟨bx, ox + j, none⟩ = some (.int .i64 (q : Int)) ∧ w'.cell? ⟨b, o + q * 3, none⟩ = some (.int .i64 T.kind) ∧ w'.cell? ⟨b, o + q * 3 + 1, none⟩ = some (.int .i64 T.n) ∧ w'.cell? ⟨b, o + q * 3 + 2, none⟩ = some (.slice A' T.parts.length c')) (first | exact ⟨l1, l2, l3, l4, l5⟩ | exact ⟨v1, vx, p0, p1, p2⟩)
              (first | (go_at_call 32; refine hcl.out.mono ?_; rintro e w10 ⟨v10, rfl, hown10, h10⟩; have l1 := kept_cell h10 hs0 v1; have l2 := kept_cell h10 hbx0 vx; have l3 := kept_cell h10 hbt0 p0; have l4 := kept_cell h10 hbt0 p1; have l5 := kept_cell h10 hbt0 p2))
            all_goals
              obtain ⟨A10, c10, rfl, -, -, -⟩ := ownsRow_ints hown10
              have hw10 := hw7'.out.drew.trans (h10.mono hw7'.out.size)
              replace hw10 := Lib.hid hw10
              clear hown10 h10 l1 l2 l3 l4 l5 v0 v1 vx p0 p1 p2
              go_wp2_with fail
              go_roundw
              case rel => exact ⟨j + 1, by omega, by go_num, hw10⟩
              case measure => simp [intOf]; omega
      · have hba1 := brAll_any A1 c1 rl A5 c5 sl w7.heap.size w7 w9 hw.out hw.out.size hi17.out (by omega) hi57.out (by omega)
        have hba2 := brAll_any A5 c5 sl A1 c1 rl w7.heap.size w7 w9 hw.out hw.out.size hi57.out (by omega) hi17.out (by omega)
        rw [hL.out.fwd] at hba1
        rw [hL.out.bwd] at hba2
        replace hba1 := Lib.hid hba1
        replace hba2 := Lib.hid hba2
        go_wp2_with fail
        refine hba1.out.mono ?_
        rintro e w10 ⟨rfl, rfl⟩
        go_wp2_with fail
        refine hba2.out.mono ?_
        rintro e w10 ⟨rfl, rfl⟩
        go_wp2_with fail
        go_ret
        exact ⟨rfl, hb1.out.trans ((b7.out.trans (hw.out.mono b7.out.size)).mono hb1.out.size)⟩
end Go.Proofs.Ytpccgdkidnkppaa

set_option linter.unusedVariables false
namespace Go.Proofs.Ytpccgdkidnkppaa
open Go Go.RowKit

theorem byte_row {w : World} {x : Addr} {zs : List Int} (len : Nat) (hcell : ∀ i, i < zs.length → w.cell? (x.add i) = some (.int .u8 (zs.getD i 0))) : RowAt (fun b : Int => Value.int .u8 b) w.heap.size w (some x) (zs.take len) := by
  intro i hi
  have hl : i < zs.length := by simp at hi; omega
  obtain ⟨b, off, rfl, h⟩ := ints_at hcell (by omega)
  have h1 := h i hl
  refine ⟨b, off, rfl, ?_, ?_⟩
  · by_cases hb : b < w.heap.size
    · exact hb
    · exfalso
      have h2 : w.heap[b]? = none := by simp; omega
      simp [World.cell?, h2] at h1
  · rw [h1]; simp [hl]
theorem byte_vals {zs : List Int} (len : Nat) (h : ∀ n ∈ zs, (Lit.int .u8 n).wf = true) : ∀ b ∈ zs.take len, 0 ≤ b ∧ b ≤ 255 :=
  fun b hb => bounds_u8 (h b (List.mem_of_mem_take hb))
end Go.Proofs.Ytpccgdkidnkppaa
