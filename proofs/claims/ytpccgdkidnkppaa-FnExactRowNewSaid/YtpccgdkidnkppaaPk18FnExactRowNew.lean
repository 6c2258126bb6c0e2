import Derived.Deep.RegionHeld3
import Derived.Test.YtpccgdkidnkppaaPk11FnExactRowNew
import Derived.Test.YtpccgdkidnkppaaPk15FnExactRowNew
import Derived.Test.YtpccgdkidnkppaaPk17FnExactRowNew
set_option linter.unusedVariables false
set_option linter.unusedSimpArgs false
namespace Go.Proofs.Ytpccgdkidnkppaa
open Go Go.RowKit

theorem Tk.enc_inj : ∀ (a b : Tk), a.enc = b.enc → a = b := by
  intro a
  induction a with
  | num n => intro b h; cases b <;> simp [Tk.enc] at h ⊢; exact h
  | get k => intro b h; cases b <;> simp [Tk.enc] at h ⊢; exact h
  | add x y ihx ihy => intro b h; cases b <;> simp [Tk.enc] at h ⊢; exact ⟨ihx _ h.1, ihy _ h.2⟩
  | mul x y ihx ihy => intro b h; cases b <;> simp [Tk.enc] at h ⊢; exact ⟨ihx _ h.1, ihy _ h.2⟩
  | cond x y z ihx ihy ihz => intro b h; cases b <;> simp [Tk.enc] at h ⊢; exact ⟨ihx _ h.1, ihy _ h.2.1, ihz _ h.2.2⟩
  | ix n x ih => intro b h; cases b <;> simp [Tk.enc] at h ⊢; exact ⟨h.1, ih _ h.2⟩
theorem Tk.map_inj : ∀ (a b : List Tk), a.map Tk.enc = b.map Tk.enc → a = b := by
  intro a
  induction a with
  | nil => intro b h; cases b with | nil => rfl | cons y b => simp at h
  | cons x a ih =>
    intro b h
    cases b with
    | nil => simp at h
    | cons y b =>
      simp only [List.map_cons, List.cons.injEq] at h
      rw [Tk.enc_inj _ _ h.1, ih _ h.2]
theorem allL_len {S : Sh} : ∀ (ks : List Int) (st : MkSt) (out : List Int), (allL S ks st out).1.length ≤ out.length + ks.length := by
  intro ks
  induction ks with
  | nil => intro st out; simp [allL]
  | cons k ks ih =>
    intro st out
    rw [allL]
    split
    · have := ih (keyP S S.made.length st k).2 (out ++ [(keyP S S.made.length st k).1.1])
      simp at this ⊢; omega
    · simp
theorem buildAll_len {S : Sh} (hS : S.Ok) : (buildAllP S).1.length ≤ 10 := by
  have h1 := allL_len (S := S) (keysN S.made.length) st0 []
  rw [keysN_length] at h1
  have := hS.ten
  unfold buildAllP
  simp at h1; omega
/-- the program's OrderSuspend and the reference's, on any sheet, inputs and keys -/
def SuspC (g : Nat) (made : List Bool) (tasks : List Task) (x1 x2 : List Int) (R : List Int × Bool) : Prop :=
  ∀ (w : World) (Am At : Option Addr) (cm ct : Nat) (A1 : Option Addr) (c1 : Nat) (A2 : Option Addr) (c2 : Nat) (B : Nat) (w0 : World), Below B w0 w → B ≤ w.heap.size → SheetAt B w0 Am cm At ct made tasks → IntsAt B w0 A1 x1 → x1.length ≤ c1 → c1 ≤ maxLen → IntsAt B w0 A2 x2 → x2.length ≤ c2 → c2 ≤ maxLen →
    Calls Try.prog g #[.agg #[.slice Am made.length cm, .slice At tasks.length ct], .slice A1 x1.length c1, .slice A2 x2.length c2] w (fun e w' => GivesList R e w w')
def SuspO (g : Nat) (made : List Bool) (tasks : List Task) (x1 x2 : List Int) (R : List Int × Bool) : Prop :=
  ∀ (w : World) (Am At : Option Addr) (cm ct : Nat) (A1 : Option Addr) (c1 : Nat) (A2 : Option Addr) (c2 : Nat) (B : Nat) (w0 : World), Below B w0 w → B ≤ w.heap.size → SheetAt B w0 Am cm At ct made tasks → IntsAt B w0 A1 x1 → x1.length ≤ c1 → c1 ≤ maxLen → IntsAt B w0 A2 x2 → x2.length ≤ c2 → c2 ≤ maxLen →
    Calls Try.prog g #[.agg #[.slice Am made.length cm, .slice At tasks.length ct], .slice A1 x1.length c1, .slice A2 x2.length c2] w (fun e w' => GivesOwn w.heap.size R e w w')
theorem SuspO.list {g : Nat} {made : List Bool} {tasks : List Task} {x1 x2 : List Int} {R : List Int × Bool} (h : SuspO g made tasks x1 x2 R) : SuspC g made tasks x1 x2 R :=
  fun w Am At cm ct A1 c1 A2 c2 B w0 hb hB hs hi hl hc hi2 hl2 hc2 => (h w Am At cm ct A1 c1 A2 c2 B w0 hb hB hs hi hl hc hi2 hl2 hc2).mono fun _ _ h => h.list
/-- what is known of a result: of what it is, and when -/
structure SuspFact (made : List Bool) (tasks : List Task) (x1 x2 : List Int) (R : List Int × Bool) : Prop where
  get : R.2 = true → ∃ tks, tasks = tks.map Tk.enc ∧ Sh.Ok ⟨made, tks, x1⟩ ∧ keysOk made.length x2 = true ∧ R = suspP ⟨made, tks, x1⟩ x2
  is : ∀ tks, tasks = tks.map Tk.enc → Sh.Ok ⟨made, tks, x1⟩ → keysOk made.length x2 = true → R = suspP ⟨made, tks, x1⟩ x2
structure AllFact (made : List Bool) (tasks : List Task) (x1 : List Int) (R : List Int × Bool) : Prop where
  get : R.2 = true → ∃ tks, tasks = tks.map Tk.enc ∧ Sh.Ok ⟨made, tks, x1⟩ ∧ R = buildAllP ⟨made, tks, x1⟩
  is : ∀ tks, tasks = tks.map Tk.enc → Sh.Ok ⟨made, tks, x1⟩ → R = buildAllP ⟨made, tks, x1⟩
theorem Sh.Ok.takes {made : List Bool} {tks : List Tk} {x1 : List Int} (h : Sh.Ok ⟨made, tks, x1⟩) : takesOk made.length x1 = true := by
  have h1 := h.ins
  have h2 := h.vals
  simp only at h1 h2
  simp [takesOk, h1, vals_iff.2 h2]
theorem susp_any (made : List Bool) (tasks : List Task) (x1 x2 : List Int) (hnod : ∀ T ∈ tasks, nodes T ≤ 1000000000) (hml : (made.length : Int) ≤ 9223372036854775807) :
    ∃ R : List Int × Bool, R.1.length ≤ 10 ∧ SuspFact made tasks x1 x2 R ∧
      SuspC 25 made tasks x1 x2 R ∧ SuspO 26 made tasks x1 x2 R := by
  by_cases hgood : sheetOk made tasks = true ∧ takesOk made.length x1 = true ∧ keysOk made.length x2 = true
  · obtain ⟨h1, h2, h3⟩ := hgood
    obtain ⟨tks, rfl, hS⟩ := ok_sh h1 h2
    refine ⟨suspP ⟨made, tks, x1⟩ x2, suspL_length hS x2 st0 (inv0 _), ⟨fun _ => ⟨tks, rfl, hS, h3, rfl⟩, fun tks2 he _ _ => by rw [Tk.map_inj _ _ he]⟩, fun w Am At cm ct A1 c1 A2 c2 B w0 hb hB hs hi hl hc hi2 hl2 hc2 => ?_, fun w Am At cm ct A1 c1 A2 c2 B w0 hb hB hs hi hl hc hi2 hl2 hc2 => ?_⟩
    · have := orderSuspend_good ⟨Am, cm, At, ct, A1, c1, B, w0⟩ ⟨made, tks, x1⟩ ⟨hs, hi, hl, hc, hS⟩ A2 c2 x2 w hb hB h3 hi2 (Nat.le_trans hl2 hc2)
      simp only [List.length_map]
      exact this.mono fun _ _ h => h.list
    · have := specOrderSuspend_good ⟨Am, cm, At, ct, A1, c1, B, w0⟩ ⟨made, tks, x1⟩ ⟨hs, hi, hl, hc, hS⟩ hnod A2 c2 x2 w hb hB h3 hi2 (Nat.le_trans hl2 hc2)
      simp only [List.length_map]
      exact this
  · refine ⟨([], false), by simp, ⟨fun h => (by cases h), fun tks he hS hk => (hgood ⟨by rw [he]; exact hS.sheet, hS.takes, hk⟩).elim⟩, fun w Am At cm ct A1 c1 A2 c2 B w0 hb hB hs hi hl hc hi2 hl2 hc2 => ?_, fun w Am At cm ct A1 c1 A2 c2 B w0 hb hB hs hi hl hc hi2 hl2 hc2 => ?_⟩
    · refine (orderSuspend_bad Am At A1 A2 cm ct c1 c2 made tasks x1 x2 B w0 w hs hi (Nat.le_trans hl hc) hi2 (Nat.le_trans hl2 hc2) hb hB (fun a b => ?_)).mono ?_
      · cases h : keysOk made.length x2 with
        | false => rfl
        | true => exact (hgood ⟨a, b, h⟩).elim
      · rintro e w' ⟨rfl, hb⟩
        exact ⟨none, 0, rfl, Nat.le_refl _, by simp [maxLen], RowAt.nil _ _ _ _, hb⟩
    · refine (specOrderSuspend_bad Am At A1 A2 cm ct c1 c2 made tasks x1 x2 B w0 w hs hnod hml hi (Nat.le_trans hl hc) hi2 (Nat.le_trans hl2 hc2) hb hB (fun a => ?_))
      unfold inputsOk at a
      rw [Bool.and_eq_true] at a
      cases h : keysOk made.length x2 with
      | false => rfl
      | true => exact (hgood ⟨a.1, a.2, h⟩).elim

/-- a call of BuildAll, OrderTopo, OrderFits -/
def AllC (g : Nat) (made : List Bool) (tasks : List Task) (x1 : List Int) (R : List Int × Bool) : Prop :=
  ∀ (w : World) (Am At : Option Addr) (cm ct : Nat) (A1 : Option Addr) (c1 : Nat) (B : Nat) (w0 : World), Below B w0 w → B ≤ w.heap.size → SheetAt B w0 Am cm At ct made tasks → IntsAt B w0 A1 x1 → x1.length ≤ c1 → c1 ≤ maxLen →
    Calls Try.prog g #[.agg #[.slice Am made.length cm, .slice At tasks.length ct], .slice A1 x1.length c1] w (fun e w' => GivesList R e w w')
theorem GivesRow.list {r : List Int × Bool} {e : Ending} {w w' : World} (h : GivesRow r e w w') : GivesList r e w w' := GivesOwn.list (B := w.heap.size) h
theorem all_any (made : List Bool) (tasks : List Task) (x1 : List Int) :
    ∃ R : List Int × Bool, R.1.length ≤ 10 ∧ AllFact made tasks x1 R ∧ AllC 27 made tasks x1 R := by
  by_cases hgood : sheetOk made tasks = true ∧ takesOk made.length x1 = true
  · obtain ⟨h1, h2⟩ := hgood
    obtain ⟨tks, rfl, hS⟩ := ok_sh h1 h2
    refine ⟨buildAllP ⟨made, tks, x1⟩, ?_, ⟨fun _ => ⟨tks, rfl, hS, rfl⟩, fun tks2 he _ => by rw [Tk.map_inj _ _ he]⟩, fun w Am At cm ct A1 c1 B w0 hb hB hs hi hl hc => ?_⟩
    · exact buildAll_len hS
    · have := buildAll_good ⟨Am, cm, At, ct, A1, c1, B, w0⟩ ⟨made, tks, x1⟩ ⟨hs, hi, hl, hc, hS⟩ w hb hB
      simp only [List.length_map]
      exact this.mono fun _ _ h => h.list
  · have hbad : sheetOk made tasks = true → takesOk made.length x1 = false := fun a => by
      cases h : takesOk made.length x1 with
      | false => rfl
      | true => exact (hgood ⟨a, h⟩).elim
    refine ⟨([], false), by simp, ⟨fun h => (by cases h), fun tks he hS => (hgood ⟨by rw [he]; exact hS.sheet, hS.takes⟩).elim⟩, fun w Am At cm ct A1 c1 B w0 hb hB hs hi hl hc => ?_⟩
    refine (buildAll_bad Am At A1 cm ct c1 made tasks x1 B w0 w hs hi (Nat.le_trans hl hc) hb hB hbad).mono ?_
    rintro e w' ⟨rfl, hb⟩
    exact ⟨none, 0, rfl, Nat.le_refl _, by simp [maxLen], RowAt.nil _ _ _ _, hb⟩
theorem topo_any (made : List Bool) (tasks : List Task) (keys : List Int) (hkl : keys.length ≤ maxLen) :
    ∃ R : List Int × Bool, R.1.length ≤ 10 ∧ (R.2 = true → safeP made tasks = true ∧ ∀ k, k ∈ R.1 ↔ Reach (mkK made) (mayS made tasks) keys k) ∧ AllC 21 made tasks keys R := by
  by_cases hgood : safeP made tasks = true ∧ keysOk made.length keys = true
  · obtain ⟨hsafe, hko⟩ := hgood
    let X0 : Int → Bool := fun k => @decide (Reach (mkK made) (mayS made tasks) keys k) (Classical.propDecidable _)
    have hX0 : ∀ k, X0 k = true ↔ Reach (mkK made) (mayS made tasks) keys k := fun k => by
      show @decide _ (Classical.propDecidable _) = true ↔ _
      exact @decide_eq_true_iff _ (Classical.propDecidable _)
    have hsame : ∀ X : Int → Bool, (∀ k, X k = true ↔ Reach (mkK made) (mayS made tasks) keys k) → X = X0 := fun X hX => funext fun k => Bool.eq_iff_iff.2 ((hX k).trans (hX0 k).symm)
    obtain ⟨t1, t2, t3⟩ := safe_topo hsafe hX0
    have hok : sheetOk made tasks = true := by unfold safeP at hsafe; rw [Bool.and_eq_true] at hsafe; exact hsafe.1
    simp only [sheetOk, Bool.and_eq_true, decide_eq_true_eq] at hok
    have hten : made.length ≤ 10 := hok.1.2
    refine ⟨topoP X0 (mayS made tasks) made.length (cntN X0 made.length) [], by rw [t3]; exact Nat.le_trans (cntN_le _ _) hten, fun _ => ⟨hsafe, fun k => ⟨fun hk => (hX0 k).1 (t2.sub k hk).2.2, fun hk => ?_⟩⟩, fun w Am At cm ct A1 c1 B w0 hb hB hs hi hl hc => ?_⟩
    · have hr := mkK_range (show mkK made k ≠ false by rw [hk.isMade]; simp)
      obtain ⟨q, rfl⟩ := Int.eq_ofNat_of_zero_le hr.1
      exact (sub_cnt t2.nodup t2.sub).2 t3 q (by omega) ((hX0 _).2 hk)
    · refine (orderTopo_good Am At A1 cm ct c1 made tasks keys B w0 w hb hB hs hsafe hi hkl hko).mono ?_
      rintro e w' ⟨X, hX, h⟩
      rw [hsame X hX] at h; exact h.list
  · have hbad : safeP made tasks = true → keysOk made.length keys = false := fun a => by
      cases h : keysOk made.length keys with
      | false => rfl
      | true => exact (hgood ⟨a, h⟩).elim
    refine ⟨([], false), by simp, fun h => (by cases h), fun w Am At cm ct A1 c1 B w0 hb hB hs hi hl hc => ?_⟩
    refine (orderTopo_bad Am At A1 cm ct c1 made tasks keys B w0 w hb hB hs hi hkl hbad).mono ?_
    rintro e w' ⟨rfl, hb⟩
    exact ⟨none, 0, rfl, Nat.le_refl _, by simp [maxLen], RowAt.nil _ _ _ _, hb⟩
def FitsC (g : Nat) (made : List Bool) (tasks : List Task) (x1 x2 : List Int) (r : Bool) : Prop :=
  ∀ (w : World) (Am At : Option Addr) (cm ct : Nat) (A1 : Option Addr) (c1 : Nat) (A2 : Option Addr) (c2 : Nat) (B : Nat) (w0 : World), Below B w0 w → B ≤ w.heap.size → SheetAt B w0 Am cm At ct made tasks → IntsAt B w0 A1 x1 → x1.length ≤ c1 → c1 ≤ maxLen → IntsAt B w0 A2 x2 → x2.length ≤ c2 → c2 ≤ maxLen →
    Calls Try.prog g #[.agg #[.slice Am made.length cm, .slice At tasks.length ct], .slice A1 x1.length c1, .slice A2 x2.length c2] w (fun e w' => e = .returned (.bool r) ∧ Below w.heap.size w w')
theorem fits_any {made : List Bool} {tks : List Tk} {x1 : List Int} (hS : Sh.Ok ⟨made, tks, x1⟩) (x2 : List Int) :
    FitsC 16 made (tks.map Tk.enc) x1 x2 (orderFitsP ⟨made, tks, x1⟩ x2) := by
  intro w Am At cm ct A1 c1 A2 c2 B w0 hb hB hs hi hl hc hi2 hl2 hc2
  have := orderFits_good ⟨Am, cm, At, ct, A1, c1, B, w0⟩ ⟨made, tks, x1⟩ ⟨hs, hi, hl, hc, hS⟩ A2 c2 x2 w hb hB hi2 hl2 hc2
  simp only [List.length_map]
  exact this
end Go.Proofs.Ytpccgdkidnkppaa

set_option linter.unusedVariables false
set_option linter.unusedSimpArgs false
namespace Go.Proofs.Ytpccgdkidnkppaa
open Go Go.RowKit

set_option maxHeartbeats 4000000 in
theorem l91Keys_calls (R : RdEnv) (hR : R.Good) (p : Nat) (hp : p + 100 ≤ 1000000) (Am At : Option Addr) (nm cm nt ct : Nat) (w : World) (h : RdAt R p w) (hn : nm ≤ 20) :
    Calls Try.prog 69 #[.pointer (some ⟨R.g, 0, none⟩), .agg #[.slice Am nm cm, .slice At nt ct]] w (DrawIn R p 100 4 w) := by
  have hs : InSt R w (.slice Am nm cm) (.slice At nt ct) p [] (.slice (some ⟨w.heap.size + 1, 0, none⟩) 0 0) ((w.alloc (.cells #[.slice Am nm cm, .slice At nt ct] 31 (0, 0))).alloc (.cells #[] 3 (0, 0))) :=
    ⟨h.up (below_al (below_al (Below.refl _ _) _) _), ((Turn.refl _ _).alloc _).alloc _, by simpa [ints] using World.ownsRow_made (base := w.heap.size) (w.alloc (.cells #[.slice Am nm cm, .slice At nt ct] 31 (0, 0))) #[] 0 (by simp) (by simp [maxLen]) rfl, (heap_old (by simp)).trans (heap_new rfl), block_lt h.blk, h.size⟩
  have h1 := pick_calls R hR p (by omega) 3 _ hs.rd
  replace h1 := Lib.hid h1
  replace hs := Lib.hid hs
  clear h
  go_enter Try.func69, Try.ntmps69
  go_wp2_with fail
  refine h1.out.mono ?_
  rintro e w1 ⟨k, rfl, hk0, hk1, hr, ht⟩
  obtain ⟨q, rfl⟩ := Int.eq_ofNat_of_zero_le hk0
  have hq3 : q < 3 := by omega
  have hs1 := hs.out.step hr ht
  replace hs1 := Lib.hid hs1
  clear h1 hs hr ht hk1 hk0
  go_wp2_with fail
  go_loopw [5, 6] (fun o i wr => ∃ (t : Nat) (xs : List Int) (p2 : Nat), t ≤ 3 ∧ xs.length + t ≤ 3 ∧ p2 + t ≤ p + 4 ∧ p ≤ p2 ∧ i = .int .i64 t ∧ Hid (InSt R w (.slice Am nm cm) (.slice At nt ct) p2 xs o wr)) (fun _ i _ => (intOf i).toNat)
  case atStart => exact ⟨1 + q, [], p + 1, by omega, by simp; omega, by omega, by omega, by go_num, hs1⟩
  case round =>
    obtain ⟨t, xs, p2, ht3, hlen, hp2, hpp, rfl, hL⟩ := hrel
    have b0 : wr.cell? ⟨w.heap.size, 0, none⟩ = some (.slice Am nm cm) := cellm hL.out.box 0
    have hz := block_lt hL.out.box
    by_cases hgo : 0 < t ∧ 0 < nm
    · obtain ⟨ht0, hnm0⟩ := hgo
      have hc := pick_calls R hR p2 (by omega) nm wr.drew (hL.out.rd.up (Below.refl _ _).drew)
      have hwz := hL.out.turn.size
      replace hc := Lib.hid hc
      go_wp2_with fail
      go_region_held3 (fun w' => w'.cell? ⟨w.heap.size, 0, none⟩ = some (.slice Am nm cm)) (first | exact k4 | exact k0 | exact (cell_al hz2).trans k0 | exact b0)
        (first
          | ((with_reducible refine step_app1 (by rfl) (.tmp 21) (.tmp 33) 26 (by rfl) intTy w.heap.size u5 xs.length (ints xs) (by with_unfolding_all rfl) (hL2.out.own.alloc _) w2.heap.size 1 [.int .i64 _] (by with_unfolding_all rfl) (by with_unfolding_all rfl) ⟨_, _, heap_alloc_new w2 _, rfl⟩ (one_int _ _) ?_ ?_ ?_ ?_); (unfold maxLen; omega); (omega); (simp; omega); intro g cap w4 hown hgrow hat; have k4 : w4.cell? ⟨w.heap.size, 0, none⟩ = some (.slice Am nm cm) := cellm (hL2.out.app hgrow hown (v' := .slice (some ⟨g, 0, none⟩) (xs.length + 1) cap)).box 0)
          | (go_at_call 70; refine hc.out.mono ?_; rintro e w2 ⟨x, rfl, hx0, hx1, hr2, ht2⟩; have hL2 := (hL.out.step (hL.out.rd.up (Below.refl _ _).drew) (Turn.refl _ _).drew).step hr2 ht2; have k0 : w2.cell? ⟨w.heap.size, 0, none⟩ = some (.slice Am nm cm) := cellm hL2.box 0; have hwz2 := hL2.turn.size; have hz2 := block_lt hL2.box; replace hL2 := Lib.hid hL2))
      all_goals
        have hL4 := hL2.out.app (v' := .slice (some ⟨g, 0, none⟩) (xs.length + 1) cap) hgrow hown
        replace hL4 := Lib.hid hL4
        clear hown hgrow hat hL hL2 k0 k4 b0
        go_wp2_with fail
        go_roundw
        case rel => exact ⟨t - 1, _, p2 + 1, by omega, by simp; omega, by omega, by omega, by go_num, hL4⟩
        case measure => simp [intOf]; omega
    · have hc := pick_calls R hR p2 (by omega) 25 wr hL.out.rd
      replace hc := Lib.hid hc
      have hcase : (¬ 0 < t) ∨ (0 < t ∧ ¬ 0 < nm) := by
        by_cases h : 0 < t
        · exact .inr ⟨h, fun h2 => hgo ⟨h, h2⟩⟩
        · exact .inl h
      clear hgo
      rcases hcase with hq1 | ⟨hq1, hq2⟩
      all_goals
        go_wp2_with fail
        refine hc.out.mono ?_
        rintro e w2 ⟨x, rfl, hx0, hx1, hr2, ht2⟩
        have hL2 := hL.out.step hr2 ht2
        have hwz2 := hL2.turn.size
        clear hc hr2 ht2 hL b0 hz
        replace hL2 := Lib.hid hL2
        by_cases hx : x = 0
        · subst hx
          have hL3 := hL2.out.alloc (.cells #[.int .i64 (-1), .int .i64 10, .int .i64 9] 3 (0, 0))
          have hnum := l91Num_calls R hR (p2 + 1) (by omega) w2.heap.size 3 [-1, 10, 9] _ hL3.rd (by simp) (by simp) (by omega) (by simp) (by have h1 := hL2.out.glt; have h2 := hL2.out.turn.size; omega)
            (by intro i hi; rw [cellm (heap_new rfl) i]; rcases (show i = 0 ∨ i = 1 ∨ i = 2 by simp at hi; omega) with rfl | rfl | rfl <;> rfl)
          replace hL3 := Lib.hid hL3
          replace hnum := Lib.hid hnum
          clear hL2
          go_wp2_with fail
          refine hnum.out.mono ?_
          rintro e w3 ⟨x3, rfl, _, hr3, ht3⟩
          have hL4 := hL3.out.step hr3 ht3
          replace hL4 := Lib.hid hL4
          clear hL3 hnum hr3 ht3
          go_wp2_with (at_builtin; go_loud (with_reducible refine wpList_app1 (by rfl) (.tmp 38) (.tmp 42) 26 (by rfl) intTy w.heap.size u5 xs.length (ints xs) (by with_unfolding_all rfl) (hL4.out.own.alloc _) w3.heap.size 1 [.int .i64 x3] (by with_unfolding_all rfl) (by with_unfolding_all rfl) ⟨_, _, heap_alloc_new w3 _, rfl⟩ (one_int _ _) ?_ ?_ ?_ ?_))
          · unfold maxLen; omega
          · omega
          · have := hL4.out.turn.size; simp; omega
          intro g cap w4 hown hgrow hat
          have hL5 := hL4.out.app (x := x3) (v' := .slice (some ⟨g, 0, none⟩) (xs.length + 1) cap) hgrow hown
          replace hL5 := Lib.hid hL5
          clear hown hgrow hat hL4
          go_wp2_with fail
          go_ret
          exact ⟨p2 + 1 + 1, xs ++ [x3], _, rfl, by simp; omega, by omega, by omega, hL5.out.rd, hL5.out.turn, hL5.out.own⟩
        · have hx' : (x == 0) = false := by simp [hx]
          go_wp2_with fail
          go_ret
          exact ⟨p2 + 1, xs, u5, rfl, by omega, by omega, by omega, hL2.out.rd, hL2.out.turn, hL2.out.own⟩
end Go.Proofs.Ytpccgdkidnkppaa

set_option linter.unusedVariables false
set_option linter.unusedSimpArgs false
namespace Go.Proofs.Ytpccgdkidnkppaa
open Go Go.RowKit

/-! a world without its blocks below lo: what is read there lies in blocks from lo on -/
def mask (lo : Nat) (w : World) : World := { w with heap := w.heap.mapIdx fun i o => if i < lo then .map #[] 0 else o }
@[simp] theorem mask_size (lo : Nat) (w : World) : (mask lo w).heap.size = w.heap.size := by simp [mask]
theorem mask_heap (lo : Nat) (w : World) (i : Nat) : (mask lo w).heap[i]? = w.heap[i]?.map fun o => if i < lo then .map #[] 0 else o := by
  simp [mask, Array.getElem?_mapIdx]
theorem mask_hi {lo i : Nat} (w : World) (h : lo ≤ i) : (mask lo w).heap[i]? = w.heap[i]? := by
  rw [mask_heap]
  cases e : w.heap[i]? with
  | none => rfl
  | some o => simp [show ¬ i < lo by omega]
theorem mask_cell {lo : Nat} {w : World} {b o : Nat} {v : Value} (h : (mask lo w).cell? ⟨b, o, none⟩ = some v) : w.cell? ⟨b, o, none⟩ = some v := by
  by_cases hb : b < lo
  · unfold World.cell? at h
    rw [mask_heap] at h
    cases e : w.heap[b]? with
    | none => simp [e] at h
    | some ob => simp [e, hb] at h
  · exact (World.cell?_of_block (w := w) (mask_hi (lo := lo) (i := b) w (by omega))).symm.trans h
theorem mask_below {lo B : Nat} {w w' : World} (ho : w'.os = w.os) (ht : w'.tape = w.tape) (hp : w'.output = w.output) (hs : w.heap.size ≤ w'.heap.size) (hB : B ≤ w.heap.size) (h : ∀ i, lo ≤ i → i < B → w'.heap[i]? = w.heap[i]?) : Below B (mask lo w) (mask lo w') := by
  refine ⟨ho, ht, hp, by simpa using hs, fun k hk => ?_⟩
  by_cases e : k < lo
  · rw [mask_heap, mask_heap]
    have h1 : k < w.heap.size := by omega
    have h2 : k < w'.heap.size := by omega
    rw [Array.getElem?_eq_getElem h1, Array.getElem?_eq_getElem h2]
    simp [e]
  · rw [mask_hi _ (by omega), mask_hi _ (by omega)]
    exact h k (by omega) hk
theorem mask_turn {F F' : Nat → Prop} {lo : Nat} {w w' : World} (t : Turn F F' w w') (hF : ∀ i, F i → i < lo) : Below w.heap.size (mask lo w) (mask lo w') :=
  mask_below t.os t.tape t.output t.size (Nat.le_refl _) fun i hi hs => t.block i hs fun hf => by have := hF i hf; omega
theorem mask_up {lo : Nat} {w w' : World} (t : Below w.heap.size w w') : Below w.heap.size (mask lo w) (mask lo w') :=
  mask_below t.os t.tape t.output t.size (Nat.le_refl _) fun i hi hs => t.block i hs
theorem mask_set {lo b : Nat} (w : World) (h : b < lo) (o : Nat) (v : Value) : Below w.heap.size (mask lo w) (mask lo (w.setCell ⟨b, o, none⟩ v)) :=
  mask_below rfl rfl rfl (by simp) (Nat.le_refl _) fun i hi hs => setCell_far (by omega)
theorem mask_less {lo lo' : Nat} (w : World) (h : lo' ≤ lo) {b o : Nat} {v : Value} (hc : (mask lo w).cell? ⟨b, o, none⟩ = some v) : (mask lo' w).cell? ⟨b, o, none⟩ = some v := by
  by_cases hb : b < lo
  · unfold World.cell? at hc
    rw [mask_heap] at hc
    cases e : w.heap[b]? with
    | none => simp [e] at hc
    | some ob => simp [e, hb] at hc
  · rw [World.cell?_of_block (w := w) (mask_hi (lo := lo') (i := b) w (by omega))]
    exact mask_cell hc

theorem RowAt.imp {α : Type} {f : α → Value} {B B' : Nat} {w w' : World} {A : Option Addr} {xs : List α} (h : RowAt f B w A xs) (hB : B ≤ B') (hw : ∀ b o v, b < B → w.cell? ⟨b, o, none⟩ = some v → w'.cell? ⟨b, o, none⟩ = some v) : RowAt f B' w' A xs := by
  intro i hi
  obtain ⟨b, o, e, hlt, hc⟩ := h i hi
  exact ⟨b, o, e, by omega, hw _ _ _ hlt hc⟩
mutual
theorem TaskIs.imp {B B' : Nat} {w0 w : World} (hB : B ≤ B') (hw : ∀ b o v, b < B → w0.cell? ⟨b, o, none⟩ = some v → w.cell? ⟨b, o, none⟩ = some v) : ∀ (t : Task) (v : Value), TaskIs B w0 v t → TaskIs B' w v t
  | .mk k n ps, v, h => by
    rw [TaskIs] at h ⊢
    obtain ⟨A, c, e, hc, hm, hp⟩ := h
    exact ⟨A, c, e, hc, hm, PartsIs.imp hB hw ps A 0 hp⟩
theorem PartsIs.imp {B B' : Nat} {w0 w : World} (hB : B ≤ B') (hw : ∀ b o v, b < B → w0.cell? ⟨b, o, none⟩ = some v → w.cell? ⟨b, o, none⟩ = some v) : ∀ (ps : List Task) (A : Option Addr) (i : Nat), PartsIs B w0 A i ps → PartsIs B' w A i ps
  | [], A, i, _ => by rw [PartsIs]; trivial
  | t :: ts, A, i, h => by
    rw [PartsIs] at h ⊢
    obtain ⟨⟨b, o, x, y, z, e, hlt, hx, hy, hz, ht⟩, hts⟩ := h
    exact ⟨⟨b, o, x, y, z, e, by omega, hw _ _ _ hlt hx, hw _ _ _ hlt hy, hw _ _ _ hlt hz, TaskIs.imp hB hw t _ ht⟩, PartsIs.imp hB hw ts A (i + 1) hts⟩
end
theorem SheetAt.imp {B B' : Nat} {w w' : World} {Am At : Option Addr} {cm ct : Nat} {made : List Bool} {tasks : List Task} (h : SheetAt B w Am cm At ct made tasks) (hB : B ≤ B') (hw : ∀ b o v, b < B → w.cell? ⟨b, o, none⟩ = some v → w'.cell? ⟨b, o, none⟩ = some v) : SheetAt B' w' Am cm At ct made tasks :=
  ⟨h.lm, h.mm, h.lt, h.mt, h.made.imp hB hw, PartsIs.imp hB hw _ _ _ h.tasks⟩
theorem SheetAt.up {B B' : Nat} {w w' : World} {Am At : Option Addr} {cm ct : Nat} {made : List Bool} {tasks : List Task} (h : SheetAt B w Am cm At ct made tasks) (hb : Below B w w') (hB : B ≤ B') : SheetAt B' w' Am cm At ct made tasks :=
  h.imp hB fun b o v hlt hc => (hb.cell (p := ⟨b, o, none⟩) hlt).trans hc
theorem SheetAt.unmask {lo B : Nat} {w : World} {Am At : Option Addr} {cm ct : Nat} {made : List Bool} {tasks : List Task} (h : SheetAt B (mask lo w) Am cm At ct made tasks) : SheetAt B w Am cm At ct made tasks :=
  h.imp (Nat.le_refl _) fun b o v _ hc => mask_cell hc
theorem RowAt.unmask {α : Type} {f : α → Value} {lo B : Nat} {w : World} {A : Option Addr} {xs : List α} (h : RowAt f B (mask lo w) A xs) : RowAt f B w A xs := h.imp (Nat.le_refl _) fun b o v _ hc => mask_cell hc

section
variable {g B lo : Nat} {G : Rows} {made : List Bool} {ts : List (Value × Value × Value)} {vm vt : Value} {w : World}
theorem Sht.mask (h : Sht g B lo G made ts vm vt w) : Sht g B lo G made ts vm vt (mask lo w) :=
  ⟨ownsRow_block h.om (fun i hi => mask_hi w (h.om.lt i hi).1), ownsRow_block h.ot (fun i hi => mask_hi w (h.ot.lt i hi).1),
   fun b r m hb => by
     obtain ⟨h1, h2, cs, h3, h4⟩ := h.ty b r m hb
     exact ⟨h1, h2, cs, (mask_hi w (h.new b _ hb)).trans h3, h4⟩,
   h.tv, h.sep, h.new, h.glo⟩
/-- a drawn sheet, read in blocks from lo on -/
theorem Sht.readsM (h : Sht g B lo G made ts vm vt w) : ∃ Am cm At ct tasks, vm = .slice Am made.length cm ∧ vt = .slice At tasks.length ct ∧ tasks.length = ts.length ∧ SheetAt w.heap.size (Go.Proofs.Ytpccgdkidnkppaa.mask lo w) Am cm At ct made tasks ∧ ∀ T ∈ tasks, nodes T ≤ 13 := by
  obtain ⟨Am, cm, At, ct, tasks, h1, h2, h3, h4, h5⟩ := h.mask.reads
  exact ⟨Am, cm, At, ct, tasks, h1, h2, h3, by simpa using h4, fun T hT => by have := h5 T hT; simpa [nb] using this⟩
end
theorem rowM {w : World} {base lo : Nat} {e : TypeId} {v : Value} {xs : List Int} (h : w.ownsRow base e 1 v xs.length (ints xs)) (hl : lo ≤ base) : ∃ A c, v = .slice A xs.length c ∧ xs.length ≤ c ∧ c ≤ maxLen ∧ IntsAt w.heap.size (mask lo w) A xs := by
  obtain ⟨A, c, h1, h2, h3, h4⟩ := ownsRow_ints (ownsRow_block (w' := mask lo w) h (fun i hi => mask_hi w (by have := (h.lt i hi).1; omega)))
  exact ⟨A, c, h1, h2, h3, by simpa using h4⟩

theorem SheetAt.grow {B B' : Nat} {w : World} {Am At : Option Addr} {cm ct : Nat} {made : List Bool} {tasks : List Task} (h : SheetAt B w Am cm At ct made tasks) (hB : B ≤ B') : SheetAt B' w Am cm At ct made tasks := h.up (Below.refl _ _) hB
theorem RowAt.grow {α : Type} {f : α → Value} {B B' : Nat} {w : World} {A : Option Addr} {xs : List α} (h : RowAt f B w A xs) (hB : B ≤ B') : RowAt f B' w A xs := h.up (Below.refl _ _) hB
/-! what draws of a sheet and rows of numbers bring -/
structure Args2 (w : World) (Am : Option Addr) (cm : Nat) (At : Option Addr) (ct : Nat) (made : List Bool) (tasks : List Task) (Ai : Option Addr) (ci : Nat) (inputs : List Int) (Ak : Option Addr) (ck : Nat) (keys : List Int) : Prop where
  base : ArgsAt w Am cm At ct made tasks Ai ci inputs
  keysAt : IntsAt w.heap.size w Ak keys
  klen : keys.length ≤ 10
  kcap : keys.length ≤ ck
  kmax : ck ≤ maxLen
def DrawTwoP (w : World) (e : Ending) (w' : World) : Prop :=
  ∃ Am cm At ct made tasks Ai ci inputs Ak ck keys, e = .returned (.tuple #[.agg #[.slice Am made.length cm, .slice At tasks.length ct], .slice Ai inputs.length ci, .slice Ak keys.length ck]) ∧ Args2 w' Am cm At ct made tasks Ai ci inputs Ak ck keys ∧ Below w.heap.size w w'
theorem drawTwo_done {lo : Nat} {w w4 : World} {Am At Ai Ak : Option Addr} {cm ct ci ck : Nat} {made : List Bool} {tasks : List Task} {xs ks : List Int} (hlo : w.heap.size < lo) (hS : SheetAt w4.heap.size (mask lo w4) Am cm At ct made tasks) (hI : IntsAt w4.heap.size (mask lo w4) Ai xs) (hK : IntsAt w4.heap.size (mask lo w4) Ak ks)
    (h1 : tasks.length = made.length) (h2 : made.length ≤ 8) (h3 : ∀ T ∈ tasks, nodes T ≤ 13) (h4 : xs.length ≤ 9) (h5 : xs.length ≤ ci) (h6 : ci ≤ maxLen) (h7 : ks.length ≤ 10) (h8 : ks.length ≤ ck) (h9 : ck ≤ maxLen) (hb : Below w.heap.size w w4) (x y : Value) :
    DrawTwoP w (.returned (.tuple #[.agg #[.slice Am made.length cm, .slice At tasks.length ct], .slice Ai xs.length ci, .slice Ak ks.length ck])) ((w4.setCell ⟨w.heap.size, 0, none⟩ x).setCell ⟨w.heap.size, 1, none⟩ y) := by
  have hm := (mask_set w4 hlo 0 x).trans ((mask_set (w4.setCell ⟨w.heap.size, 0, none⟩ x) hlo 1 y).mono (by simp))
  have hz : w4.heap.size ≤ ((w4.setCell ⟨w.heap.size, 0, none⟩ x).setCell ⟨w.heap.size, 1, none⟩ y).heap.size := by simp
  exact ⟨Am, cm, At, ct, made, tasks, Ai, ci, xs, Ak, ck, ks, rfl, ⟨⟨(hS.up hm hz).unmask, (hI.up hm hz).unmask, h1, h2, h3, h4, h5, h6⟩, (hK.up hm hz).unmask, h7, h8, h9⟩,
    (hb.setCell (p := ⟨w.heap.size, 0, none⟩) (Nat.le_refl _) x).setCell (p := ⟨w.heap.size, 1, none⟩) (Nat.le_refl _) y⟩
end Go.Proofs.Ytpccgdkidnkppaa

set_option linter.unusedVariables false
set_option linter.unusedSimpArgs false
namespace Go.Proofs.Ytpccgdkidnkppaa
open Go Go.RowKit

theorem rowTy : ElemTy Try.prog 52 26 (.slice none 0 0) 1 24 := ⟨Try.underlying52, by kernel_rfl, rfl, by omega⟩
theorem ownsRow_base {w : World} {base base2 : Nat} {e : TypeId} {size : Nat} {v : Value} {n : Nat} {xs : List Value} (h : w.ownsRow base2 e size v n xs) (hb : base ≤ base2) : w.ownsRow base e size v n xs := by
  refine ⟨h.1, ?_⟩
  rcases h.2 with hn | ⟨g, cap, cur, e1, hg, rest⟩
  · exact .inl hn
  · exact .inr ⟨g, cap, cur, e1, Nat.le_trans hb hg, rest⟩
/-- a row of rows of numbers, each in a block of its own -/
structure OwnRR (base H : Nat) (w : World) (v : Value) (vs : List Value) (ll : List (List Int)) : Prop where
  out : w.ownsRow base 26 1 v ll.length vs
  inn : ∀ i (h : i < vs.length) (h2 : i < ll.length), w.ownsRow base 3 1 vs[i] ll[i].length (ints ll[i])
  apart : ∀ i j (hi : i < vs.length) (hj : j < vs.length) (g : Nat), vs[i].ownBlock = some g → vs[j].ownBlock = some g → i = j
  sep : ∀ u ∈ vs, ∀ g : Nat, u.ownBlock = some g → v.ownBlock ≠ some g
  lt : ∀ u ∈ vs, ∀ g : Nat, u.ownBlock = some g → g < H
  vlt : ∀ g : Nat, v.ownBlock = some g → g < H
section
variable {base H H2 : Nat} {w w2 : World} {v v' x : Value} {vs : List Value} {ll : List (List Int)}
theorem OwnRR.len (h : OwnRR base H w v vs ll) : vs.length = ll.length := by have := h.out.1; omega
theorem OwnRR.mono (h : OwnRR base H w v vs ll) (hH : H ≤ H2) : OwnRR base H2 w v vs ll :=
  ⟨h.out, h.inn, h.apart, h.sep, fun u hu g hg => Nat.lt_of_lt_of_le (h.lt u hu g hg) hH, fun g hg => Nat.lt_of_lt_of_le (h.vlt g hg) hH⟩
theorem OwnRR.blocks (h : OwnRR base H w v vs ll) (hk : ∀ i, i < H → w2.heap[i]? = w.heap[i]?) : OwnRR base H w2 v vs ll :=
  ⟨ownsRow_block h.out fun i hi => hk i (h.vlt i hi), fun i h1 h2 => ownsRow_block (h.inn i h1 h2) fun g hg => hk g (h.lt _ (List.getElem_mem h1) g hg), h.apart, h.sep, h.lt, h.vlt⟩
theorem OwnRR.up (h : OwnRR base H w v vs ll) (hb : Below H w w2) (hH : H ≤ w.heap.size) : OwnRR base H w2 v vs ll := h.blocks fun i hi => hb.block i hi
theorem OwnRR.lower {base2 : Nat} (h : OwnRR base2 H w v vs ll) (hb : base ≤ base2) : OwnRR base H w v vs ll :=
  ⟨ownsRow_base h.out hb, fun i h1 h2 => ownsRow_base (h.inn i h1 h2) hb, h.apart, h.sep, h.lt, h.vlt⟩
theorem OwnRR.nil (w : World) (hv : w.ownsRow base 26 1 v 0 []) (hlt : ∀ g : Nat, v.ownBlock = some g → g < H) : OwnRR base H w v [] [] :=
  ⟨hv, fun i h => (by simp at h), fun i j hi => (by simp at hi), fun u hu => (by cases hu), fun u hu => (by cases hu), hlt⟩
theorem OwnRR.app {o : Obj} {g cap : Nat} {xs : List Int} (h : OwnRR base H w v vs ll) (hx : w.ownsRow H 3 1 x xs.length (ints xs)) (hbH : base ≤ H) (hH : H ≤ w.heap.size) (hg : (w.alloc o).grownBy w2 v.ownBlock)
    (ho : w2.ownsRow base 26 1 (.slice (some ⟨g, 0, none⟩) (ll.length + 1) cap) (ll.length + 1) (vs ++ [x])) (hat : v.ownBlock = some g ∨ g = (w.alloc o).heap.size) : OwnRR base w2.heap.size w2 (.slice (some ⟨g, 0, none⟩) (ll.length + 1) cap) (vs ++ [x]) (ll ++ [xs]) := by
  have hgl := ho.lt g rfl
  have hz2 : w.heap.size + 1 ≤ w2.heap.size := by have := hg.size; simpa using this
  have hxl := fun i hi => (hx.lt i hi)
  have hlen := h.len
  have hxg : ∀ b : Nat, x.ownBlock = some b → b ≠ g := by
    intro b hb e
    subst e
    rcases hat with e | e
    · have := h.vlt _ e; have := (hxl _ hb).1; omega
    · have := (hxl _ hb).2; simp at e; omega
  have hsg : ∀ u ∈ vs, ∀ b : Nat, u.ownBlock = some b → b ≠ g := by
    intro u hu b hb e
    subst e
    rcases hat with e | e
    · exact h.sep u hu _ hb e
    · have := h.lt u hu _ hb; simp at e; omega
  refine ⟨by simpa using ho, ?_, ?_, ?_, ?_, ?_⟩
  · intro i h1 h2
    by_cases e : i < ll.length
    · rw [List.getElem_append_left (by omega), List.getElem_append_left e]
      exact ownsRow_block (h.inn i (by omega) e) fun b hb => far_grown hg (by have := h.lt _ (List.getElem_mem _) b hb; omega) (h.sep _ (List.getElem_mem _) b hb)
    · have e2 : i = ll.length := by simp at h2; omega
      subst e2
      rw [List.getElem_append_right (by omega), List.getElem_append_right (by omega)]
      simp only [hlen, Nat.sub_self, List.getElem_cons_zero]
      have h3 := ownsRow_block (w' := w2) hx fun b hb => far_grown hg (hxl b hb).2 (fun e => by have := h.vlt b e; have := (hxl b hb).1; omega)
      exact ownsRow_base h3 hbH
  · intro i j hi hj b h1 h2
    by_cases ei : i < vs.length
    · by_cases ej : j < vs.length
      · rw [List.getElem_append_left ei] at h1
        rw [List.getElem_append_left ej] at h2
        exact h.apart i j ei ej b h1 h2
      · exfalso
        have e2 : j = vs.length := by simp at hj; omega
        subst e2
        rw [List.getElem_append_left ei] at h1
        rw [List.getElem_append_right (by omega)] at h2
        simp only [Nat.sub_self, List.getElem_cons_zero] at h2
        have := h.lt _ (List.getElem_mem ei) b h1; have := (hxl b h2).1; omega
    · have e1 : i = vs.length := by simp at hi; omega
      subst e1
      by_cases ej : j < vs.length
      · exfalso
        rw [List.getElem_append_left ej] at h2
        rw [List.getElem_append_right (by omega)] at h1
        simp only [Nat.sub_self, List.getElem_cons_zero] at h1
        have := h.lt _ (List.getElem_mem ej) b h2; have := (hxl b h1).1; omega
      · simp at hj; omega
  · intro u hu b hb e
    have e2 : g = b := by simpa [Value.ownBlock] using e
    subst e2
    rcases List.mem_append.1 hu with hu | hu
    · exact hsg u hu _ hb rfl
    · rw [List.mem_singleton.1 hu] at hb; exact hxg _ hb rfl
  · intro u hu b hb
    rcases List.mem_append.1 hu with hu | hu
    · have := h.lt u hu b hb; omega
    · rw [List.mem_singleton.1 hu] at hb; have := (hxl b hb).2; omega
  · intro b hb
    have e2 : g = b := by simpa [Value.ownBlock] using hb
    omega
end
/-- rows of numbers, to read -/
def RowsAt (B : Nat) (w : World) (A : Option Addr) (ll : List (List Int)) : Prop :=
  ∀ i (h : i < ll.length), ∃ (b o : Nat) (Ar : Option Addr) (cr : Nat), A = some ⟨b, o, none⟩ ∧ b < B ∧ w.cell? ⟨b, o + i, none⟩ = some (.slice Ar ll[i].length cr) ∧ ll[i].length ≤ cr ∧ cr ≤ maxLen ∧ IntsAt B w Ar ll[i]
theorem OwnRR.rows {base H : Nat} {w : World} {v : Value} {vs : List Value} {ll : List (List Int)} (h : OwnRR base H w v vs ll) : ∃ A c, v = .slice A ll.length c ∧ ll.length ≤ c ∧ c ≤ maxLen ∧ RowsAt w.heap.size w A ll := by
  obtain ⟨A, c, rfl, h1, h2, h3⟩ := ownsRow_cells h.out
  refine ⟨A, c, rfl, h1, h2, fun i hi => ?_⟩
  have hl := h.len
  obtain ⟨b, e, hb, hc⟩ := h3 i (by omega)
  obtain ⟨Ar, cr, e1, e2, e3, e4⟩ := ownsRow_ints (h.inn i (by omega) hi)
  exact ⟨b, 0, Ar, cr, e, hb, by rw [Nat.zero_add, hc, e1], e2, e3, e4⟩
theorem RowsAt.up {B B' : Nat} {w0 w : World} {A : Option Addr} {ll : List (List Int)} (h : RowsAt B w0 A ll) (hb : Below B w0 w) (hB : B ≤ B') : RowsAt B' w A ll := by
  intro i hi
  obtain ⟨b, o, Ar, cr, e, hlt, c1, c2, c3, c4⟩ := h i hi
  exact ⟨b, o, Ar, cr, e, by omega, (hb.cell (p := ⟨b, o + i, none⟩) hlt).trans c1, c2, c3, c4.up hb hB⟩
def GivesRR (R : List (List Int) × Bool) (e : Ending) (w w' : World) : Prop :=
  ∃ v vs, e = .returned (.tuple #[v, .bool R.2]) ∧ OwnRR w.heap.size w'.heap.size w' v vs R.1 ∧ Below w.heap.size w w'
end Go.Proofs.Ytpccgdkidnkppaa

set_option linter.unusedVariables false
set_option linter.unusedSimpArgs false
namespace Go.Proofs.Ytpccgdkidnkppaa
open Go Go.RowKit

theorem allL_ok {S : Sh} (hS : S.Ok) : ∀ (ks : List Int) (st : MkSt) (out : List Int), Inv S S.made.length st → st.open_ = [] → KnE S st.known → (∀ k ∈ ks, (specKeyP S k).2 = true) → allL S ks st out = (out ++ ks.map (fun k => (specKeyP S k).1), true) := by
  intro ks
  induction ks with
  | nil => intro st out _ _ _ _; simp [allL]
  | cons k ks ih =>
    intro st out hi ho hK h
    rw [allL]
    have hs := keyP_spec hS S.made.length st [] k hi hK
    rw [ho] at hs
    obtain ⟨⟨h1, h2, h3⟩, h4⟩ := hs
    have hv := keyP_inv hS S.made.length st k hi
    have e : (keyP S S.made.length st k).1 = specKeyP S k := h1
    have hok : (keyP S S.made.length st k).1.2 = true := by rw [e]; exact h k (List.mem_cons_self ..)
    obtain ⟨h21, h22, h23⟩ := h2 hok
    rw [if_pos hok, ih _ _ hv.1 ((hv.2.1 hok).trans ho) h22 (fun j hj => h j (List.mem_cons_of_mem _ hj)), e]
    simp
/-- the values of an order, from nothing -/
def newP (made : List Bool) (tks : List Tk) (x : Ordr) : List Int := x.2.map fun k => (specKeyP ⟨made, tks, x.1⟩ k).1
theorem newP_all {made : List Bool} {tks : List Tk} {x : Ordr} (hS : Sh.Ok ⟨made, tks, x.1⟩) (h : safeP made (tks.map Tk.enc) = true) : allL ⟨made, tks, x.1⟩ x.2 st0 [] = (newP made tks x, true) := by
  rw [allL_ok hS x.2 st0 [] (inv0 _) rfl (knE0 _) (fun k _ => safe_all hS h k)]; rfl
structure RowFit (made : List Bool) (tks : List Tk) (l : List Ordr) : Prop where
  safe : safeP made (tks.map Tk.enc) = true
  six : l.length ≤ 6
  ok : ∀ x ∈ l, Sh.Ok ⟨made, tks, x.1⟩
  keys : ∀ x ∈ l, keysOk made.length x.2 = true
theorem rowOk_fit {made : List Bool} {tasks : List Task} {l : List Ordr} (h : rowOkP made tasks l = true) : ∃ tks, tasks = tks.map Tk.enc ∧ RowFit made tks l := by
  unfold rowOkP at h
  simp only [Bool.and_eq_true, decide_eq_true_eq, List.all_eq_true, fitO] at h
  obtain ⟨⟨h1, h2⟩, h3⟩ := h
  have hok : sheetOk made tasks = true := by have := h1; unfold safeP at this; rw [Bool.and_eq_true] at this; exact this.1
  obtain ⟨tks, rfl, -⟩ := ok_sh (inputs := List.replicate made.length 0) hok (by simp only [takesOk, List.length_replicate, Bool.and_eq_true, decide_eq_true_eq, true_and]; exact vals_iff.2 (fun x hx => by rw [List.eq_of_mem_replicate hx]; omega))
  refine ⟨tks, rfl, ⟨h1, h2, fun x hx => ?_, fun x hx => (h3 x hx).2⟩⟩
  obtain ⟨tks2, e, hS⟩ := ok_sh hok (h3 x hx).1
  rw [Tk.map_inj _ _ e]; exact hS

set_option maxHeartbeats 4000000 in
theorem rowNew_good (Am At Ao : Option Addr) (cm ct co : Nat) (made : List Bool) (tks : List Tk) (l : List Ordr) (B : Nat) (w0 w : World) (hb : Below B w0 w) (hB : B ≤ w.heap.size) (hs : SheetAt B w0 Am cm At ct made (tks.map Tk.enc)) (hl : l.length ≤ maxLen) (hx : OrdsAt B w0 Ao l) (hfit : RowFit made tks l) (hkb : ∀ x ∈ l, x.2.length ≤ 1048576) (hok : rowOkP made (tks.map Tk.enc) l = true) :
    Calls Try.prog 34 #[.agg #[.slice Am made.length cm, .slice At tks.length ct], .slice Ao l.length co] w (fun e w' => GivesRR (l.map (newP made tks), true) e w w') := by
  have h6 := hfit.six
  have hal := below_al (Below.refl w.heap.size w) (.cells #[.slice Am made.length cm, .slice At tks.length ct] 31 (0, 0))
  have k0 := rowOk_calls Am At Ao cm ct co made (tks.map Tk.enc) l B w0 _ (below_up' hb hB hal) (Nat.le_trans hB hal.size) hs hl hx
  rw [hok] at k0
  simp only [List.length_map] at k0
  have hG : ∀ x ∈ l, ∀ Ai ci Ak ck, OrdIs B w0 Ai ci Ak ck x → MkEnv.Good ⟨Am, cm, At, ct, Ai, ci, B, w0⟩ ⟨made, tks, x.1⟩ := fun x hxl Ai ci Ak ck h => ⟨hs, h.ia, h.il, h.im, hfit.ok x hxl⟩
  replace hG := Lib.hid hG
  replace hfit := Lib.hid hfit
  replace hkb := Lib.hid hkb
  replace k0 := Lib.hid k0
  replace hal := Lib.hid hal
  replace hb := Lib.hid hb
  replace hx := Lib.hid hx
  clear hs hok hl
  go_enter Try.func34, Try.ntmps34
  go_wp2_with fail
  refine k0.out.mono ?_
  rintro e w1 ⟨rfl, h1⟩
  have z1 := h1.size
  simp at z1
  have x0 : w1.cell? ⟨w.heap.size, 0, none⟩ = some (.slice Am made.length cm) := (h1.cell (p := ⟨w.heap.size, 0, none⟩) (by simp)).trans (cellm (heap_alloc_new w _) 0)
  have x1 : w1.cell? ⟨w.heap.size, 1, none⟩ = some (.slice At tks.length ct) := (h1.cell (p := ⟨w.heap.size, 1, none⟩) (by simp)).trans (cellm (heap_alloc_new w _) 1)
  have b1 := hal.out.trans (h1.mono hal.out.size)
  have hs0 : w.heap.size < w1.heap.size := z1
  replace b1 := Lib.hid b1
  clear h1 k0 hal
  go_wp2_with fail
  go_loopw [6, 8, 9, 10, 12, 13, 14, 21] (fun o _ _ _ _ _ _ i wr => ∃ (j : Nat) (vs : List Value), j ≤ l.length ∧ i = .int .i64 j ∧ Hid (OwnRR w1.heap.size wr.heap.size wr o vs ((l.take j).map (newP made tks))) ∧ Hid (Below w1.heap.size w1 wr)) (fun _ _ _ _ _ _ _ i _ => l.length - (intOf i).toNat)
  case atStart => exact ⟨0, [], Nat.zero_le _, rfl, Lib.hid (OwnRR.nil _ (World.ownsRow_nil _ _ _ _) (fun g e => by cases e)), Lib.hid (Below.refl _ _)⟩
  case round =>
    obtain ⟨j, vs, hj, rfl, hO, hw⟩ := hrel
    obtain ⟨w9, hw9⟩ : ∃ w9, w9 = wr := ⟨_, rfl⟩
    subst hw9
    have y0 := (hw.out.cell (p := ⟨w.heap.size, 0, none⟩) hs0).trans x0
    have y1 := (hw.out.cell (p := ⟨w.heap.size, 1, none⟩) hs0).trans x1
    have hww9 := b1.out.trans (hw.out.mono b1.out.size)
    have z9 := hww9.size
    have z91 := hw.out.size
    replace hww9 := Lib.hid hww9
    have hs9 : w.heap.size < w9.heap.size := by omega
    by_cases hlt : j < l.length
    · obtain ⟨b, o, Ai, ci, Ak, ck, rfl, hbl, c1, c2, hoi⟩ := hx.out.at (below_up' hb.out hB hww9.out) (Nat.le_trans hB z9) j hlt
      have hxm := List.getElem_mem hlt
      have hgd := hG.out _ hxm Ai ci Ak ck hoi
      have hal := below_al (Below.refl w9.heap.size w9) (.cells #[.slice Ai l[j].1.length ci, .slice Ak l[j].2.length ck] 116 (0, 0))
      have k1 := newMaker_calls ⟨Am, cm, At, ct, Ai, ci, B, w0⟩ ⟨made, tks, l[j].1⟩ _ (below_up' (below_up' hb.out hB hww9.out) (Nat.le_trans hB z9) hal) (Nat.le_trans hB (Nat.le_trans z9 hal.size))
      replace k1 := Lib.hid k1
      replace hoi := Lib.hid hoi
      replace hgd := Lib.hid hgd
      replace hal := Lib.hid hal
      replace hxm := Lib.hid hxm
      go_wp2_with fail
      refine k1.out.mono ?_
      rintro e w4 ⟨m, F, rfl, hM, hF, h4⟩
      have h4z := h4.size
      simp at h4z
      have q1 : w4.cell? ⟨w9.heap.size, 1, none⟩ = some (.slice Ak l[j].2.length ck) := (h4.cell (p := ⟨w9.heap.size, 1, none⟩) (by simp)).trans (cellm (heap_alloc_new w9 _) 1)
      have b4 : Below w9.heap.size w9 w4 := hal.out.trans (h4.mono hal.out.size)
      have hF4 : ∀ i, F i → w9.heap.size ≤ i := fun i hi => by have := hF i hi; simp at this; omega
      have hall := newP_all (hfit.out.ok _ hxm.out) hfit.out.safe
      have hkey := keysOk_iff.1 (hfit.out.keys _ hxm.out)
      have hten := (hfit.out.ok _ hxm.out).ten
      dsimp only at hten
      have hkl := hkb.out _ hxm.out
      have hc5 := key_calls _ _ hgd.out
      replace hkey := Lib.hid hkey
      replace hc5 := Lib.hid hc5
      replace hM := Lib.hid hM
      replace hF4 := Lib.hid hF4
      replace b4 := Lib.hid b4
      replace hall := Lib.hid hall
      have hs4 : w9.heap.size < w4.heap.size := by omega
      clear hF h4 k1 hal y0 y1 c1 c2
      go_wp2_with fail
      go_loopw [10, 12, 13, 14, 32] (fun o _ _ _ i wr => ∃ (q : Nat) (st : MkSt) (F : Nat → Prop) (outl : List Int), q ≤ l[j].2.length ∧ i = .int .i64 q ∧ Hid (outl.length = q) ∧ Hid (wr.ownsRow w9.heap.size 3 1 o q (ints outl)) ∧ Hid (MkI ⟨Am, cm, At, ct, Ai, ci, B, w0⟩ ⟨made, tks, l[j].1⟩ m made.length st wr F) ∧
        Hid (∀ i, F i → w9.heap.size ≤ i ∧ o.ownBlock ≠ some i) ∧ Hid (Below w9.heap.size w9 wr) ∧ Hid (allL ⟨made, tks, l[j].1⟩ (l[j].2.drop q) st outl = (newP made tks l[j], true))) (fun _ _ _ _ i _ => l[j].2.length - (intOf i).toNat)
      case atStart => exact ⟨0, st0, F, [], Nat.zero_le _, rfl, Lib.hid rfl, Lib.hid (World.ownsRow_nil _ _ _ _), Lib.hid ⟨hM.out, inv0 _⟩, Lib.hid (fun i hi => ⟨hF4.out i hi, fun e => by cases e⟩), b4, hall⟩
      case round =>
        obtain ⟨q, st, F, outl, hq, rfl, hlen, hown, hM, hF, hw2, he⟩ := hrel
        have hww := hww9.out.trans (hw2.out.mono z9)
        have hw1 := hw.out.trans (hw2.out.mono z91)
        replace hw1 := Lib.hid hw1
        by_cases hlt2 : q < l[j].2.length
        · have he2 := he.out
          rw [List.drop_eq_getElem_cons hlt2, allL] at he2
          have hkr := hkey.out l[j].2[q] (List.getElem_mem _)
          have hkc := hc5.out m made.length st l[j].2[q] _ F (by omega) (by omega) hM.out
          obtain ⟨r, hr⟩ : ∃ r, keyP ⟨made, tks, l[j].1⟩ made.length st l[j].2[q] = r := ⟨_, rfl⟩
          simp only [hr] at he2 hkc
          obtain ⟨bk, ok, rfl, hbk, ck0⟩ := hoi.out.ka.at (below_up' hb.out hB hww) (Nat.le_trans hB hww.size) q hlt2
          have hrok : r.1.2 = true := by
            cases hr2 : r.1.2 with
            | true => rfl
            | false => rw [hr2] at he2; simp at he2
          rw [if_pos hrok] at he2
          replace hkc := Lib.hid hkc
          replace hr := Lib.hid hr
          replace he2 := Lib.hid he2
          replace hrok := Lib.hid hrok
          replace hww := Lib.hid hww
          clear he
          go_wp2_with fail
          refine hkc.out.mono ?_
          rintro e w5 ⟨rfl, v1, v2, F5, hM5, t5⟩
          have hown5 : w5.ownsRow w9.heap.size 3 1 u10 q (ints outl) := ownsRow_block hown.out (fun i hi => t5.block i (hown.out.lt i hi).2 (fun hf => (hF.out i hf).2 hi))
          have hF5 : ∀ i, F5 i → w9.heap.size ≤ i ∧ u10.ownBlock ≠ some i := fun i hi => (t5.fresh i hi).elim (hF.out i) (fun hge => ⟨Nat.le_trans hw2.out.size hge, fun e => by have := (hown.out.lt i e).2; omega⟩)
          have hw5 := hw2.out.trans (t5.below (B := w9.heap.size) hw2.out.size (fun i hi => (hF.out i hi).1))
          replace hM5 := Lib.hid hM5
          replace hF5 := Lib.hid hF5
          replace hw5 := Lib.hid hw5
          replace hown5 := Lib.hid hown5
          clear t5
          go_wp2_with (at_builtin; go_loud (with_reducible refine wpList_app1 (by rfl) (.tmp 42) (.tmp 44) 26 (by rfl) intTy w9.heap.size u10 q (ints outl) (by with_unfolding_all rfl) (hown5.out.alloc _) w5.heap.size 1 [.int .i64 r.1.1] (by with_unfolding_all rfl) (by with_unfolding_all rfl) ⟨_, _, heap_alloc_new w5 _, rfl⟩ (one_int _ _) ?_ ?_ ?_ ?_))
          · unfold maxLen; omega
          · omega
          · have := hw5.out.size; simp; omega
          intro g cap w7 hown7 hgrow7 hat7
          have hM7 := hM5.out.grown hgrow7 (fun i hi => (hF5.out i hi).2) (fun i hi => Nat.le_trans hB (Nat.le_trans z9 (hown5.out.lt i hi).1))
          have hw7 := (hw5.out.alloc hw5.out.size _).grown hgrow7 (by have := hw5.out.size; simp; omega) (fun i hi => (hown5.out.lt i hi).1)
          have hF7 : ∀ i, F5 i → w9.heap.size ≤ i ∧ (Value.slice (some ⟨g, 0, none⟩) (q + 1) cap).ownBlock ≠ some i := fun i hi => ⟨(hF5.out i hi).1, fun e => by
            cases e
            rcases hat7 with e | e
            · exact (hF5.out _ hi).2 e
            · have h3 : g < w5.heap.size := ((MakerIs.holds _ _ m made.length).own _ _ _ hM5.out _ hi).2
              have h4 : g = w5.heap.size + 1 := by simpa using e
              omega⟩
          have hown7' : w7.ownsRow w9.heap.size 3 1 (.slice (some ⟨g, 0, none⟩) (q + 1) cap) (q + 1) (ints (outl ++ [r.1.1])) := by simpa [ints_append, ints] using hown7
          replace hM7 := Lib.hid hM7
          replace hw7 := Lib.hid hw7
          replace hF7 := Lib.hid hF7
          replace hown7' := Lib.hid hown7'
          have hlen' : (outl ++ [r.1.1]).length = q + 1 := by have := hlen.out; simp [this]
          replace hlen' := Lib.hid hlen'
          clear hown7 hgrow7 hat7
          go_wp2_with fail
          go_roundw
          case rel => exact ⟨q + 1, r.2, F5, outl ++ [r.1.1], by omega, by go_num, hlen', hown7', hM7, hF7, hw7, he2⟩
          case measure => simp [intOf]; omega
        · have hd : l[j].2.drop q = [] := List.drop_eq_nil_of_le (by omega)
          have he2 := he.out
          rw [hd, allL] at he2
          have hout : outl = newP made tks l[j] := (Prod.mk.inj he2).1
          have hql : outl.length = q := hlen.out
          have hown9 : wr.ownsRow w9.heap.size 3 1 u10 outl.length (ints outl) := by rw [hql]; exact hown.out
          rw [hout] at hown9
          obtain ⟨Al, cl, rfl, -⟩ := ownsRow_cells hown9
          have hO2 := (hO.out.up hw2.out (Nat.le_refl _))
          have hz2 := hw2.out.size
          have hlj : ((l.take j).map (newP made tks)).length = j := by simp; omega
          have hal2 : (wr.alloc (.cells #[.slice Al (newP made tks l[j]).length cl] 26 (0, 0))).ownsRow w1.heap.size 26 1 u6 j vs := by have := hO2.out.alloc (.cells #[.slice Al (newP made tks l[j]).length cl] 26 (0, 0)); rw [hlj] at this; exact this
          replace hal2 := Lib.hid hal2
          replace hd := Lib.hid hd
          replace hout := Lib.hid hout
          replace hown9 := Lib.hid hown9
          replace hO2 := Lib.hid hO2
          replace hww := Lib.hid hww
          replace hlj := Lib.hid hlj
          clear he he2 hown hM hF hlen hql
          go_wp2_with (at_builtin; go_loud (with_reducible refine wpList_app1 (by rfl) (.tmp 47) (.tmp 49) 52 (by rfl) rowTy w1.heap.size u6 j vs (by with_unfolding_all rfl) hal2.out wr.heap.size 1 [.slice Al (newP made tks l[j]).length cl] (by with_unfolding_all rfl) (by with_unfolding_all rfl) ⟨_, _, heap_alloc_new wr _, rfl⟩ ?_ ?_ ?_ ?_ ?_))
          · intro u hu; rw [List.mem_singleton.1 hu]; rfl
          · unfold maxLen; omega
          · omega
          · have := hw1.out.size; simp; omega
          intro g cap w7 hown7 hgrow7 hat7
          have hO7 := hO2.out.app hown9.out z91 hz2 hgrow7 (g := g) (cap := cap) (by rw [hlj.out]; exact hown7) (by simpa using hat7)
          have hts := List.take_succ_eq_append_getElem hlt
          have hmap : (l.take j).map (newP made tks) ++ [newP made tks l[j]] = (l.take (j + 1)).map (newP made tks) := by rw [hts, List.map_append]; rfl
          rw [hmap, hlj.out] at hO7
          have hw7 := (hw1.out.alloc hw1.out.size _).grown hgrow7 (by have := hw1.out.size; simp; omega) (fun i hi => (hO2.out.out.lt i hi).1)
          replace hO7 := Lib.hid hO7
          replace hts := Lib.hid hts
          replace hmap := Lib.hid hmap
          replace hw7 := Lib.hid hw7
          clear hown7 hgrow7 hat7
          go_wp2_with fail
          go_roundw
          case rel => exact ⟨j + 1, _, by omega, by go_num, hO7, hw7⟩
          case measure => simp [intOf]; omega
    · have hd : l.take j = l := List.take_of_length_le (by omega)
      have hO2 := hO.out
      rw [hd] at hO2
      replace hO2 := Lib.hid hO2
      replace hd := Lib.hid hd
      clear hO
      go_wp2_with fail
      go_ret2
      exact ⟨_, _, rfl, hO2.out.lower b1.out.size, hww9.out⟩
end Go.Proofs.Ytpccgdkidnkppaa
