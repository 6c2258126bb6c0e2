import Derived.Deep.RegionHeld3
import Derived.Test.YtpccgdkidnkppaaPk5FnOrderFits
import Derived.Test.YtpccgdkidnkppaaPk8FnOrderFits
import Derived.Test.YtpccgdkidnkppaaPk12FnOrderFits
import Derived.Test.YtpccgdkidnkppaaPk16FnOrderFits
set_option linter.unusedVariables false
set_option linter.unusedSimpArgs false
namespace Go.Proofs.Ytpccgdkidnkppaa
open Go Go.RowKit

theorem Tk.enc_inj : ∀ (a b : Tk), a.enc = b.enc → a = b := by
  intro a
  induction a with
  | num n => intro b h; cases b <;> simp [Tk.enc] at h ⊢; exact h
  | get k => intro b h; cases b <;> simp [Tk.enc] at h ⊢; exact h
  | add x y ihx ihy => intro b h; cases b <;> simp [Tk.enc] at h ⊢; exact ⟨ihx _ h.1, ihy _ h.2⟩
  | mul x y ihx ihy => intro b h; cases b <;> simp [Tk.enc] at h ⊢; exact ⟨ihx _ h.1, ihy _ h.2⟩
  | cond x y z ihx ihy ihz => intro b h; cases b <;> simp [Tk.enc] at h ⊢; exact ⟨ihx _ h.1, ihy _ h.2.1, ihz _ h.2.2⟩
  | ix n x ih => intro b h; cases b <;> simp [Tk.enc] at h ⊢; exact ⟨h.1, ih _ h.2⟩
theorem Tk.map_inj : ∀ (a b : List Tk), a.map Tk.enc = b.map Tk.enc → a = b := by
  intro a
  induction a with
  | nil => intro b h; cases b with | nil => rfl | cons y b => simp at h
  | cons x a ih =>
    intro b h
    cases b with
    | nil => simp at h
    | cons y b =>
      simp only [List.map_cons, List.cons.injEq] at h
      rw [Tk.enc_inj _ _ h.1, ih _ h.2]
theorem allL_len {S : Sh} : ∀ (ks : List Int) (st : MkSt) (out : List Int), (allL S ks st out).1.length ≤ out.length + ks.length := by
  intro ks
  induction ks with
  | nil => intro st out; simp [allL]
  | cons k ks ih =>
    intro st out
    rw [allL]
    split
    · have := ih (keyP S S.made.length st k).2 (out ++ [(keyP S S.made.length st k).1.1])
      simp at this ⊢; omega
    · simp
theorem buildAll_len {S : Sh} (hS : S.Ok) : (buildAllP S).1.length ≤ 10 := by
  have h1 := allL_len (S := S) (keysN S.made.length) st0 []
  rw [keysN_length] at h1
  have := hS.ten
  unfold buildAllP
  simp at h1; omega
/-- the program's OrderSuspend and the reference's, on any sheet, inputs and keys -/
def SuspC (g : Nat) (made : List Bool) (tasks : List Task) (x1 x2 : List Int) (R : List Int × Bool) : Prop :=
  ∀ (w : World) (Am At : Option Addr) (cm ct : Nat) (A1 : Option Addr) (c1 : Nat) (A2 : Option Addr) (c2 : Nat) (B : Nat) (w0 : World), Below B w0 w → B ≤ w.heap.size → SheetAt B w0 Am cm At ct made tasks → IntsAt B w0 A1 x1 → x1.length ≤ c1 → c1 ≤ maxLen → IntsAt B w0 A2 x2 → x2.length ≤ c2 → c2 ≤ maxLen →
    Calls Try.prog g #[.agg #[.slice Am made.length cm, .slice At tasks.length ct], .slice A1 x1.length c1, .slice A2 x2.length c2] w (fun e w' => GivesList R e w w')
def SuspO (g : Nat) (made : List Bool) (tasks : List Task) (x1 x2 : List Int) (R : List Int × Bool) : Prop :=
  ∀ (w : World) (Am At : Option Addr) (cm ct : Nat) (A1 : Option Addr) (c1 : Nat) (A2 : Option Addr) (c2 : Nat) (B : Nat) (w0 : World), Below B w0 w → B ≤ w.heap.size → SheetAt B w0 Am cm At ct made tasks → IntsAt B w0 A1 x1 → x1.length ≤ c1 → c1 ≤ maxLen → IntsAt B w0 A2 x2 → x2.length ≤ c2 → c2 ≤ maxLen →
    Calls Try.prog g #[.agg #[.slice Am made.length cm, .slice At tasks.length ct], .slice A1 x1.length c1, .slice A2 x2.length c2] w (fun e w' => GivesOwn w.heap.size R e w w')
theorem SuspO.list {g : Nat} {made : List Bool} {tasks : List Task} {x1 x2 : List Int} {R : List Int × Bool} (h : SuspO g made tasks x1 x2 R) : SuspC g made tasks x1 x2 R :=
  fun w Am At cm ct A1 c1 A2 c2 B w0 hb hB hs hi hl hc hi2 hl2 hc2 => (h w Am At cm ct A1 c1 A2 c2 B w0 hb hB hs hi hl hc hi2 hl2 hc2).mono fun _ _ h => h.list
theorem susp_any (made : List Bool) (tasks : List Task) (x1 x2 : List Int) (hnod : ∀ T ∈ tasks, nodes T ≤ 1000000000) (hml : (made.length : Int) ≤ 9223372036854775807) :
    ∃ R : List Int × Bool, R.1.length ≤ 10 ∧ (R.2 = true → ∃ tks, tasks = tks.map Tk.enc ∧ Sh.Ok ⟨made, tks, x1⟩ ∧ keysOk made.length x2 = true ∧ R = suspP ⟨made, tks, x1⟩ x2) ∧
      SuspC 25 made tasks x1 x2 R ∧ SuspO 26 made tasks x1 x2 R := by
  by_cases hgood : sheetOk made tasks = true ∧ takesOk made.length x1 = true ∧ keysOk made.length x2 = true
  · obtain ⟨h1, h2, h3⟩ := hgood
    obtain ⟨tks, rfl, hS⟩ := ok_sh h1 h2
    refine ⟨suspP ⟨made, tks, x1⟩ x2, suspL_length hS x2 st0 (inv0 _), fun _ => ⟨tks, rfl, hS, h3, rfl⟩, fun w Am At cm ct A1 c1 A2 c2 B w0 hb hB hs hi hl hc hi2 hl2 hc2 => ?_, fun w Am At cm ct A1 c1 A2 c2 B w0 hb hB hs hi hl hc hi2 hl2 hc2 => ?_⟩
    · have := orderSuspend_good ⟨Am, cm, At, ct, A1, c1, B, w0⟩ ⟨made, tks, x1⟩ ⟨hs, hi, hl, hc, hS⟩ A2 c2 x2 w hb hB h3 hi2 (Nat.le_trans hl2 hc2)
      simp only [List.length_map]
      exact this.mono fun _ _ h => h.list
    · have := specOrderSuspend_good ⟨Am, cm, At, ct, A1, c1, B, w0⟩ ⟨made, tks, x1⟩ ⟨hs, hi, hl, hc, hS⟩ hnod A2 c2 x2 w hb hB h3 hi2 (Nat.le_trans hl2 hc2)
      simp only [List.length_map]
      exact this
  · refine ⟨([], false), by simp, fun h => (by cases h), fun w Am At cm ct A1 c1 A2 c2 B w0 hb hB hs hi hl hc hi2 hl2 hc2 => ?_, fun w Am At cm ct A1 c1 A2 c2 B w0 hb hB hs hi hl hc hi2 hl2 hc2 => ?_⟩
    · refine (orderSuspend_bad Am At A1 A2 cm ct c1 c2 made tasks x1 x2 B w0 w hs hi (Nat.le_trans hl hc) hi2 (Nat.le_trans hl2 hc2) hb hB (fun a b => ?_)).mono ?_
      · cases h : keysOk made.length x2 with
        | false => rfl
        | true => exact (hgood ⟨a, b, h⟩).elim
      · rintro e w' ⟨rfl, hb⟩
        exact ⟨none, 0, rfl, Nat.le_refl _, by simp [maxLen], RowAt.nil _ _ _ _, hb⟩
    · refine (specOrderSuspend_bad Am At A1 A2 cm ct c1 c2 made tasks x1 x2 B w0 w hs hnod hml hi (Nat.le_trans hl hc) hi2 (Nat.le_trans hl2 hc2) hb hB (fun a => ?_))
      unfold inputsOk at a
      rw [Bool.and_eq_true] at a
      cases h : keysOk made.length x2 with
      | false => rfl
      | true => exact (hgood ⟨a.1, a.2, h⟩).elim

/-- a call of BuildAll, OrderTopo, OrderFits -/
def AllC (g : Nat) (made : List Bool) (tasks : List Task) (x1 : List Int) (R : List Int × Bool) : Prop :=
  ∀ (w : World) (Am At : Option Addr) (cm ct : Nat) (A1 : Option Addr) (c1 : Nat) (B : Nat) (w0 : World), Below B w0 w → B ≤ w.heap.size → SheetAt B w0 Am cm At ct made tasks → IntsAt B w0 A1 x1 → x1.length ≤ c1 → c1 ≤ maxLen →
    Calls Try.prog g #[.agg #[.slice Am made.length cm, .slice At tasks.length ct], .slice A1 x1.length c1] w (fun e w' => GivesList R e w w')
theorem GivesRow.list {r : List Int × Bool} {e : Ending} {w w' : World} (h : GivesRow r e w w') : GivesList r e w w' := GivesOwn.list (B := w.heap.size) h
theorem all_any (made : List Bool) (tasks : List Task) (x1 : List Int) :
    ∃ R : List Int × Bool, R.1.length ≤ 10 ∧ (R.2 = true → ∃ tks, tasks = tks.map Tk.enc ∧ Sh.Ok ⟨made, tks, x1⟩ ∧ R = buildAllP ⟨made, tks, x1⟩) ∧ AllC 27 made tasks x1 R := by
  by_cases hgood : sheetOk made tasks = true ∧ takesOk made.length x1 = true
  · obtain ⟨h1, h2⟩ := hgood
    obtain ⟨tks, rfl, hS⟩ := ok_sh h1 h2
    refine ⟨buildAllP ⟨made, tks, x1⟩, ?_, fun _ => ⟨tks, rfl, hS, rfl⟩, fun w Am At cm ct A1 c1 B w0 hb hB hs hi hl hc => ?_⟩
    · exact buildAll_len hS
    · have := buildAll_good ⟨Am, cm, At, ct, A1, c1, B, w0⟩ ⟨made, tks, x1⟩ ⟨hs, hi, hl, hc, hS⟩ w hb hB
      simp only [List.length_map]
      exact this.mono fun _ _ h => h.list
  · have hbad : sheetOk made tasks = true → takesOk made.length x1 = false := fun a => by
      cases h : takesOk made.length x1 with
      | false => rfl
      | true => exact (hgood ⟨a, h⟩).elim
    refine ⟨([], false), by simp, fun h => (by cases h), fun w Am At cm ct A1 c1 B w0 hb hB hs hi hl hc => ?_⟩
    refine (buildAll_bad Am At A1 cm ct c1 made tasks x1 B w0 w hs hi (Nat.le_trans hl hc) hb hB hbad).mono ?_
    rintro e w' ⟨rfl, hb⟩
    exact ⟨none, 0, rfl, Nat.le_refl _, by simp [maxLen], RowAt.nil _ _ _ _, hb⟩
theorem topo_any (made : List Bool) (tasks : List Task) (keys : List Int) (hkl : keys.length ≤ maxLen) :
    ∃ R : List Int × Bool, R.1.length ≤ 10 ∧ (R.2 = true → safeP made tasks = true ∧ ∀ k, k ∈ R.1 ↔ Reach (mkK made) (mayS made tasks) keys k) ∧ AllC 21 made tasks keys R := by
  by_cases hgood : safeP made tasks = true ∧ keysOk made.length keys = true
  · obtain ⟨hsafe, hko⟩ := hgood
    let X0 : Int → Bool := fun k => @decide (Reach (mkK made) (mayS made tasks) keys k) (Classical.propDecidable _)
    have hX0 : ∀ k, X0 k = true ↔ Reach (mkK made) (mayS made tasks) keys k := fun k => by
      show @decide _ (Classical.propDecidable _) = true ↔ _
      exact @decide_eq_true_iff _ (Classical.propDecidable _)
    have hsame : ∀ X : Int → Bool, (∀ k, X k = true ↔ Reach (mkK made) (mayS made tasks) keys k) → X = X0 := fun X hX => funext fun k => Bool.eq_iff_iff.2 ((hX k).trans (hX0 k).symm)
    obtain ⟨t1, t2, t3⟩ := safe_topo hsafe hX0
    have hok : sheetOk made tasks = true := by unfold safeP at hsafe; rw [Bool.and_eq_true] at hsafe; exact hsafe.1
    simp only [sheetOk, Bool.and_eq_true, decide_eq_true_eq] at hok
    have hten : made.length ≤ 10 := hok.1.2
    refine ⟨topoP X0 (mayS made tasks) made.length (cntN X0 made.length) [], by rw [t3]; exact Nat.le_trans (cntN_le _ _) hten, fun _ => ⟨hsafe, fun k => ⟨fun hk => (hX0 k).1 (t2.sub k hk).2.2, fun hk => ?_⟩⟩, fun w Am At cm ct A1 c1 B w0 hb hB hs hi hl hc => ?_⟩
    · have hr := mkK_range (show mkK made k ≠ false by rw [hk.isMade]; simp)
      obtain ⟨q, rfl⟩ := Int.eq_ofNat_of_zero_le hr.1
      exact (sub_cnt t2.nodup t2.sub).2 t3 q (by omega) ((hX0 _).2 hk)
    · refine (orderTopo_good Am At A1 cm ct c1 made tasks keys B w0 w hb hB hs hsafe hi hkl hko).mono ?_
      rintro e w' ⟨X, hX, h⟩
      rw [hsame X hX] at h; exact h.list
  · have hbad : safeP made tasks = true → keysOk made.length keys = false := fun a => by
      cases h : keysOk made.length keys with
      | false => rfl
      | true => exact (hgood ⟨a, h⟩).elim
    refine ⟨([], false), by simp, fun h => (by cases h), fun w Am At cm ct A1 c1 B w0 hb hB hs hi hl hc => ?_⟩
    refine (orderTopo_bad Am At A1 cm ct c1 made tasks keys B w0 w hb hB hs hi hkl hbad).mono ?_
    rintro e w' ⟨rfl, hb⟩
    exact ⟨none, 0, rfl, Nat.le_refl _, by simp [maxLen], RowAt.nil _ _ _ _, hb⟩
def FitsC (g : Nat) (made : List Bool) (tasks : List Task) (x1 x2 : List Int) (r : Bool) : Prop :=
  ∀ (w : World) (Am At : Option Addr) (cm ct : Nat) (A1 : Option Addr) (c1 : Nat) (A2 : Option Addr) (c2 : Nat) (B : Nat) (w0 : World), Below B w0 w → B ≤ w.heap.size → SheetAt B w0 Am cm At ct made tasks → IntsAt B w0 A1 x1 → x1.length ≤ c1 → c1 ≤ maxLen → IntsAt B w0 A2 x2 → x2.length ≤ c2 → c2 ≤ maxLen →
    Calls Try.prog g #[.agg #[.slice Am made.length cm, .slice At tasks.length ct], .slice A1 x1.length c1, .slice A2 x2.length c2] w (fun e w' => e = .returned (.bool r) ∧ Below w.heap.size w w')
theorem fits_any {made : List Bool} {tks : List Tk} {x1 : List Int} (hS : Sh.Ok ⟨made, tks, x1⟩) (x2 : List Int) :
    FitsC 16 made (tks.map Tk.enc) x1 x2 (orderFitsP ⟨made, tks, x1⟩ x2) := by
  intro w Am At cm ct A1 c1 A2 c2 B w0 hb hB hs hi hl hc hi2 hl2 hc2
  have := orderFits_good ⟨Am, cm, At, ct, A1, c1, B, w0⟩ ⟨made, tks, x1⟩ ⟨hs, hi, hl, hc, hS⟩ A2 c2 x2 w hb hB hi2 hl2 hc2
  simp only [List.length_map]
  exact this
end Go.Proofs.Ytpccgdkidnkppaa

set_option linter.unusedVariables false
set_option linter.unusedSimpArgs false
namespace Go.Proofs.Ytpccgdkidnkppaa
open Go Go.RowKit

theorem row_cells {w : World} {base : Nat} {e : TypeId} {g cap n : Nat} {xs : List Int} (h : w.ownsRow base e 1 (.slice (some ⟨g, 0, none⟩) n cap) n (ints xs)) (i : Nat) (hi : i < xs.length) : w.cell? ⟨g, i, none⟩ = some (.int .i64 xs[i]) ∧ w.frozen? ⟨g, i, none⟩ = false := by
  refine ⟨?_, ?_⟩
  · have := h.cells (g := g) rfl i (.int .i64 xs[i]) (by simp [ints, hi])
    rw [Addr.add_lit] at this
    simpa using this
  · obtain ⟨_, ⟨h2, _⟩ | ⟨g', cap', cur, h2, h3, h4, h5, h6, h7, h8⟩⟩ := h
    · cases h2
    · cases h2; exact frozenm h4 i
theorem row_frozen {w : World} {base : Nat} {e : TypeId} {g cap n : Nat} {xs : List Value} (h : w.ownsRow base e 1 (.slice (some ⟨g, 0, none⟩) n cap) n xs) (i : Nat) : w.frozen? ⟨g, i, none⟩ = false := by
  obtain ⟨_, ⟨h2, _⟩ | ⟨g', cap', cur, h2, h3, h4, h5, h6, h7, h8⟩⟩ := h
  · cases h2
  · cases h2; exact frozenm h4 i
set_option maxRecDepth 5000 in
set_option maxHeartbeats 8000000 in
theorem drawOrderFits_calls (A : Option Addr) (c : Nat) (bytes : List Int) (B : Nat) (w0 w : World) (hb : Below B w0 w) (hB : B ≤ w.heap.size) (hx : RowAt (fun b : Int => Value.int .u8 b) B w0 A bytes) (hl : bytes.length ≤ c) (hc : c ≤ maxLen) (hby : ∀ b ∈ bytes, 0 ≤ b ∧ b ≤ 255) :
    Calls Try.prog 19 #[.slice A bytes.length c] w (DrawTwoP w) := by
  have h0 := l6Open_calls A c bytes B w0 ((w.alloc (.cells #[.slice none 0 0, .slice none 0 0] 31 (0, 0)))) (below_al' hb _ hB) (by simp; omega) hx hl hc hby
  replace h0 := Lib.hid h0
  clear hb hx hby hl hc
  go_enter Try.func19, Try.ntmps19
  go_wp2_with fail
  refine h0.out.mono ?_
  rintro e w1 ⟨R, rfl, hR, hRB, hRw, hRg, hrd, hb1⟩
  have h1 := l91Sheet_calls R hR 0 (by omega) w1 hrd
  have hgl := block_lt hrd.blk
  have hres1 := (hb1.block w.heap.size (by simp)).trans (heap_new rfl)
  have hz1 : w.heap.size < w1.heap.size := by have := hb1.size; simp at this; omega
  have hg0 : w.heap.size < R.g := by simp at hRg; omega
  have hbw := below_from hb1
  replace h1 := Lib.hid h1
  clear hb1 h0 hRg
  go_wp2_with fail
  refine h1.out.mono ?_
  rintro e w2 ⟨p2, G, made, ts, vm, vt, rfl, hml, hm8, hm2, hp0, hp2, hrd2, ht2, hsh2⟩
  obtain ⟨Am, cm, At, ct, tasks, rfl, rfl, htl, hS2, hnd⟩ := hsh2.readsM
  have htl2 : tasks.length = made.length := by omega
  replace htl2 := Lib.hid htl2
  clear hml htl
  have hz2 : w1.heap.size ≤ w2.heap.size := ht2.size
  have hres2 := (ht2.block _ hz1 (fun e => by omega)).trans hres1
  have hbw2 : Below w.heap.size w w2 := hbw.trans (ht2.below (Nat.le_of_lt hz1) (fun i e => by cases e; omega))
  have hal := below_al (Below.refl _ w2) (.cells #[.slice Am made.length cm, .slice At tasks.length ct] 31 (0, 0))
  have h2 := l91Inputs_calls R hR p2 (by omega) Am At made.length cm tasks.length ct _ (hrd2.up hal) (by omega)
  have hS3 := hS2.up (mask_up hal) hal.size
  have hres3 := (hal.block _ (by omega)).trans hres2
  have hbw3 : Below w.heap.size w _ := hbw2.trans (hal.mono (by omega))
  have hbox3 := heap_alloc_new w2 (.cells #[.slice Am made.length cm, .slice At tasks.length ct] 31 (0, 0))
  replace h2 := Lib.hid h2
  replace hS3 := Lib.hid hS3
  clear h1 hrd2 ht2 hsh2 hres2 hbw2 hal hbw hres1 hrd hS2
  go_wp2_with fail
  refine h2.out.mono ?_
  rintro e w3 ⟨p3, xs, vi, rfl, hxl, hp3, hp3', hrd3, ht3, hown3⟩
  obtain ⟨Ai, ci, rfl, hil, him, hI3⟩ := rowM (lo := w1.heap.size) hown3 (by simp; omega)
  have hS4 := hS3.out.up (mask_turn ht3 (fun i e => by cases e; exact hgl)) ht3.size
  have hres4 := (ht3.block _ (by simp; omega) (fun e => by omega)).trans hres3
  have hbox4 := (ht3.block _ (by simp) (fun e => by omega)).trans hbox3
  have hbw4 : Below w.heap.size w w3 := hbw3.trans (ht3.below (by simp; omega) (fun i e => by cases e; omega))
  have hz3 : w2.heap.size < w3.heap.size := by have := ht3.size; simp at this; omega
  have x0 : w3.cell? ⟨w2.heap.size, 0, none⟩ = some (.slice Am made.length cm) := cellm hbox4 0
  have x1 : w3.cell? ⟨w2.heap.size, 1, none⟩ = some (.slice At tasks.length ct) := cellm hbox4 1
  have h3 := l91Keys_calls R hR p3 (by omega) Am At made.length cm tasks.length ct w3.drew (hrd3.up (Below.refl _ _).drew) (by omega)
  have hSM := hS4.up (mask_up (Below.refl _ _).drew) (Nat.le_refl _)
  have hIM := hI3.up (mask_up (Below.refl _ _).drew) (Nat.le_refl _)
  have hnod : ∀ T ∈ tasks, nodes T ≤ 1000000000 := fun T hT => by have := hnd T hT; omega
  replace hnod := Lib.hid hnod
  replace h3 := Lib.hid h3
  replace hS4 := Lib.hid hSM
  replace hI3 := Lib.hid hIM
  replace hbox4 := Lib.hid hbox4
  replace hres4 := Lib.hid hres4
  replace hbw4 := Lib.hid hbw4
  clear h2 hS3 hres3 hbw3 hbox3 ht3 hown3 hrd3 hSM hIM
  go_wp2_with fail
  go_region_held3 (fun w' => w'.cell? ⟨w2.heap.size, 0, none⟩ = some (.slice Am made.length cm) ∧ w'.cell? ⟨w2.heap.size, 1, none⟩ = some (.slice At tasks.length ct)) (first | exact ⟨l0, l1⟩ | exact ⟨k0, k1⟩ | exact ⟨x0, x1⟩)
    (first
      | (go_at_call 26; refine hO4.out.mono ?_; rintro e w5 ⟨vo, rfl, hown5, hb5⟩; have l0 : w5.cell? ⟨w2.heap.size, 0, none⟩ = some (.slice Am made.length cm) := kept_cell hb5 hz4 k0; have l1 : w5.cell? ⟨w2.heap.size, 1, none⟩ = some (.slice At tasks.length ct) := kept_cell hb5 hz4 k1)
      | (go_at_call 69; refine h3.out.mono ?_; rintro e w4 ⟨p4, ks, vk, rfl, hkl, hp4, hp4', hrd4, ht4, hown4⟩; obtain ⟨Ak, ck, rfl, hkl2, hkm, hK⟩ := rowM (lo := w1.heap.size) hown4 (by simp; omega); have hmt := mask_turn (lo := w1.heap.size) ht4 (fun i e => by cases e; exact hgl); have hS := hS4.out.up hmt ht4.size; have hI := hI3.out.up hmt ht4.size; have hres := (ht4.block _ (by simp; omega) (fun e => by omega)).trans hres4.out; have hbox := (ht4.block _ (by simp; omega) (fun e => by omega)).trans hbox4.out; have hbw5 : Below w.heap.size w w4 := hbw4.out.drew.trans (ht4.below (by simp; omega) (fun i e => by cases e; omega)); have hz4 : w2.heap.size < w4.heap.size := (by have := ht4.size; simp at this; omega); have k0 : w4.cell? ⟨w2.heap.size, 0, none⟩ = some (.slice Am made.length cm) := cellm hbox 0; have k1 : w4.cell? ⟨w2.heap.size, 1, none⟩ = some (.slice At tasks.length ct) := cellm hbox 1; obtain ⟨Rr, hRr10, -, -, hO⟩ := susp_any made tasks xs ks hnod.out (by omega); have hO4 := hO w4 Am At cm ct Ai ci Ak ck w4.heap.size w4 (Below.refl _ _) (Nat.le_refl _) hS.unmask hI.unmask hil him hK.unmask hkl2 hkm; replace hO4 := Lib.hid hO4; replace hRr10 := Lib.hid hRr10; replace hS := Lib.hid hS; replace hI := Lib.hid hI; replace hbox := Lib.hid hbox; replace hres := Lib.hid hres; replace hbw5 := Lib.hid hbw5; replace hrd4 := Lib.hid hrd4; clear ht4 hown4 hmt hK hO))
  all_goals
    have hRr := hRr10.out
    obtain ⟨rl, rb⟩ := Rr
    dsimp only at hRr hown5
    have hgl4 : R.g < w4.heap.size := block_lt hrd4.out.blk
    have hz5 : w4.heap.size ≤ w5.heap.size := hb5.size
    obtain ⟨Ao, co, rfl, hol8, hoc9, hK5⟩ := rowM (lo := w1.heap.size) hown5 (by omega)
    have hrd5 := hrd4.out.up hb5
    have hS5 := hS.out.up (mask_up hb5) (Nat.le_refl _)
    have hI5 := hI.out.up (mask_up hb5) (Nat.le_refl _)
    have hres5 := (hb5.block _ (by omega)).trans hres.out
    have hbox5 := (hb5.block _ (by omega)).trans hbox.out
    have hbw6 := hbw5.out.trans (hb5.mono (by omega))
    have h6 := pick_calls R hR p4 (by omega) 3 w5 hrd5
    replace h6 := Lib.hid h6
    clear h3 hO4 hS hI hres hbox hbw5 hb5 k0 k1 l0 l1 hS4 hI3 hrd4 hres4 hbox4 hbw4
    replace hK5 := Lib.hid hK5
    replace hown5 := Lib.hid hown5
    replace hbox5 := Lib.hid hbox5
    replace hres5 := Lib.hid hres5
    go_wp2_with fail
    refine h6.out.mono ?_
    rintro e w6 ⟨k, rfl, hk0, hk1, hrd6, ht6⟩
    have hmt := mask_turn (lo := w1.heap.size) ht6 (fun i e => by cases e; exact hgl)
    have hS6 := hS5.up (hmt.mono hz5) (Nat.le_refl _)
    have hI6 := hI5.up (hmt.mono hz5) (Nat.le_refl _)
    have hK6 := hK5.out.up hmt ht6.size
    have hres6 := (ht6.block _ (by omega) (fun e => by omega)).trans hres5.out
    have hbox6 := (ht6.block _ (by omega) (fun e => by omega)).trans hbox5.out
    have hbw7 := hbw6.trans (ht6.below (by omega) (fun i e => by cases e; omega))
    have hown6 := ownsRow_block hown5.out (fun i hi => ht6.block i (hown5.out.lt i hi).2 (fun e => by have := (hown5.out.lt i hi).1; omega))
    have hz6 := ht6.size
    clear h6 hS5 hI5 hK5 hres5 hbox5 hbw6 hown5 ht6 hmt
    have hnone : (¬ k = 0 ∨ (k = 0 ∧ rl.length ≤ 1)) ∨ (k = 0 ∧ 2 ≤ rl.length) := by omega
    rcases hnone with hc | ⟨rfl, h2l⟩
    · have hol9 : rl.length ≤ 10 := hRr
      have hSW := hS6.grow (show w4.heap.size ≤ w6.heap.size by omega)
      have hIW := hI6.grow (show w4.heap.size ≤ w6.heap.size by omega)
      have hKW := hK6
      have hresW := hres6
      have hboxW := hbox6
      have hbwW := hbw7
      have hz9 : w2.heap.size < w6.heap.size := by omega

      have y0 : w6.cell? ⟨w.heap.size, 0, none⟩ = some (.slice none 0 0) := cellm hresW 0
      have y1 : w6.cell? ⟨w.heap.size, 1, none⟩ = some (.slice none 0 0) := cellm hresW 1
      have x0 : w6.cell? ⟨w2.heap.size, 0, none⟩ = some (.slice Am made.length cm) := cellm hboxW 0
      have x1 : w6.cell? ⟨w2.heap.size, 1, none⟩ = some (.slice At tasks.length ct) := cellm hboxW 1
      have f0 : w6.frozen? ⟨w.heap.size, 0, none⟩ = false := frozenm hresW 0
      have f1 : w6.frozen? ⟨w.heap.size, 1, none⟩ = false := frozenm hresW 1
      have hW := setCell_block (setCell_block hresW 0 (.slice Am made.length cm)) 1 (.slice At tasks.length ct)
      have hfin := drawTwo_done hz1 hSW hIW hKW htl2.out hm8 hnd (by omega) hil him hol9 hol8 hoc9 hbwW (.slice Am made.length cm) (.slice At tasks.length ct)
      replace hfin := Lib.hid hfin
      replace hW := Lib.hid hW

      clear hSW hIW hKW hresW hboxW hbwW hS6 hI6 hK6 hres6 hbox6 hbw7 hown6 hrd6
      rcases hc with hc | ⟨rfl, hc⟩
      · have hkb : (k == 0) = false := by simpa using hc
        replace hc := Lib.hid hc
        go_wp2_with fail
        exact ret_sheet2 rfl rfl rfl rfl (hW.out.trans rfl) hfin.out
      · go_wp2_with fail
        exact ret_sheet2 rfl rfl rfl rfl (hW.out.trans rfl) hfin.out
    · have h7 := pick_calls R hR (p4 + 1) (by omega) ((rl.length : Int) - 1) w6 hrd6
      replace h7 := Lib.hid h7
      go_wp2_with fail
      refine h7.out.mono ?_
      rintro e w7 ⟨i, rfl, hi0, hi1, hrd7, ht7⟩
      obtain ⟨i, rfl⟩ := Int.eq_ofNat_of_zero_le hi0
      have hi2 : i + 1 < rl.length := by omega
      have hmt := mask_turn (lo := w1.heap.size) ht7 (fun i e => by cases e; exact hgl)
      have hS7 := hS6.up (hmt.mono (by omega)) (Nat.le_refl _)
      have hI7 := hI6.up (hmt.mono (by omega)) (Nat.le_refl _)
      have hres7 := (ht7.block _ (by omega) (fun e => by omega)).trans hres6
      have hbox7 := (ht7.block _ (by omega) (fun e => by omega)).trans hbox6
      have hbw8 := hbw7.trans (ht7.below (by omega) (fun i e => by cases e; omega))
      have hown7 := ownsRow_block hown6 (fun i hi => ht7.block i (hown6.lt i hi).2 (fun e => by have := (hown6.lt i hi).1; omega))
      have hz7 := ht7.size
      clear h7 hS6 hI6 hK6 hres6 hbox6 hbw7 hown6 ht7 hmt hi1 hk1 hrd6 hrd7
      obtain ⟨go, rfl⟩ : ∃ go, Ao = some ⟨go, 0, none⟩ := by
        rcases hown7.2 with ⟨h, _⟩ | ⟨g', _, _, h, _⟩
        · simp at h; omega
        · simp at h; exact ⟨g', h.1⟩
      have hgo := hown7.lt go rfl
      have hc0 := (row_cells hown7 i (by omega)).1
      have hfr := (row_cells hown7 i (by omega)).2
      have hc1 := (row_cells hown7 (i + 1) (by omega)).1
      have hown8 := ownsRow_set hown7 i (.int .i64 rl[i + 1]) (by omega)
      have hown9 := ownsRow_set hown8 (i + 1) (.int .i64 rl[i]) (by omega)
      rw [ints_set, ints_set] at hown9
      have hfr1 := (row_frozen hown8 (i + 1))
      have hg1 : w.heap.size ≠ go := by omega
      have hg2 : w2.heap.size ≠ go := by omega
      have hlen : ((rl.set i rl[i + 1]).set (i + 1) rl[i]).length = rl.length := by simp
      have hfar : ∀ j, j ≠ go → ((w7.setCell ⟨go, i, none⟩ (.int .i64 rl[i + 1])).setCell ⟨go, i + 1, none⟩ (.int .i64 rl[i])).heap[j]? = w7.heap[j]? := fun j hj => (setCell_far hj).trans (setCell_far hj)
      have hm2 : Below w4.heap.size (mask w1.heap.size w7) (mask w1.heap.size ((w7.setCell ⟨go, i, none⟩ (.int .i64 rl[i + 1])).setCell ⟨go, i + 1, none⟩ (.int .i64 rl[i]))) := mask_below rfl rfl rfl (by simp) (by omega) (fun j _ hj => hfar j (by omega))

      have hS9 := hS7.up hm2 (Nat.le_refl _)
      have hI9 := hI7.up hm2 (Nat.le_refl _)
      have hz9 : w4.heap.size ≤ ((w7.setCell ⟨go, i, none⟩ (.int .i64 rl[i + 1])).setCell ⟨go, i + 1, none⟩ (.int .i64 rl[i])).heap.size := by simp; omega
      have hSW := hS9.grow hz9
      have hIW := hI9.grow hz9
      have hbwW : Below w.heap.size w ((w7.setCell ⟨go, i, none⟩ (.int .i64 rl[i + 1])).setCell ⟨go, i + 1, none⟩ (.int .i64 rl[i])) := (hbw8.setCell (p := ⟨go, i, none⟩) (by simp; omega) _).setCell (p := ⟨go, i + 1, none⟩) (by simp; omega) _
      have hresW := (hfar w.heap.size hg1).trans hres7
      have hboxW := (hfar w2.heap.size hg2).trans hbox7
      have hown9' : ((w7.setCell ⟨go, i, none⟩ (.int .i64 rl[i + 1])).setCell ⟨go, i + 1, none⟩ (.int .i64 rl[i])).ownsRow w4.heap.size 3 1 (.slice (some ⟨go, 0, none⟩) ((rl.set i rl[i + 1]).set (i + 1) rl[i]).length co) ((rl.set i rl[i + 1]).set (i + 1) rl[i]).length (ints ((rl.set i rl[i + 1]).set (i + 1) rl[i])) := by rw [hlen]; exact hown9
      obtain ⟨A9, c9, e9, hol9, hoc10, hKW⟩ := rowM (lo := w1.heap.size) hown9' (by omega)
      have hc9 : c9 = co ∧ A9 = some ⟨go, 0, none⟩ := by simp at e9; exact ⟨e9.2.symm, e9.1.symm⟩
      obtain ⟨rfl, rfl⟩ := hc9
      have hten : ((rl.set i rl[i + 1]).set (i + 1) rl[i]).length ≤ 10 := by rw [hlen]; exact hRr
      have y0 : w7.cell? ⟨w.heap.size, 0, none⟩ = some (.slice none 0 0) := cellm hres7 0
      have y1 : w7.cell? ⟨w.heap.size, 1, none⟩ = some (.slice none 0 0) := cellm hres7 1
      have x0 : w7.cell? ⟨w2.heap.size, 0, none⟩ = some (.slice Am made.length cm) := cellm hbox7 0
      have x1 : w7.cell? ⟨w2.heap.size, 1, none⟩ = some (.slice At tasks.length ct) := cellm hbox7 1
      have f0 : w7.frozen? ⟨w.heap.size, 0, none⟩ = false := frozenm hres7 0
      have f1 : w7.frozen? ⟨w.heap.size, 1, none⟩ = false := frozenm hres7 1
      have q0 : ((w7.setCell ⟨go, i, none⟩ (.int .i64 rl[i + 1])).setCell ⟨go, i + 1, none⟩ (.int .i64 rl[i])).cell? ⟨w.heap.size, 0, none⟩ = some (.slice none 0 0) := cellm hresW 0
      have q1 : ((w7.setCell ⟨go, i, none⟩ (.int .i64 rl[i + 1])).setCell ⟨go, i + 1, none⟩ (.int .i64 rl[i])).cell? ⟨w.heap.size, 1, none⟩ = some (.slice none 0 0) := cellm hresW 1
      have p0 : ((w7.setCell ⟨go, i, none⟩ (.int .i64 rl[i + 1])).setCell ⟨go, i + 1, none⟩ (.int .i64 rl[i])).cell? ⟨w2.heap.size, 0, none⟩ = some (.slice Am made.length cm) := cellm hboxW 0
      have p1 : ((w7.setCell ⟨go, i, none⟩ (.int .i64 rl[i + 1])).setCell ⟨go, i + 1, none⟩ (.int .i64 rl[i])).cell? ⟨w2.heap.size, 1, none⟩ = some (.slice At tasks.length ct) := cellm hboxW 1
      have g0 : ((w7.setCell ⟨go, i, none⟩ (.int .i64 rl[i + 1])).setCell ⟨go, i + 1, none⟩ (.int .i64 rl[i])).frozen? ⟨w.heap.size, 0, none⟩ = false := frozenm hresW 0
      have g1 : ((w7.setCell ⟨go, i, none⟩ (.int .i64 rl[i + 1])).setCell ⟨go, i + 1, none⟩ (.int .i64 rl[i])).frozen? ⟨w.heap.size, 1, none⟩ = false := frozenm hresW 1
      have hW := setCell_block (setCell_block hresW 0 (.slice Am made.length cm)) 1 (.slice At tasks.length ct)
      have hfin := drawTwo_done hz1 hSW hIW hKW htl2.out hm8 hnd (by omega) hil him hten hol9 hoc10 hbwW (.slice Am made.length cm) (.slice At tasks.length ct)
      rw [hlen] at hfin
      replace hfin := Lib.hid hfin
      replace hW := Lib.hid hW
      clear hS7 hI7 hres7 hbox7 hbw8 hown7 hown8 hown9 hown9' hKW hSW hIW hS9 hI9 hbwW hresW hboxW hfar hm2
      replace hlen := Lib.hid hlen
      go_wp2_with fail

      exact ret_sheet2 rfl rfl rfl rfl (hW.out.trans rfl) hfin.out

end Go.Proofs.Ytpccgdkidnkppaa

set_option linter.unusedVariables false
set_option linter.unusedSimpArgs false
namespace Go.Proofs.Ytpccgdkidnkppaa
open Go Go.RowKit

theorem rows_apart {w : World} {b1 b2 : Nat} {e1 e2 : TypeId} {s1 s2 n1 n2 : Nat} {v1 v2 : Value} {x1 x2 : List Value} (h1 : w.ownsRow b1 e1 s1 v1 n1 x1) (h2 : w.ownsRow b2 e2 s2 v2 n2 x2) (hne : e1 ≠ e2) : ∀ i, v1.ownBlock = some i → v2.ownBlock ≠ some i := by
  intro i hi
  rcases h1.2 with ⟨rfl, _⟩ | ⟨g, cap, cur, rfl, _, hg, _⟩
  · cases hi
  · cases hi
    exact ownsRow_ne h2 hg (fun c e => by cases e; exact hne rfl)
theorem l2Of_calls (A : Option Addr) (c : Nat) (xs : List Int) (k : Int) (hk : 0 ≤ k) (B : Nat) (w0 w : World) (hb : Below B w0 w) (hB : B ≤ w.heap.size) (hl : xs.length ≤ maxLen) (hx : IntsAt B w0 A xs) :
    Calls Try.prog 111 #[.slice A xs.length c, .int .i64 k] w fun e w' => e = .returned (.int .i64 (atK xs k)) ∧ w = w' := by
  obtain ⟨q, rfl⟩ := Int.eq_ofNat_of_zero_le hk
  unfold maxLen at hl
  by_cases hq : q < xs.length
  · obtain ⟨b, o, rfl, hbb, y⟩ := hx.at hb hB q hq
    rw [atK_in hq]
    clear hx hb hk
    generalize xs[q] = x at *
    go_enter Try.func111, Try.ntmps111
    go_wp2_with fail
    go_ret
    exact ⟨rfl, by first | rfl | trivial⟩
  · rw [atK_out (by omega)]
    clear hx hb hk
    go_enter Try.func111, Try.ntmps111
    go_wp2_with fail
    go_ret
    exact ⟨rfl, by first | rfl | trivial⟩

/-- between two fetches of the reference's run: the task's box, what was fetched, what was got -/
structure L2R (w1 : World) (xs : List Int) (l : List (Int × Int)) (got : List Int) (vo vg : Value) (wr : World) : Prop where
  out : wr.ownsRow w1.heap.size 112 2 vo l.length (fets l)
  own : wr.ownsRow w1.heap.size 3 1 vg got.length (ints got)
  below : Below w1.heap.size w1 wr
  vals : ∀ x ∈ got, 0 ≤ x ∧ x ≤ 96
theorem L2R.up {w1 : World} {xs : List Int} {l : List (Int × Int)} {got : List Int} {vo vg : Value} {wr w2 : World} (h : L2R w1 xs l got vo vg wr) (hb : Below wr.heap.size wr w2) : L2R w1 xs l got vo vg w2 :=
  ⟨ownsRow_block h.out (fun i hi => hb.block i (h.out.lt i hi).2), ownsRow_block h.own (fun i hi => hb.block i (h.own.lt i hi).2), below_up h.below hb, h.vals⟩
theorem L2R.fet {w1 : World} {xs : List Int} {l : List (Int × Int)} {got : List Int} {vo vg v' : Value} {wr w2 : World} {o : Obj} {k x : Int} (h : L2R w1 xs l got vo vg wr) (hg : (wr.alloc o).grownBy w2 vo.ownBlock) (ho : w2.ownsRow w1.heap.size 112 2 v' (l.length + 1) (fets l ++ [.int .i64 k, .int .i64 x])) : L2R w1 xs (l ++ [(k, x)]) got v' vg w2 := by
  have hz := h.below.size
  have ha := h.own.alloc o
  refine ⟨by rw [fets_append, List.length_append, List.length_singleton]; exact ho, ownsRow_block ha (fun i hi => hg.block i (ha.lt i hi).2 (fun e => rows_apart (h.out.alloc o) ha (by decide) i e.symm hi)), (below_al' h.below o hz).grown hg (by simp; omega) (fun i hi => (h.out.lt i hi).1), h.vals⟩
theorem L2R.get {w1 : World} {xs : List Int} {l : List (Int × Int)} {got : List Int} {vo vg v' : Value} {wr w2 : World} {o : Obj} {x : Int} (h : L2R w1 xs l got vo vg wr) (hg : (wr.alloc o).grownBy w2 vg.ownBlock) (ho : w2.ownsRow w1.heap.size 3 1 v' (got.length + 1) (ints got ++ [.int .i64 x])) (hx : 0 ≤ x ∧ x ≤ 96) : L2R w1 xs l (got ++ [x]) vo v' w2 := by
  have hz := h.below.size
  have ha := h.out.alloc o
  refine ⟨ownsRow_block ha (fun i hi => hg.block i (ha.lt i hi).2 (fun e => rows_apart (h.own.alloc o) ha (by decide) i e.symm hi)), by rw [ints_append, List.length_append, List.length_singleton]; exact ho, (below_al' h.below o hz).grown hg (by simp; omega) (fun i hi => (h.own.lt i hi).1),
    fun y hy => (List.mem_append.1 hy).elim (h.vals y) (fun e => by rw [List.mem_singleton.1 e]; exact hx)⟩

set_option maxRecDepth 5000 in
set_option maxHeartbeats 4000000 in
theorem l2Run_calls (t : Tk) (A : Option Addr) (c : Nat) (xs : List Int) (Ax : Option Addr) (cx B : Nat) (w0 w : World) (hb : Below B w0 w) (hB : B ≤ w.heap.size) (hok : t.ok) (hf : t.fets ≤ 100) (hc : t.enc.parts.length ≤ c) (hp : PartsIs B w0 A 0 t.enc.parts)
    (hm : xs.length ≤ maxLen) (hx : IntsAt B w0 Ax xs) (hv : ∀ x ∈ xs, 0 ≤ x ∧ x ≤ 96) :
    Calls Try.prog 57 #[.agg #[.int .i64 t.enc.kind, .int .i64 t.enc.n, .slice A t.enc.parts.length c], .slice Ax xs.length cx] w fun e w' =>
      ∃ v, e = .returned (.tuple #[.int .i64 (fetchedP t xs).1.1, v]) ∧ w'.ownsRow w.heap.size 112 2 v (fetchedP t xs).2.length (fets (fetchedP t xs).2) ∧ Below w.heap.size w w' := by
  have hat : ∀ k : Int, 0 ≤ atK xs k ∧ atK xs k ≤ 96 := fun k => by
    unfold atK
    split
    · omega
    · by_cases h1 : k.toNat < xs.length
      · rw [getD_at _ h1]; exact hv _ (List.getElem_mem _)
      · rw [getD_out _ (by omega)]; omega
  have hnx := fun (got : List Int) (Ag : Option Addr) (cg : Nat) (w1 : World) (hw : Below w.heap.size w w1) (hg : IntsAt w1.heap.size w1 Ag got) (hgv : ∀ x ∈ got, 0 ≤ x ∧ x ≤ 96) (hl : got.length ≤ 1000000) =>
    l2Next_calls t A c got Ag cg B w0 w1 (below_up' hb hB hw) (Nat.le_trans hB hw.size) hok hc hp hg hgv hl
  have hof := fun (k : Int) (hk : 0 ≤ k) (w1 : World) (hw : Below w.heap.size w w1) => l2Of_calls Ax cx xs k hk B w0 w1 (below_up' hb hB hw) (Nat.le_trans hB hw.size) hm hx
  have hitr := fetched_itr t xs
  have hiok := Tk.itr_ok t hok
  have hile := Tk.itr_le t
  obtain ⟨Q, hQ⟩ : ∃ Q, fetchedP t xs = Q := ⟨_, rfl⟩
  rw [hQ] at hitr ⊢
  generalize t.itr = m at *
  replace hnx := Lib.hid hnx
  replace hof := Lib.hid hof
  replace hat := Lib.hid hat
  replace hitr := Lib.hid hitr
  replace hiok := Lib.hid hiok
  replace hile := Lib.hid hile
  clear hb hp hok hx hv hQ hc
  go_enter Try.func57, Try.ntmps57
  go_wp2_with fail
  obtain ⟨w1, hw1⟩ : ∃ w1, w1 = w.alloc (.cells #[.int .i64 t.enc.kind, .int .i64 t.enc.n, .slice A t.enc.parts.length c] 48 (0, 0)) := ⟨_, rfl⟩
  have hs1 : w.heap.size < w1.heap.size := by rw [hw1]; simp
  have hb1 : Below w.heap.size w w1 := by rw [hw1]; exact below_al (Below.refl _ _) _
  have x0 : w1.cell? ⟨w.heap.size, 0, none⟩ = some (.int .i64 t.enc.kind) := by rw [hw1]; simp
  have x1 : w1.cell? ⟨w.heap.size, 1, none⟩ = some (.int .i64 t.enc.n) := by rw [hw1]; simp
  have x2 : w1.cell? ⟨w.heap.size, 2, none⟩ = some (.slice A t.enc.parts.length c) := by rw [hw1]; simp
  have hL0 : L2R w1 xs [] [] (.slice (some ⟨w1.heap.size, 0, none⟩) 0 0) (.slice (some ⟨w1.heap.size + 1, 0, none⟩) 0 0) ((w1.alloc (.cells #[] 112 (0, 0))).alloc (.cells #[] 3 (0, 0))) :=
    ⟨(World.ownsRow_made (base := w1.heap.size) (size := 2) w1 #[] 0 (Nat.le_refl _) (by simp [maxLen]) rfl).alloc _, by simpa [ints] using World.ownsRow_made (base := w1.heap.size) (size := 1) (w1.alloc (.cells #[] 112 (0, 0))) #[] 0 (by simp) (by simp [maxLen]) rfl, below_al (below_al (Below.refl _ _) _) _, fun x hx => by cases hx⟩
  have hsz1 : w.heap.size + 1 = w1.heap.size := by rw [hw1]; simp
  rw [← hsz1] at hL0
  rw [← hw1]
  have hcall := hnx.out [] (some ⟨w.heap.size + 1 + 1, 0, none⟩) 0 _ (hb1.trans (hL0.below.mono (Nat.le_of_lt hs1))) (RowAt.nil _ _ _ _) (fun x hx => by cases hx) (by simp)
  replace hb1 := Lib.hid hb1
  replace x0 := Lib.hid x0
  replace x1 := Lib.hid x1
  replace x2 := Lib.hid x2
  replace hL0 := Lib.hid hL0
  replace hw1 := Lib.hid hw1
  replace hsz1 := Lib.hid hsz1
  replace hcall := Lib.hid hcall
  refine hcall.out.mono ?_
  rintro e w2 ⟨rfl, v0, v1, h2⟩
  have hL2 := hL0.out.up h2
  replace hL2 := Lib.hid hL2
  clear h2 hL0 hcall v0 v1
  go_wp2_with fail
  go_loopw [6, 7, 8, 9, 10] (fun vo vg v ky o wr => ∃ (got : List Int) (l : List (Int × Int)), Hid (got.length = l.length) ∧ l.length ≤ t.fets ∧ got.length ≤ t.fets ∧ v = .int .i64 (nextP m got).1 ∧ ky = .int .i64 (nextP m got).2.1 ∧ o = .bool (nextP m got).2.2 ∧
    Hid (L2R w1 xs l got vo vg wr) ∧ Hid (Q = (m.walk got).run (fetF xs) l)) (fun _ vg _ _ _ _ => t.fets - lenOf vg)
  case atStart => exact ⟨[], [], Lib.hid rfl, Nat.zero_le _, Nat.zero_le _, rfl, rfl, rfl, hL2, Lib.hid (by rw [hitr.out, Itr.walk_nil])⟩
  case round =>
    obtain ⟨got, l, hgl, hgf2, hgf, rfl, rfl, rfl, hL, hEq⟩ := hrel
    have hwr := hb1.out.trans (hL.out.below.mono (Nat.le_of_lt hs1))
    replace hwr := Lib.hid hwr
    cases hw : m.walk got with
    | done x =>
      obtain ⟨n1, n2⟩ := nextP_done hw
      have he := hEq.out
      rw [hw] at he
      have he2 : Q = ((x, true), l) := he
      have hfin := own_low hL.out.out (Nat.le_of_lt hs1)
      rw [n1, n2]
      replace hfin := Lib.hid hfin
      replace he2 := Lib.hid he2
      clear hw n1 n2 he hEq hL
      go_wp2_with fail
      go_ret2
      rw [he2.out]
      exact ⟨_, rfl, hfin.out, hwr.out⟩
    | ask ky ct =>
      have hnp := nextP_ask hw
      have hkr := Itr.walk_ok got _ hiok.out
      rw [hw] at hkr
      obtain ⟨hk0', hk9', -⟩ := hkr
      have hglt := Itr.walk_le got _ _ hile.out ky ct hw
      have he := hEq.out
      rw [hw, Itr.run_yes (by simp [fetF])] at he
      have he2 : Q = (m.walk (got ++ [atK xs ky])).run (fetF xs) (l ++ [(ky, atK xs ky)]) := by
        rw [he, Itr.walk_append, hw, Itr.walk, Itr.walk_nil]; rfl
      have hxx := hat.out ky
      have hof1 := hof.out ky hk0'
      rw [hnp]
      obtain ⟨Ao, co, evo, ho1, ho2, -⟩ := fets_own hL.out.out
      obtain ⟨Ag, cg, evg, hg1, hg2, -⟩ := ownsRow_ints hL.out.own
      subst evo evg
      generalize atK xs ky = x at *
      have hwz := hL.out.below.size
      unfold maxLen at ho2 hg2
      replace hof1 := Lib.hid hof1
      replace he2 := Lib.hid he2
      replace hnp := Lib.hid hnp
      replace hw := Lib.hid hw
      clear hEq he
      have hc1 := hof1.out wr hwr.out
      replace hc1 := Lib.hid hc1
      go_wp2_with fail
      refine hc1.out.mono ?_
      rintro e w3 ⟨rfl, rfl⟩
      clear hc1
      go_wp2_with (at_builtin; go_loud (with_reducible refine wpList_app1 (by rfl) (.tmp 22) (.tmp 28) 73 (by rfl) fetTy w1.heap.size (.slice Ao l.length co) l.length (fets l) (by with_unfolding_all rfl) (hL.out.out.alloc _) wr.heap.size 1 [.int .i64 ky, .int .i64 x] (by with_unfolding_all rfl) (by with_unfolding_all rfl) ⟨_, _, heap_alloc_new wr _, rfl⟩ (one_fet _ _) ?_ ?_ ?_ ?_))
      · unfold maxLen; omega
      · omega
      · simp; omega
      intro g6 cap6 w6 hown6 hgrow6 hat6
      have hL6 := hL.out.fet (xs := xs) hgrow6 hown6
      have hwr6 := hb1.out.trans (hL6.below.mono (Nat.le_of_lt hs1))
      have hwz6 := hL6.below.size
      have hc1 := hof1.out w6 hwr6
      replace hc1 := Lib.hid hc1
      replace hL6 := Lib.hid hL6
      clear hown6 hgrow6 hat6 hL hwr
      go_wp2_with fail
      refine hc1.out.mono ?_
      rintro e w3 ⟨rfl, rfl⟩
      clear hc1
      go_wp2_with (at_builtin; go_loud (with_reducible refine wpList_app1 (by rfl) (.tmp 30) (.tmp 34) 26 (by rfl) intTy w1.heap.size (.slice Ag got.length cg) got.length (ints got) (by with_unfolding_all rfl) (hL6.out.own.alloc _) w6.heap.size 1 [.int .i64 x] (by with_unfolding_all rfl) (by with_unfolding_all rfl) ⟨_, _, heap_alloc_new w6 _, rfl⟩ (one_int _ _) ?_ ?_ ?_ ?_))
      · unfold maxLen; omega
      · omega
      · simp; omega
      intro g7 cap7 w7 hown7 hgrow7 hat7
      have hL7 := hL6.out.get (xs := xs) hgrow7 hown7 hxx
      have hwr7 := hb1.out.trans (hL7.below.mono (Nat.le_of_lt hs1))
      have hwz7 := hL7.below.size
      have y0 := (hL7.below.cell (p := ⟨w.heap.size, 0, none⟩) hs1).trans x0.out
      have y1 := (hL7.below.cell (p := ⟨w.heap.size, 1, none⟩) hs1).trans x1.out
      have y2 := (hL7.below.cell (p := ⟨w.heap.size, 2, none⟩) hs1).trans x2.out
      have hzz : w.heap.size < w7.heap.size := by omega
      have hlen7 : (got ++ [x]).length = got.length + 1 := by simp
      have hi7 := hL7.own
      rw [hlen7] at hi7
      have hii : IntsAt w7.heap.size w7 (some ⟨g7, 0, none⟩) (got ++ [x]) := ownsRow_ints_of (c := cap7) (by rw [hlen7]; exact hi7)
      have hc2 := hnx.out (got ++ [x]) (some ⟨g7, 0, none⟩) cap7 w7 hwr7 hii hL7.vals (by simp; omega)
      rw [hlen7] at hc2
      replace hc2 := Lib.hid hc2
      replace hL7 := Lib.hid hL7
      replace hlen7 := Lib.hid hlen7
      clear hown7 hgrow7 hat7 hL6 hi7 hii hwr7 hwr6
      go_wp2_with fail
      refine hc2.out.mono ?_
      rintro e w8 ⟨rfl, v0, v1, h8⟩
      have hL8 := hL7.out.up h8
      replace hL8 := Lib.hid hL8
      clear hc2 hL7 h8 y0 y1 y2 hzz
      go_wp2_with fail
      go_roundw
      case rel => exact ⟨got ++ [x], l ++ [(ky, x)], Lib.hid (by simp [hgl.out]), by have := hgl.out; simp; omega, by rw [hlen7.out]; omega, rfl, rfl, rfl, hL8, he2⟩
      case measure => simp only [lenOf]; omega
end Go.Proofs.Ytpccgdkidnkppaa
