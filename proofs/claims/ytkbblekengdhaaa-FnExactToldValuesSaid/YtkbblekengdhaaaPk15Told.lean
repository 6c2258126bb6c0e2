import Derived.Deep.RegionHeld3
import Derived.Deep.QuietTactic
import Derived.BigQuiet
import Derived.Test.YtkbblekengdhaaaPk6Told
import Derived.Test.YtkbblekengdhaaaPk10Told
import Derived.Test.YtkbblekengdhaaaPk11Told
import Derived.Test.YtkbblekengdhaaaPk12Told
import Derived.Test.YtkbblekengdhaaaPk14Told
set_option linter.unusedVariables false
set_option linter.unusedSimpArgs false
namespace Go.Proofs.Ytkbblekengdhaaa
open Go Go.RowKit

theorem Tk.enc_inj : ∀ (a b : Tk), a.enc = b.enc → a = b := by
  intro a
  induction a with
  | num n => intro b h; cases b <;> simp [Tk.enc] at h ⊢; exact h
  | get k => intro b h; cases b <;> simp [Tk.enc] at h ⊢; exact h
  | add x y ihx ihy => intro b h; cases b <;> simp [Tk.enc] at h ⊢; exact ⟨ihx _ h.1, ihy _ h.2⟩
  | mul x y ihx ihy => intro b h; cases b <;> simp [Tk.enc] at h ⊢; exact ⟨ihx _ h.1, ihy _ h.2⟩
  | cond x y z ihx ihy ihz => intro b h; cases b <;> simp [Tk.enc] at h ⊢; exact ⟨ihx _ h.1, ihy _ h.2.1, ihz _ h.2.2⟩
  | ix n x ih => intro b h; cases b <;> simp [Tk.enc] at h ⊢; exact ⟨h.1, ih _ h.2⟩
theorem Tk.map_inj : ∀ (a b : List Tk), a.map Tk.enc = b.map Tk.enc → a = b := by
  intro a
  induction a with
  | nil => intro b h; cases b with | nil => rfl | cons y b => simp at h
  | cons x a ih =>
    intro b h
    cases b with
    | nil => simp at h
    | cons y b =>
      simp only [List.map_cons, List.cons.injEq] at h
      rw [Tk.enc_inj _ _ h.1, ih _ h.2]
theorem allL_len {S : Sh} : ∀ (ks : List Int) (st : MkSt) (out : List Int), (allL S ks st out).1.length ≤ out.length + ks.length := by
  intro ks
  induction ks with
  | nil => intro st out; simp [allL]
  | cons k ks ih =>
    intro st out
    rw [allL]
    split
    · have := ih (keyP S S.made.length st k).2 (out ++ [(keyP S S.made.length st k).1.1])
      simp at this ⊢; omega
    · simp
theorem buildAll_len {S : Sh} (hS : S.Ok) : (buildAllP S).1.length ≤ 10 := by
  have h1 := allL_len (S := S) (keysN S.made.length) st0 []
  rw [keysN_length] at h1
  have := hS.ten
  unfold buildAllP
  simp at h1; omega
/-- the program's OrderSuspend and the reference's, on any sheet, inputs and keys -/
def SuspC (g : Nat) (made : List Bool) (tasks : List Task) (x1 x2 : List Int) (R : List Int × Bool) : Prop :=
  ∀ (w : World) (Am At : Option Addr) (cm ct : Nat) (A1 : Option Addr) (c1 : Nat) (A2 : Option Addr) (c2 : Nat) (B : Nat) (w0 : World), Below B w0 w → B ≤ w.heap.size → SheetAt B w0 Am cm At ct made tasks → IntsAt B w0 A1 x1 → x1.length ≤ c1 → c1 ≤ maxLen → IntsAt B w0 A2 x2 → x2.length ≤ c2 → c2 ≤ maxLen →
    Calls Try.prog g #[.agg #[.slice Am made.length cm, .slice At tasks.length ct], .slice A1 x1.length c1, .slice A2 x2.length c2] w (fun e w' => GivesList R e w w')
def SuspO (g : Nat) (made : List Bool) (tasks : List Task) (x1 x2 : List Int) (R : List Int × Bool) : Prop :=
  ∀ (w : World) (Am At : Option Addr) (cm ct : Nat) (A1 : Option Addr) (c1 : Nat) (A2 : Option Addr) (c2 : Nat) (B : Nat) (w0 : World), Below B w0 w → B ≤ w.heap.size → SheetAt B w0 Am cm At ct made tasks → IntsAt B w0 A1 x1 → x1.length ≤ c1 → c1 ≤ maxLen → IntsAt B w0 A2 x2 → x2.length ≤ c2 → c2 ≤ maxLen →
    Calls Try.prog g #[.agg #[.slice Am made.length cm, .slice At tasks.length ct], .slice A1 x1.length c1, .slice A2 x2.length c2] w (fun e w' => GivesOwn w.heap.size R e w w')
theorem SuspO.list {g : Nat} {made : List Bool} {tasks : List Task} {x1 x2 : List Int} {R : List Int × Bool} (h : SuspO g made tasks x1 x2 R) : SuspC g made tasks x1 x2 R :=
  fun w Am At cm ct A1 c1 A2 c2 B w0 hb hB hs hi hl hc hi2 hl2 hc2 => (h w Am At cm ct A1 c1 A2 c2 B w0 hb hB hs hi hl hc hi2 hl2 hc2).mono fun _ _ h => h.list
/-- what is known of a result: of what it is, and when -/
structure SuspFact (made : List Bool) (tasks : List Task) (x1 x2 : List Int) (R : List Int × Bool) : Prop where
  get : R.2 = true → ∃ tks, tasks = tks.map Tk.enc ∧ Sh.Ok ⟨made, tks, x1⟩ ∧ keysOk made.length x2 = true ∧ R = suspP ⟨made, tks, x1⟩ x2
  is : ∀ tks, tasks = tks.map Tk.enc → Sh.Ok ⟨made, tks, x1⟩ → keysOk made.length x2 = true → R = suspP ⟨made, tks, x1⟩ x2
structure AllFact (made : List Bool) (tasks : List Task) (x1 : List Int) (R : List Int × Bool) : Prop where
  get : R.2 = true → ∃ tks, tasks = tks.map Tk.enc ∧ Sh.Ok ⟨made, tks, x1⟩ ∧ R = buildAllP ⟨made, tks, x1⟩
  is : ∀ tks, tasks = tks.map Tk.enc → Sh.Ok ⟨made, tks, x1⟩ → R = buildAllP ⟨made, tks, x1⟩
theorem Sh.Ok.takes {made : List Bool} {tks : List Tk} {x1 : List Int} (h : Sh.Ok ⟨made, tks, x1⟩) : takesOk made.length x1 = true := by
  have h1 := h.ins
  have h2 := h.vals
  simp only at h1 h2
  simp [takesOk, h1, vals_iff.2 h2]
/-- a call of BuildAll, OrderTopo, OrderFits -/
def AllC (g : Nat) (made : List Bool) (tasks : List Task) (x1 : List Int) (R : List Int × Bool) : Prop :=
  ∀ (w : World) (Am At : Option Addr) (cm ct : Nat) (A1 : Option Addr) (c1 : Nat) (B : Nat) (w0 : World), Below B w0 w → B ≤ w.heap.size → SheetAt B w0 Am cm At ct made tasks → IntsAt B w0 A1 x1 → x1.length ≤ c1 → c1 ≤ maxLen →
    Calls Try.prog g #[.agg #[.slice Am made.length cm, .slice At tasks.length ct], .slice A1 x1.length c1] w (fun e w' => GivesList R e w w')
theorem GivesRow.list {r : List Int × Bool} {e : Ending} {w w' : World} (h : GivesRow r e w w') : GivesList r e w w' := GivesOwn.list (B := w.heap.size) h
theorem all_any (made : List Bool) (tasks : List Task) (x1 : List Int) :
    ∃ R : List Int × Bool, R.1.length ≤ 10 ∧ AllFact made tasks x1 R ∧ AllC 47 made tasks x1 R := by
  by_cases hgood : sheetOk made tasks = true ∧ takesOk made.length x1 = true
  · obtain ⟨h1, h2⟩ := hgood
    obtain ⟨tks, rfl, hS⟩ := ok_sh h1 h2
    refine ⟨buildAllP ⟨made, tks, x1⟩, ?_, ⟨fun _ => ⟨tks, rfl, hS, rfl⟩, fun tks2 he _ => by rw [Tk.map_inj _ _ he]⟩, fun w Am At cm ct A1 c1 B w0 hb hB hs hi hl hc => ?_⟩
    · exact buildAll_len hS
    · have := buildAll_good ⟨Am, cm, At, ct, A1, c1, B, w0⟩ ⟨made, tks, x1⟩ ⟨hs, hi, hl, hc, hS⟩ w hb hB
      simp only [List.length_map]
      exact this.mono fun _ _ h => h.list
  · have hbad : sheetOk made tasks = true → takesOk made.length x1 = false := fun a => by
      cases h : takesOk made.length x1 with
      | false => rfl
      | true => exact (hgood ⟨a, h⟩).elim
    refine ⟨([], false), by simp, ⟨fun h => (by cases h), fun tks he hS => (hgood ⟨by rw [he]; exact hS.sheet, hS.takes⟩).elim⟩, fun w Am At cm ct A1 c1 B w0 hb hB hs hi hl hc => ?_⟩
    refine (buildAll_bad Am At A1 cm ct c1 made tasks x1 B w0 w hs hi (Nat.le_trans hl hc) hb hB hbad).mono ?_
    rintro e w' ⟨rfl, hb⟩
    exact ⟨none, 0, rfl, Nat.le_refl _, by simp [maxLen], RowAt.nil _ _ _ _, hb⟩
theorem topo_any (made : List Bool) (tasks : List Task) (keys : List Int) (hkl : keys.length ≤ maxLen) :
    ∃ R : List Int × Bool, R.1.length ≤ 10 ∧ (R.2 = true → safeP made tasks = true ∧ ∀ k, k ∈ R.1 ↔ Reach (mkK made) (mayS made tasks) keys k) ∧ AllC 77 made tasks keys R := by
  by_cases hgood : safeP made tasks = true ∧ keysOk made.length keys = true
  · obtain ⟨hsafe, hko⟩ := hgood
    let X0 : Int → Bool := fun k => @decide (Reach (mkK made) (mayS made tasks) keys k) (Classical.propDecidable _)
    have hX0 : ∀ k, X0 k = true ↔ Reach (mkK made) (mayS made tasks) keys k := fun k => by
      show @decide _ (Classical.propDecidable _) = true ↔ _
      exact @decide_eq_true_iff _ (Classical.propDecidable _)
    have hsame : ∀ X : Int → Bool, (∀ k, X k = true ↔ Reach (mkK made) (mayS made tasks) keys k) → X = X0 := fun X hX => funext fun k => Bool.eq_iff_iff.2 ((hX k).trans (hX0 k).symm)
    obtain ⟨t1, t2, t3⟩ := safe_topo hsafe hX0
    have hok : sheetOk made tasks = true := by unfold safeP at hsafe; rw [Bool.and_eq_true] at hsafe; exact hsafe.1
    simp only [sheetOk, Bool.and_eq_true, decide_eq_true_eq] at hok
    have hten : made.length ≤ 10 := hok.1.2
    refine ⟨topoP X0 (mayS made tasks) made.length (cntN X0 made.length) [], by rw [t3]; exact Nat.le_trans (cntN_le _ _) hten, fun _ => ⟨hsafe, fun k => ⟨fun hk => (hX0 k).1 (t2.sub k hk).2.2, fun hk => ?_⟩⟩, fun w Am At cm ct A1 c1 B w0 hb hB hs hi hl hc => ?_⟩
    · have hr := mkK_range (show mkK made k ≠ false by rw [hk.isMade]; simp)
      obtain ⟨q, rfl⟩ := Int.eq_ofNat_of_zero_le hr.1
      exact (sub_cnt t2.nodup t2.sub).2 t3 q (by omega) ((hX0 _).2 hk)
    · refine (orderTopo_good Am At A1 cm ct c1 made tasks keys B w0 w hb hB hs hsafe hi hkl hko).mono ?_
      rintro e w' ⟨X, hX, h⟩
      rw [hsame X hX] at h; exact h.list
  · have hbad : safeP made tasks = true → keysOk made.length keys = false := fun a => by
      cases h : keysOk made.length keys with
      | false => rfl
      | true => exact (hgood ⟨a, h⟩).elim
    refine ⟨([], false), by simp, fun h => (by cases h), fun w Am At cm ct A1 c1 B w0 hb hB hs hi hl hc => ?_⟩
    refine (orderTopo_bad Am At A1 cm ct c1 made tasks keys B w0 w hb hB hs hi hkl hbad).mono ?_
    rintro e w' ⟨rfl, hb⟩
    exact ⟨none, 0, rfl, Nat.le_refl _, by simp [maxLen], RowAt.nil _ _ _ _, hb⟩
def FitsC (g : Nat) (made : List Bool) (tasks : List Task) (x1 x2 : List Int) (r : Bool) : Prop :=
  ∀ (w : World) (Am At : Option Addr) (cm ct : Nat) (A1 : Option Addr) (c1 : Nat) (A2 : Option Addr) (c2 : Nat) (B : Nat) (w0 : World), Below B w0 w → B ≤ w.heap.size → SheetAt B w0 Am cm At ct made tasks → IntsAt B w0 A1 x1 → x1.length ≤ c1 → c1 ≤ maxLen → IntsAt B w0 A2 x2 → x2.length ≤ c2 → c2 ≤ maxLen →
    Calls Try.prog g #[.agg #[.slice Am made.length cm, .slice At tasks.length ct], .slice A1 x1.length c1, .slice A2 x2.length c2] w (fun e w' => e = .returned (.bool r) ∧ Below w.heap.size w w')
end Go.Proofs.Ytkbblekengdhaaa

set_option linter.unusedVariables false
set_option linter.unusedSimpArgs false
namespace Go.Proofs.Ytkbblekengdhaaa
open Go Go.RowKit

/-! rows of orders -/
abbrev Ordr := List Int × List Int
structure OrdIs (B : Nat) (w0 : World) (Ai : Option Addr) (ci : Nat) (Ak : Option Addr) (ck : Nat) (x : Ordr) : Prop where
  ia : IntsAt B w0 Ai x.1
  il : x.1.length ≤ ci
  im : ci ≤ maxLen
  ka : IntsAt B w0 Ak x.2
  kl : x.2.length ≤ ck
  km : ck ≤ maxLen
def OrdsAt (B : Nat) (w0 : World) (A : Option Addr) (l : List Ordr) : Prop :=
  ∀ i (h : i < l.length), ∃ (b o : Nat) (Ai : Option Addr) (ci : Nat) (Ak : Option Addr) (ck : Nat), A = some ⟨b, o, none⟩ ∧ b < B ∧
    w0.cell? ⟨b, o + i * 2, none⟩ = some (.slice Ai l[i].1.length ci) ∧ w0.cell? ⟨b, o + i * 2 + 1, none⟩ = some (.slice Ak l[i].2.length ck) ∧ OrdIs B w0 Ai ci Ak ck l[i]
theorem OrdsAt.at {B : Nat} {w0 w : World} {A : Option Addr} {l : List Ordr} (h : OrdsAt B w0 A l) (hb : Below B w0 w) (hB : B ≤ w.heap.size) (i : Nat) (hi : i < l.length) : ∃ (b o : Nat) (Ai : Option Addr) (ci : Nat) (Ak : Option Addr) (ck : Nat), A = some ⟨b, o, none⟩ ∧ b < w.heap.size ∧
    w.cell? ⟨b, o + i * 2, none⟩ = some (.slice Ai l[i].1.length ci) ∧ w.cell? ⟨b, o + i * 2 + 1, none⟩ = some (.slice Ak l[i].2.length ck) ∧ OrdIs B w0 Ai ci Ak ck l[i] := by
  obtain ⟨b, o, Ai, ci, Ak, ck, e, hlt, c1, c2, hi⟩ := h i hi
  exact ⟨b, o, Ai, ci, Ak, ck, e, by omega, (hb.cell (p := ⟨b, o + i * 2, none⟩) hlt).trans c1, (hb.cell (p := ⟨b, o + i * 2 + 1, none⟩) hlt).trans c2, hi⟩

def fitO (n : Nat) (x : Ordr) : Bool := takesOk n x.1 && keysOk n x.2
def rowOkP (made : List Bool) (tasks : List Task) (l : List Ordr) : Bool := safeP made tasks && decide (l.length ≤ 6) && l.all (fitO made.length)

end Go.Proofs.Ytkbblekengdhaaa

set_option linter.unusedVariables false
set_option linter.unusedSimpArgs false
namespace Go.Proofs.Ytkbblekengdhaaa
open Go Go.RowKit

end Go.Proofs.Ytkbblekengdhaaa

set_option linter.unusedVariables false
set_option linter.unusedSimpArgs false
namespace Go.Proofs.Ytkbblekengdhaaa
open Go Go.RowKit

/-! a world without its blocks below lo: what is read there lies in blocks from lo on -/
def mask (lo : Nat) (w : World) : World := { w with heap := w.heap.mapIdx fun i o => if i < lo then .map #[] 0 else o }
@[simp] theorem mask_size (lo : Nat) (w : World) : (mask lo w).heap.size = w.heap.size := by simp [mask]
theorem mask_heap (lo : Nat) (w : World) (i : Nat) : (mask lo w).heap[i]? = w.heap[i]?.map fun o => if i < lo then .map #[] 0 else o := by
  simp [mask, Array.getElem?_mapIdx]
theorem mask_hi {lo i : Nat} (w : World) (h : lo ≤ i) : (mask lo w).heap[i]? = w.heap[i]? := by
  rw [mask_heap]
  cases e : w.heap[i]? with
  | none => rfl
  | some o => simp [show ¬ i < lo by omega]
theorem mask_cell {lo : Nat} {w : World} {b o : Nat} {v : Value} (h : (mask lo w).cell? ⟨b, o, none⟩ = some v) : w.cell? ⟨b, o, none⟩ = some v := by
  by_cases hb : b < lo
  · unfold World.cell? at h
    rw [mask_heap] at h
    cases e : w.heap[b]? with
    | none => simp [e] at h
    | some ob => simp [e, hb] at h
  · exact (World.cell?_of_block (w := w) (mask_hi (lo := lo) (i := b) w (by omega))).symm.trans h
theorem mask_below {lo B : Nat} {w w' : World} (ho : w'.os = w.os) (ht : w'.tape = w.tape) (hp : w'.output = w.output) (hs : w.heap.size ≤ w'.heap.size) (hB : B ≤ w.heap.size) (h : ∀ i, lo ≤ i → i < B → w'.heap[i]? = w.heap[i]?) : Below B (mask lo w) (mask lo w') := by
  refine ⟨ho, ht, hp, by simpa using hs, fun k hk => ?_⟩
  by_cases e : k < lo
  · rw [mask_heap, mask_heap]
    have h1 : k < w.heap.size := by omega
    have h2 : k < w'.heap.size := by omega
    rw [Array.getElem?_eq_getElem h1, Array.getElem?_eq_getElem h2]
    simp [e]
  · rw [mask_hi _ (by omega), mask_hi _ (by omega)]
    exact h k (by omega) hk
theorem mask_turn {F F' : Nat → Prop} {lo : Nat} {w w' : World} (t : Turn F F' w w') (hF : ∀ i, F i → i < lo) : Below w.heap.size (mask lo w) (mask lo w') :=
  mask_below t.os t.tape t.output t.size (Nat.le_refl _) fun i hi hs => t.block i hs fun hf => by have := hF i hf; omega
theorem mask_up {lo : Nat} {w w' : World} (t : Below w.heap.size w w') : Below w.heap.size (mask lo w) (mask lo w') :=
  mask_below t.os t.tape t.output t.size (Nat.le_refl _) fun i hi hs => t.block i hs
theorem mask_set {lo b : Nat} (w : World) (h : b < lo) (o : Nat) (v : Value) : Below w.heap.size (mask lo w) (mask lo (w.setCell ⟨b, o, none⟩ v)) :=
  mask_below rfl rfl rfl (by simp) (Nat.le_refl _) fun i hi hs => setCell_far (by omega)
theorem mask_less {lo lo' : Nat} (w : World) (h : lo' ≤ lo) {b o : Nat} {v : Value} (hc : (mask lo w).cell? ⟨b, o, none⟩ = some v) : (mask lo' w).cell? ⟨b, o, none⟩ = some v := by
  by_cases hb : b < lo
  · unfold World.cell? at hc
    rw [mask_heap] at hc
    cases e : w.heap[b]? with
    | none => simp [e] at hc
    | some ob => simp [e, hb] at hc
  · rw [World.cell?_of_block (w := w) (mask_hi (lo := lo') (i := b) w (by omega))]
    exact mask_cell hc

theorem RowAt.imp {α : Type} {f : α → Value} {B B' : Nat} {w w' : World} {A : Option Addr} {xs : List α} (h : RowAt f B w A xs) (hB : B ≤ B') (hw : ∀ b o v, b < B → w.cell? ⟨b, o, none⟩ = some v → w'.cell? ⟨b, o, none⟩ = some v) : RowAt f B' w' A xs := by
  intro i hi
  obtain ⟨b, o, e, hlt, hc⟩ := h i hi
  exact ⟨b, o, e, by omega, hw _ _ _ hlt hc⟩
mutual
theorem TaskIs.imp {B B' : Nat} {w0 w : World} (hB : B ≤ B') (hw : ∀ b o v, b < B → w0.cell? ⟨b, o, none⟩ = some v → w.cell? ⟨b, o, none⟩ = some v) : ∀ (t : Task) (v : Value), TaskIs B w0 v t → TaskIs B' w v t
  | .mk k n ps, v, h => by
    rw [TaskIs] at h ⊢
    obtain ⟨A, c, e, hc, hm, hp⟩ := h
    exact ⟨A, c, e, hc, hm, PartsIs.imp hB hw ps A 0 hp⟩
theorem PartsIs.imp {B B' : Nat} {w0 w : World} (hB : B ≤ B') (hw : ∀ b o v, b < B → w0.cell? ⟨b, o, none⟩ = some v → w.cell? ⟨b, o, none⟩ = some v) : ∀ (ps : List Task) (A : Option Addr) (i : Nat), PartsIs B w0 A i ps → PartsIs B' w A i ps
  | [], A, i, _ => by rw [PartsIs]; trivial
  | t :: ts, A, i, h => by
    rw [PartsIs] at h ⊢
    obtain ⟨⟨b, o, x, y, z, e, hlt, hx, hy, hz, ht⟩, hts⟩ := h
    exact ⟨⟨b, o, x, y, z, e, by omega, hw _ _ _ hlt hx, hw _ _ _ hlt hy, hw _ _ _ hlt hz, TaskIs.imp hB hw t _ ht⟩, PartsIs.imp hB hw ts A (i + 1) hts⟩
end
theorem SheetAt.imp {B B' : Nat} {w w' : World} {Am At : Option Addr} {cm ct : Nat} {made : List Bool} {tasks : List Task} (h : SheetAt B w Am cm At ct made tasks) (hB : B ≤ B') (hw : ∀ b o v, b < B → w.cell? ⟨b, o, none⟩ = some v → w'.cell? ⟨b, o, none⟩ = some v) : SheetAt B' w' Am cm At ct made tasks :=
  ⟨h.lm, h.mm, h.lt, h.mt, h.made.imp hB hw, PartsIs.imp hB hw _ _ _ h.tasks⟩
theorem SheetAt.up {B B' : Nat} {w w' : World} {Am At : Option Addr} {cm ct : Nat} {made : List Bool} {tasks : List Task} (h : SheetAt B w Am cm At ct made tasks) (hb : Below B w w') (hB : B ≤ B') : SheetAt B' w' Am cm At ct made tasks :=
  h.imp hB fun b o v hlt hc => (hb.cell (p := ⟨b, o, none⟩) hlt).trans hc
theorem SheetAt.unmask {lo B : Nat} {w : World} {Am At : Option Addr} {cm ct : Nat} {made : List Bool} {tasks : List Task} (h : SheetAt B (mask lo w) Am cm At ct made tasks) : SheetAt B w Am cm At ct made tasks :=
  h.imp (Nat.le_refl _) fun b o v _ hc => mask_cell hc
theorem RowAt.unmask {α : Type} {f : α → Value} {lo B : Nat} {w : World} {A : Option Addr} {xs : List α} (h : RowAt f B (mask lo w) A xs) : RowAt f B w A xs := h.imp (Nat.le_refl _) fun b o v _ hc => mask_cell hc

section
variable {g B lo : Nat} {G : Rows} {made : List Bool} {ts : List (Value × Value × Value)} {vm vt : Value} {w : World}
theorem Sht.mask (h : Sht g B lo G made ts vm vt w) : Sht g B lo G made ts vm vt (mask lo w) :=
  ⟨ownsRow_block h.om (fun i hi => mask_hi w (h.om.lt i hi).1), ownsRow_block h.ot (fun i hi => mask_hi w (h.ot.lt i hi).1),
   fun b r m hb => by
     obtain ⟨h1, h2, cs, h3, h4⟩ := h.ty b r m hb
     exact ⟨h1, h2, cs, (mask_hi w (h.new b _ hb)).trans h3, h4⟩,
   h.tv, h.sep, h.new, h.glo⟩
/-- a drawn sheet, read in blocks from lo on -/
theorem Sht.readsM (h : Sht g B lo G made ts vm vt w) : ∃ Am cm At ct tasks, vm = .slice Am made.length cm ∧ vt = .slice At tasks.length ct ∧ tasks.length = ts.length ∧ SheetAt w.heap.size (Go.Proofs.Ytkbblekengdhaaa.mask lo w) Am cm At ct made tasks ∧ ∀ T ∈ tasks, nodes T ≤ 13 := by
  obtain ⟨Am, cm, At, ct, tasks, h1, h2, h3, h4, h5⟩ := h.mask.reads
  exact ⟨Am, cm, At, ct, tasks, h1, h2, h3, by simpa using h4, fun T hT => by have := h5 T hT; simpa [nb] using this⟩
end
theorem rowM {w : World} {base lo : Nat} {e : TypeId} {v : Value} {xs : List Int} (h : w.ownsRow base e 1 v xs.length (ints xs)) (hl : lo ≤ base) : ∃ A c, v = .slice A xs.length c ∧ xs.length ≤ c ∧ c ≤ maxLen ∧ IntsAt w.heap.size (mask lo w) A xs := by
  obtain ⟨A, c, h1, h2, h3, h4⟩ := ownsRow_ints (ownsRow_block (w' := mask lo w) h (fun i hi => mask_hi w (by have := (h.lt i hi).1; omega)))
  exact ⟨A, c, h1, h2, h3, by simpa using h4⟩

theorem SheetAt.grow {B B' : Nat} {w : World} {Am At : Option Addr} {cm ct : Nat} {made : List Bool} {tasks : List Task} (h : SheetAt B w Am cm At ct made tasks) (hB : B ≤ B') : SheetAt B' w Am cm At ct made tasks := h.up (Below.refl _ _) hB
theorem RowAt.grow {α : Type} {f : α → Value} {B B' : Nat} {w : World} {A : Option Addr} {xs : List α} (h : RowAt f B w A xs) (hB : B ≤ B') : RowAt f B' w A xs := h.up (Below.refl _ _) hB
/-! what draws of a sheet and rows of numbers bring -/
structure Args2 (w : World) (Am : Option Addr) (cm : Nat) (At : Option Addr) (ct : Nat) (made : List Bool) (tasks : List Task) (Ai : Option Addr) (ci : Nat) (inputs : List Int) (Ak : Option Addr) (ck : Nat) (keys : List Int) : Prop where
  base : ArgsAt w Am cm At ct made tasks Ai ci inputs
  keysAt : IntsAt w.heap.size w Ak keys
  klen : keys.length ≤ 10
  kcap : keys.length ≤ ck
  kmax : ck ≤ maxLen
def DrawTwoP (w : World) (e : Ending) (w' : World) : Prop :=
  ∃ Am cm At ct made tasks Ai ci inputs Ak ck keys, e = .returned (.tuple #[.agg #[.slice Am made.length cm, .slice At tasks.length ct], .slice Ai inputs.length ci, .slice Ak keys.length ck]) ∧ Args2 w' Am cm At ct made tasks Ai ci inputs Ak ck keys ∧ Below w.heap.size w w'
theorem drawTwo_done {lo : Nat} {w w4 : World} {Am At Ai Ak : Option Addr} {cm ct ci ck : Nat} {made : List Bool} {tasks : List Task} {xs ks : List Int} (hlo : w.heap.size < lo) (hS : SheetAt w4.heap.size (mask lo w4) Am cm At ct made tasks) (hI : IntsAt w4.heap.size (mask lo w4) Ai xs) (hK : IntsAt w4.heap.size (mask lo w4) Ak ks)
    (h1 : tasks.length = made.length) (h2 : made.length ≤ 8) (h3 : ∀ T ∈ tasks, nodes T ≤ 13) (h4 : xs.length ≤ 9) (h5 : xs.length ≤ ci) (h6 : ci ≤ maxLen) (h7 : ks.length ≤ 10) (h8 : ks.length ≤ ck) (h9 : ck ≤ maxLen) (hb : Below w.heap.size w w4) (x y : Value) :
    DrawTwoP w (.returned (.tuple #[.agg #[.slice Am made.length cm, .slice At tasks.length ct], .slice Ai xs.length ci, .slice Ak ks.length ck])) ((w4.setCell ⟨w.heap.size, 0, none⟩ x).setCell ⟨w.heap.size, 1, none⟩ y) := by
  have hm := (mask_set w4 hlo 0 x).trans ((mask_set (w4.setCell ⟨w.heap.size, 0, none⟩ x) hlo 1 y).mono (by simp))
  have hz : w4.heap.size ≤ ((w4.setCell ⟨w.heap.size, 0, none⟩ x).setCell ⟨w.heap.size, 1, none⟩ y).heap.size := by simp
  exact ⟨Am, cm, At, ct, made, tasks, Ai, ci, xs, Ak, ck, ks, rfl, ⟨⟨(hS.up hm hz).unmask, (hI.up hm hz).unmask, h1, h2, h3, h4, h5, h6⟩, (hK.up hm hz).unmask, h7, h8, h9⟩,
    (hb.setCell (p := ⟨w.heap.size, 0, none⟩) (Nat.le_refl _) x).setCell (p := ⟨w.heap.size, 1, none⟩) (Nat.le_refl _) y⟩
end Go.Proofs.Ytkbblekengdhaaa

set_option linter.unusedVariables false
set_option linter.unusedSimpArgs false
namespace Go.Proofs.Ytkbblekengdhaaa
open Go Go.RowKit

theorem rowTy : ElemTy Try.prog 27 28 (.slice none 0 0) 1 24 := ⟨Try.underlying27, by kernel_rfl, rfl, by omega⟩
theorem ownsRow_base {w : World} {base base2 : Nat} {e : TypeId} {size : Nat} {v : Value} {n : Nat} {xs : List Value} (h : w.ownsRow base2 e size v n xs) (hb : base ≤ base2) : w.ownsRow base e size v n xs := by
  refine ⟨h.1, ?_⟩
  rcases h.2 with hn | ⟨g, cap, cur, e1, hg, rest⟩
  · exact .inl hn
  · exact .inr ⟨g, cap, cur, e1, Nat.le_trans hb hg, rest⟩
/-- a row of rows of numbers, each in a block of its own -/
structure OwnRR (base H : Nat) (w : World) (v : Value) (vs : List Value) (ll : List (List Int)) : Prop where
  out : w.ownsRow base 28 1 v ll.length vs
  inn : ∀ i (h : i < vs.length) (h2 : i < ll.length), w.ownsRow base 3 1 vs[i] ll[i].length (ints ll[i])
  apart : ∀ i j (hi : i < vs.length) (hj : j < vs.length) (g : Nat), vs[i].ownBlock = some g → vs[j].ownBlock = some g → i = j
  sep : ∀ u ∈ vs, ∀ g : Nat, u.ownBlock = some g → v.ownBlock ≠ some g
  lt : ∀ u ∈ vs, ∀ g : Nat, u.ownBlock = some g → g < H
  vlt : ∀ g : Nat, v.ownBlock = some g → g < H
section
variable {base H H2 : Nat} {w w2 : World} {v v' x : Value} {vs : List Value} {ll : List (List Int)}
theorem OwnRR.len (h : OwnRR base H w v vs ll) : vs.length = ll.length := by have := h.out.1; omega
theorem OwnRR.mono (h : OwnRR base H w v vs ll) (hH : H ≤ H2) : OwnRR base H2 w v vs ll :=
  ⟨h.out, h.inn, h.apart, h.sep, fun u hu g hg => Nat.lt_of_lt_of_le (h.lt u hu g hg) hH, fun g hg => Nat.lt_of_lt_of_le (h.vlt g hg) hH⟩
theorem OwnRR.blocks (h : OwnRR base H w v vs ll) (hk : ∀ i, i < H → w2.heap[i]? = w.heap[i]?) : OwnRR base H w2 v vs ll :=
  ⟨ownsRow_block h.out fun i hi => hk i (h.vlt i hi), fun i h1 h2 => ownsRow_block (h.inn i h1 h2) fun g hg => hk g (h.lt _ (List.getElem_mem h1) g hg), h.apart, h.sep, h.lt, h.vlt⟩
theorem OwnRR.up (h : OwnRR base H w v vs ll) (hb : Below H w w2) (hH : H ≤ w.heap.size) : OwnRR base H w2 v vs ll := h.blocks fun i hi => hb.block i hi
theorem OwnRR.lower {base2 : Nat} (h : OwnRR base2 H w v vs ll) (hb : base ≤ base2) : OwnRR base H w v vs ll :=
  ⟨ownsRow_base h.out hb, fun i h1 h2 => ownsRow_base (h.inn i h1 h2) hb, h.apart, h.sep, h.lt, h.vlt⟩
theorem OwnRR.nil (w : World) (hv : w.ownsRow base 28 1 v 0 []) (hlt : ∀ g : Nat, v.ownBlock = some g → g < H) : OwnRR base H w v [] [] :=
  ⟨hv, fun i h => (by simp at h), fun i j hi => (by simp at hi), fun u hu => (by cases hu), fun u hu => (by cases hu), hlt⟩
theorem OwnRR.app {o : Obj} {g cap : Nat} {xs : List Int} (h : OwnRR base H w v vs ll) (hx : w.ownsRow H 3 1 x xs.length (ints xs)) (hbH : base ≤ H) (hH : H ≤ w.heap.size) (hg : (w.alloc o).grownBy w2 v.ownBlock)
    (ho : w2.ownsRow base 28 1 (.slice (some ⟨g, 0, none⟩) (ll.length + 1) cap) (ll.length + 1) (vs ++ [x])) (hat : v.ownBlock = some g ∨ g = (w.alloc o).heap.size) : OwnRR base w2.heap.size w2 (.slice (some ⟨g, 0, none⟩) (ll.length + 1) cap) (vs ++ [x]) (ll ++ [xs]) := by
  have hgl := ho.lt g rfl
  have hz2 : w.heap.size + 1 ≤ w2.heap.size := by have := hg.size; simpa using this
  have hxl := fun i hi => (hx.lt i hi)
  have hlen := h.len
  have hxg : ∀ b : Nat, x.ownBlock = some b → b ≠ g := by
    intro b hb e
    subst e
    rcases hat with e | e
    · have := h.vlt _ e; have := (hxl _ hb).1; omega
    · have := (hxl _ hb).2; simp at e; omega
  have hsg : ∀ u ∈ vs, ∀ b : Nat, u.ownBlock = some b → b ≠ g := by
    intro u hu b hb e
    subst e
    rcases hat with e | e
    · exact h.sep u hu _ hb e
    · have := h.lt u hu _ hb; simp at e; omega
  refine ⟨by simpa using ho, ?_, ?_, ?_, ?_, ?_⟩
  · intro i h1 h2
    by_cases e : i < ll.length
    · rw [List.getElem_append_left (by omega), List.getElem_append_left e]
      exact ownsRow_block (h.inn i (by omega) e) fun b hb => far_grown hg (by have := h.lt _ (List.getElem_mem _) b hb; omega) (h.sep _ (List.getElem_mem _) b hb)
    · have e2 : i = ll.length := by simp at h2; omega
      subst e2
      rw [List.getElem_append_right (by omega), List.getElem_append_right (by omega)]
      simp only [hlen, Nat.sub_self, List.getElem_cons_zero]
      have h3 := ownsRow_block (w' := w2) hx fun b hb => far_grown hg (hxl b hb).2 (fun e => by have := h.vlt b e; have := (hxl b hb).1; omega)
      exact ownsRow_base h3 hbH
  · intro i j hi hj b h1 h2
    by_cases ei : i < vs.length
    · by_cases ej : j < vs.length
      · rw [List.getElem_append_left ei] at h1
        rw [List.getElem_append_left ej] at h2
        exact h.apart i j ei ej b h1 h2
      · exfalso
        have e2 : j = vs.length := by simp at hj; omega
        subst e2
        rw [List.getElem_append_left ei] at h1
        rw [List.getElem_append_right (by omega)] at h2
        simp only [Nat.sub_self, List.getElem_cons_zero] at h2
        have := h.lt _ (List.getElem_mem ei) b h1; have := (hxl b h2).1; omega
    · have e1 : i = vs.length := by simp at hi; omega
      subst e1
      by_cases ej : j < vs.length
      · exfalso
        rw [List.getElem_append_left ej] at h2
        rw [List.getElem_append_right (by omega)] at h1
        simp only [Nat.sub_self, List.getElem_cons_zero] at h1
        have := h.lt _ (List.getElem_mem ej) b h2; have := (hxl b h1).1; omega
      · simp at hj; omega
  · intro u hu b hb e
    have e2 : g = b := by simpa [Value.ownBlock] using e
    subst e2
    rcases List.mem_append.1 hu with hu | hu
    · exact hsg u hu _ hb rfl
    · rw [List.mem_singleton.1 hu] at hb; exact hxg _ hb rfl
  · intro u hu b hb
    rcases List.mem_append.1 hu with hu | hu
    · have := h.lt u hu b hb; omega
    · rw [List.mem_singleton.1 hu] at hb; have := (hxl b hb).2; omega
  · intro b hb
    have e2 : g = b := by simpa [Value.ownBlock] using hb
    omega
end
/-- rows of numbers, to read -/
def RowsAt (B : Nat) (w : World) (A : Option Addr) (ll : List (List Int)) : Prop :=
  ∀ i (h : i < ll.length), ∃ (b o : Nat) (Ar : Option Addr) (cr : Nat), A = some ⟨b, o, none⟩ ∧ b < B ∧ w.cell? ⟨b, o + i, none⟩ = some (.slice Ar ll[i].length cr) ∧ ll[i].length ≤ cr ∧ cr ≤ maxLen ∧ IntsAt B w Ar ll[i]
theorem OwnRR.rows {base H : Nat} {w : World} {v : Value} {vs : List Value} {ll : List (List Int)} (h : OwnRR base H w v vs ll) : ∃ A c, v = .slice A ll.length c ∧ ll.length ≤ c ∧ c ≤ maxLen ∧ RowsAt w.heap.size w A ll := by
  obtain ⟨A, c, rfl, h1, h2, h3⟩ := ownsRow_cells h.out
  refine ⟨A, c, rfl, h1, h2, fun i hi => ?_⟩
  have hl := h.len
  obtain ⟨b, e, hb, hc⟩ := h3 i (by omega)
  obtain ⟨Ar, cr, e1, e2, e3, e4⟩ := ownsRow_ints (h.inn i (by omega) hi)
  exact ⟨b, 0, Ar, cr, e, hb, by rw [Nat.zero_add, hc, e1], e2, e3, e4⟩
theorem RowsAt.up {B B' : Nat} {w0 w : World} {A : Option Addr} {ll : List (List Int)} (h : RowsAt B w0 A ll) (hb : Below B w0 w) (hB : B ≤ B') : RowsAt B' w A ll := by
  intro i hi
  obtain ⟨b, o, Ar, cr, e, hlt, c1, c2, c3, c4⟩ := h i hi
  exact ⟨b, o, Ar, cr, e, by omega, (hb.cell (p := ⟨b, o + i, none⟩) hlt).trans c1, c2, c3, c4.up hb hB⟩
def GivesRR (R : List (List Int) × Bool) (e : Ending) (w w' : World) : Prop :=
  ∃ v vs, e = .returned (.tuple #[v, .bool R.2]) ∧ OwnRR w.heap.size w'.heap.size w' v vs R.1 ∧ Below w.heap.size w w'
end Go.Proofs.Ytkbblekengdhaaa

set_option linter.unusedVariables false
set_option linter.unusedSimpArgs false
namespace Go.Proofs.Ytkbblekengdhaaa
open Go Go.RowKit

theorem allL_ok {S : Sh} (hS : S.Ok) : ∀ (ks : List Int) (st : MkSt) (out : List Int), Inv S S.made.length st → st.open_ = [] → KnE S st.known → (∀ k ∈ ks, (specKeyP S k).2 = true) → allL S ks st out = (out ++ ks.map (fun k => (specKeyP S k).1), true) := by
  intro ks
  induction ks with
  | nil => intro st out _ _ _ _; simp [allL]
  | cons k ks ih =>
    intro st out hi ho hK h
    rw [allL]
    have hs := keyP_spec hS S.made.length st [] k hi hK
    rw [ho] at hs
    obtain ⟨⟨h1, h2, h3⟩, h4⟩ := hs
    have hv := keyP_inv hS S.made.length st k hi
    have e : (keyP S S.made.length st k).1 = specKeyP S k := h1
    have hok : (keyP S S.made.length st k).1.2 = true := by rw [e]; exact h k (List.mem_cons_self ..)
    obtain ⟨h21, h22, h23⟩ := h2 hok
    rw [if_pos hok, ih _ _ hv.1 ((hv.2.1 hok).trans ho) h22 (fun j hj => h j (List.mem_cons_of_mem _ hj)), e]
    simp
/-- the values of an order, from nothing -/
def newP (made : List Bool) (tks : List Tk) (x : Ordr) : List Int := x.2.map fun k => (specKeyP ⟨made, tks, x.1⟩ k).1
theorem newP_all {made : List Bool} {tks : List Tk} {x : Ordr} (hS : Sh.Ok ⟨made, tks, x.1⟩) (h : safeP made (tks.map Tk.enc) = true) : allL ⟨made, tks, x.1⟩ x.2 st0 [] = (newP made tks x, true) := by
  rw [allL_ok hS x.2 st0 [] (inv0 _) rfl (knE0 _) (fun k _ => safe_all hS h k)]; rfl
structure RowFit (made : List Bool) (tks : List Tk) (l : List Ordr) : Prop where
  safe : safeP made (tks.map Tk.enc) = true
  six : l.length ≤ 6
  ok : ∀ x ∈ l, Sh.Ok ⟨made, tks, x.1⟩
  keys : ∀ x ∈ l, keysOk made.length x.2 = true
theorem rowOk_fit {made : List Bool} {tasks : List Task} {l : List Ordr} (h : rowOkP made tasks l = true) : ∃ tks, tasks = tks.map Tk.enc ∧ RowFit made tks l := by
  unfold rowOkP at h
  simp only [Bool.and_eq_true, decide_eq_true_eq, List.all_eq_true, fitO] at h
  obtain ⟨⟨h1, h2⟩, h3⟩ := h
  have hok : sheetOk made tasks = true := by have := h1; unfold safeP at this; rw [Bool.and_eq_true] at this; exact this.1
  obtain ⟨tks, rfl, -⟩ := ok_sh (inputs := List.replicate made.length 0) hok (by simp only [takesOk, List.length_replicate, Bool.and_eq_true, decide_eq_true_eq, true_and]; exact vals_iff.2 (fun x hx => by rw [List.eq_of_mem_replicate hx]; omega))
  refine ⟨tks, rfl, ⟨h1, h2, fun x hx => ?_, fun x hx => (h3 x hx).2⟩⟩
  obtain ⟨tks2, e, hS⟩ := ok_sh hok (h3 x hx).1
  rw [Tk.map_inj _ _ e]; exact hS

end Go.Proofs.Ytkbblekengdhaaa

set_option linter.unusedVariables false
set_option linter.unusedSimpArgs false
namespace Go.Proofs.Ytkbblekengdhaaa
open Go Go.RowKit

end Go.Proofs.Ytkbblekengdhaaa

set_option linter.unusedVariables false
set_option linter.unusedSimpArgs false
namespace Go.Proofs.Ytkbblekengdhaaa
open Go Go.RowKit

def RowC (g : Nat) (made : List Bool) (tasks : List Task) (l : List Ordr) (R : List (List Int) × Bool) : Prop :=
  ∀ (w : World) (Am At : Option Addr) (cm ct : Nat) (Ao : Option Addr) (co : Nat) (B : Nat) (w0 : World), Below B w0 w → B ≤ w.heap.size → SheetAt B w0 Am cm At ct made tasks → OrdsAt B w0 Ao l → l.length ≤ co → co ≤ maxLen →
    Calls Try.prog g #[.agg #[.slice Am made.length cm, .slice At tasks.length ct], .slice Ao l.length co] w (fun e w' => GivesRR R e w w')
theorem rowFit_ok {made : List Bool} {tks : List Tk} {l : List Ordr} (h : RowFit made tks l) : rowOkP made (tks.map Tk.enc) l = true := by
  unfold rowOkP
  simp only [Bool.and_eq_true, decide_eq_true_eq, List.all_eq_true, fitO]
  exact ⟨⟨h.safe, h.six⟩, fun x hx => ⟨(h.ok x hx).takes, h.keys x hx⟩⟩
theorem RowsAt.at {B : Nat} {w0 w : World} {A : Option Addr} {ll : List (List Int)} (h : RowsAt B w0 A ll) (hb : Below B w0 w) (hB : B ≤ w.heap.size) (i : Nat) (hi : i < ll.length) : ∃ (b o : Nat) (Ar : Option Addr) (cr : Nat), A = some ⟨b, o, none⟩ ∧ b < w.heap.size ∧ w.cell? ⟨b, o + i, none⟩ = some (.slice Ar ll[i].length cr) ∧ IntsAt w.heap.size w Ar ll[i] := by
  obtain ⟨b, o, Ar, cr, e, hlt, c1, c2, c3, c4⟩ := h i hi
  exact ⟨b, o, Ar, cr, e, by omega, (hb.cell (p := ⟨b, o + i, none⟩) hlt).trans c1, c4.up hb hB⟩

end Go.Proofs.Ytkbblekengdhaaa

set_option linter.unusedVariables false
set_option linter.unusedSimpArgs false
namespace Go.Proofs.Ytkbblekengdhaaa
open Go Go.RowKit

/-- a row of numbers in a block from base on, wherever in it -/
def RdR (base : Nat) (w : World) (u : Value) (xs : List Int) : Prop :=
  ∃ A c, u = .slice A xs.length c ∧ xs.length ≤ c ∧ c ≤ maxLen ∧ (xs = [] ∨ ∃ g off cur, A = some ⟨g, off, none⟩ ∧ base ≤ g ∧ w.heap[g]? = some (.cells cur 3 (0, 0)) ∧ ∀ q (h : q < xs.length), cur[off + q]? = some (Value.int .i64 xs[q]))
section
variable {base : Nat} {w w2 : World} {u v x : Value} {xs : List Int} {vs : List Value} {ll : List (List Int)}
theorem RdR.keep (h : RdR base w u xs) (hk : ∀ i, base ≤ i → i < w.heap.size → (∃ cur, w.heap[i]? = some (.cells cur 3 (0, 0))) → w2.heap[i]? = w.heap[i]?) : RdR base w2 u xs := by
  obtain ⟨A, c, e, h1, h2, h3⟩ := h
  refine ⟨A, c, e, h1, h2, ?_⟩
  rcases h3 with h3 | ⟨g, off, cur, e2, hb, hg, hc⟩
  · exact .inl h3
  · exact .inr ⟨g, off, cur, e2, hb, (hk g hb (block_lt hg) ⟨cur, hg⟩).trans hg, hc⟩
theorem RdR.own (h : w.ownsRow base 3 1 u xs.length (ints xs)) : RdR base w u xs := by
  obtain ⟨h1, ⟨rfl, h0⟩ | ⟨g, cap, cur, rfl, hb, hg, hn, hc, hs, ht⟩⟩ := h
  · have : xs = [] := List.eq_nil_of_length_eq_zero h0
    subst this
    exact ⟨none, 0, rfl, Nat.le_refl _, by simp [maxLen], .inl rfl⟩
  · refine ⟨_, cap, rfl, hn, hc, .inr ⟨g, 0, cur, rfl, hb, hg, fun q hq => ?_⟩⟩
    have h2 : (ints xs)[q]? = some (Value.int .i64 xs[q]) := by simp [ints, hq]
    rw [← h2, ← ht, List.getElem?_take_of_lt (by omega), Array.getElem?_toList, Nat.zero_add]
theorem RdR.at (h : RdR base w u xs) : ∃ A c, u = .slice A xs.length c ∧ xs.length ≤ c ∧ c ≤ maxLen ∧ IntsAt w.heap.size w A xs := by
  obtain ⟨A, c, e, h1, h2, h3⟩ := h
  refine ⟨A, c, e, h1, h2, fun q hq => ?_⟩
  rcases h3 with h3 | ⟨g, off, cur, e2, hb, hg, hc⟩
  · subst h3; simp at hq
  · exact ⟨g, off, e2, block_lt hg, by rw [cellm hg]; exact hc q hq⟩
/-- a row of rows that is owned; its rows to read -/
structure OwnRd (base : Nat) (w : World) (v : Value) (vs : List Value) (ll : List (List Int)) : Prop where
  out : w.ownsRow base 28 1 v ll.length vs
  inn : ∀ i (h : i < vs.length) (h2 : i < ll.length), RdR base w vs[i] ll[i]
theorem OwnRd.len (h : OwnRd base w v vs ll) : vs.length = ll.length := by have := h.out.1; omega
theorem OwnRd.keep (h : OwnRd base w v vs ll) (hk : ∀ i, base ≤ i → i < w.heap.size → w2.heap[i]? = w.heap[i]?) : OwnRd base w2 v vs ll :=
  ⟨ownsRow_block h.out fun i hi => hk i (h.out.lt i hi).1 (h.out.lt i hi).2, fun i h1 h2 => (h.inn i h1 h2).keep fun i h1 h2 _ => hk i h1 h2⟩
theorem OwnRd.app {o : Obj} {v' : Value} (h : OwnRd base w v vs ll) (hx : RdR base w x xs) (hg : (w.alloc o).grownBy w2 v.ownBlock)
    (ho : w2.ownsRow base 28 1 v' (ll.length + 1) (vs ++ [x])) : OwnRd base w2 v' (vs ++ [x]) (ll ++ [xs]) := by
  have hlen := h.len
  have up : ∀ (y : Value) (ys : List Int), RdR base w y ys → RdR base w2 y ys := fun y ys hy =>
    hy.keep fun i h1 h2 ⟨cur, hc⟩ => far_grown hg h2 (ownsRow_ne h.out hc (fun c e => by cases e))
  refine ⟨by simpa using ho, fun i h1 h2 => ?_⟩
  by_cases e : i < ll.length
  · rw [List.getElem_append_left (by omega), List.getElem_append_left e]
    exact up _ _ (h.inn i (by omega) e)
  · have e2 : i = ll.length := by simp at h2; omega
    subst e2
    rw [List.getElem_append_right (by omega), List.getElem_append_right (by omega)]
    simp only [hlen, Nat.sub_self, List.getElem_cons_zero]
    exact up _ _ hx
theorem OwnRd.rows (h : OwnRd base w v vs ll) : ∃ A c, v = .slice A ll.length c ∧ ll.length ≤ c ∧ c ≤ maxLen ∧ RowsAt w.heap.size w A ll := by
  obtain ⟨A, c, rfl, h1, h2, h3⟩ := ownsRow_cells h.out
  refine ⟨A, c, rfl, h1, h2, fun i hi => ?_⟩
  have hl := h.len
  obtain ⟨b, e, hb, hc⟩ := h3 i (by omega)
  obtain ⟨Ar, cr, e1, e2, e3, e4⟩ := (h.inn i (by omega) hi).at
  exact ⟨b, 0, Ar, cr, e, hb, by rw [Nat.zero_add, hc, e1], e2, e3, e4⟩
theorem OwnRd.rowsM {lo : Nat} (h : OwnRd base w v vs ll) (hl : lo ≤ base) : ∃ A c, v = .slice A ll.length c ∧ ll.length ≤ c ∧ c ≤ maxLen ∧ RowsAt w.heap.size (mask lo w) A ll := by
  obtain ⟨A, c, h1, h2, h3, h4⟩ := (h.keep (w2 := mask lo w) (fun i hi _ => mask_hi w (by omega))).rows
  exact ⟨A, c, h1, h2, h3, by simpa using h4⟩
theorem RowsAt.imp {B B' : Nat} {w w' : World} {A : Option Addr} {ll : List (List Int)} (h : RowsAt B w A ll) (hB : B ≤ B') (hw : ∀ b o v, b < B → w.cell? ⟨b, o, none⟩ = some v → w'.cell? ⟨b, o, none⟩ = some v) : RowsAt B' w' A ll := by
  intro i hi
  obtain ⟨b, o, Ar, cr, e, hlt, c1, c2, c3, c4⟩ := h i hi
  exact ⟨b, o, Ar, cr, e, by omega, hw _ _ _ hlt c1, c2, c3, c4.imp hB hw⟩
theorem RowsAt.unmask {B lo : Nat} {w : World} {A : Option Addr} {ll : List (List Int)} (h : RowsAt B (mask lo w) A ll) : RowsAt B w A ll := h.imp (Nat.le_refl _) fun b o v _ hc => mask_cell hc
end
end Go.Proofs.Ytkbblekengdhaaa
