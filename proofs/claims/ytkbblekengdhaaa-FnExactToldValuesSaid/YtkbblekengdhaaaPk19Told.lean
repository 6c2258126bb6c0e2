import Derived.Test.YtkbblekengdhaaaPk6Told
import Derived.Test.YtkbblekengdhaaaPk10Told
import Derived.Test.YtkbblekengdhaaaPk15Told
import Derived.Test.YtkbblekengdhaaaPk18Told
set_option linter.unusedVariables false
set_option linter.unusedSimpArgs false
namespace Go.Proofs.Ytkbblekengdhaaa
open Go Go.RowKit

set_option maxHeartbeats 1000000 in
theorem equalI_calls (A : Option Addr) (c : Nat) (xs : List Int) (A2 : Option Addr) (c2 : Nat) (ys : List Int) (w : World) (hx : IntsAt w.heap.size w A xs) (hy : IntsAt w.heap.size w A2 ys) (hl : xs.length ≤ maxLen) (hl2 : ys.length ≤ maxLen) :
    Calls Try.prog 48 #[.slice A xs.length c, .slice A2 ys.length c2] w fun e w' => e = .returned (.bool (decide (xs = ys))) ∧ Below w.heap.size w w' := by
  unfold maxLen at hl hl2
  by_cases hlen : xs.length = ys.length
  case neg =>
    have hr : decide (xs = ys) = false := by simp; intro e; exact hlen (by rw [e])
    have hl' : ((xs.length : Int) != (ys.length : Int)) = true := by simp; omega
    rw [hr]
    clear hr hx hy hlen
    go_enter Try.func48, Try.ntmps48
    go_wp2_with fail
    go_ret
    exact ⟨rfl, Below.refl _ _⟩
  have hl' : ((xs.length : Int) != (ys.length : Int)) = false := by simp; omega
  replace hx := Lib.hid hx
  replace hy := Lib.hid hy
  replace hlen := Lib.hid hlen
  go_enter Try.func48, Try.ntmps48
  go_wp2_with fail
  go_loopw [5, 13] (fun _ i wr => ∃ (j : Nat), j ≤ xs.length ∧ i = .int .i64 j ∧ Hid (Below w.heap.size w wr) ∧ Hid (∀ i (h1 : i < xs.length) (h2 : i < ys.length), i < j → xs[i] = ys[i])) (fun _ i _ => xs.length - (intOf i).toNat)
  case atStart => exact ⟨0, Nat.zero_le _, rfl, Lib.hid (Below.refl _ _), Lib.hid (fun i _ _ h => by omega)⟩
  case round =>
    obtain ⟨j, hj, rfl, hw, he⟩ := hrel
    by_cases hlt : j < xs.length
    · have hlt2 : j < ys.length := by have := hlen.out; omega
      obtain ⟨b, o, rfl, hb, y⟩ := hx.out.at hw.out hw.out.size j hlt
      obtain ⟨b2, o2, rfl, hb2, y2⟩ := hy.out.at hw.out hw.out.size j hlt2
      by_cases hne : xs[j] = ys[j]
      · have hne' : (xs[j] != ys[j]) = false := by simp [hne]
        have he2 : ∀ i (h1 : i < xs.length) (h2 : i < ys.length), i < j + 1 → xs[i] = ys[i] := fun i h1 h2 h3 => by
          by_cases e : i = j
          · subst e; exact hne
          · exact he.out i h1 h2 (by omega)
        replace hne := Lib.hid hne
        replace he2 := Lib.hid he2
        go_wp2_with fail
        go_region
        go_wp2_with fail
        go_roundw
        case rel => exact ⟨j + 1, by omega, by go_num, Lib.hid hw.out.drew, he2⟩
        case measure => simp [intOf]; omega
      · have hne' : (xs[j] != ys[j]) = true := by simp [hne]
        have hr : decide (xs = ys) = false := by
          rw [decide_eq_false_iff_not]
          intro e
          exact hne (by subst e; rfl)
        replace hne := Lib.hid hne
        replace hr := Lib.hid hr
        go_wp2_with fail
        go_region
        go_wp2_with fail
        go_ret
        exact ⟨by rw [hr.out]; rfl, hw.out.drew⟩
    · have hr : decide (xs = ys) = true := by
        rw [decide_eq_true_eq]
        exact List.ext_getElem hlen.out (fun i h1 h2 => he.out i h1 h2 (by omega))
      replace hr := Lib.hid hr
      go_wp2_with fail
      go_ret
      exact ⟨by rw [hr.out]; rfl, hw.out⟩

def ToldC (g : Nat) (made : List Bool) (tasks : List Task) (told : List (List Int)) (old inputs : List Int) (R : (List Int × List Int) × Bool) : Prop :=
  ∀ (w : World) (Am At : Option Addr) (cm ct : Nat) (Al : Option Addr) (cl : Nat) (Ao : Option Addr) (co : Nat) (Ai : Option Addr) (ci : Nat) (B : Nat) (w0 : World), Below B w0 w → B ≤ w.heap.size → SheetAt B w0 Am cm At ct made tasks → RowsAt B w0 Al told → IntsAt B w0 Ao old → old.length ≤ co → co ≤ maxLen → IntsAt B w0 Ai inputs → inputs.length ≤ ci → ci ≤ maxLen →
    Calls Try.prog g #[.agg #[.slice Am made.length cm, .slice At tasks.length ct], .slice Al told.length cl, .slice Ao old.length co, .slice Ai inputs.length ci] w (fun e w' => GivesTold w.heap.size R e w w')
structure ToldGood (made : List Bool) (tks : List Tk) (told : List (List Int)) (old inputs bef new order : List Int) (R : List Int × List Int) : Prop where
  S0 : Sh.Ok ⟨made, tks, old⟩
  S1 : Sh.Ok ⟨made, tks, inputs⟩
  safe : safeP made (tks.map Tk.enc) = true
  len : told.length = made.length
  hb : buildAllP ⟨made, tks, old⟩ = (bef, true)
  hn : buildAllP ⟨made, tks, inputs⟩ = (new, true)
  R : R = toldP made tks bef inputs told order
  om : ∀ x ∈ order, mkK made x = true
  on : order.Nodup
  ob : ∀ i (h : i < order.length), ∀ j ∈ mayS made (tks.map Tk.enc) order[i], j ∈ order.take i
  oall : ∀ k : Nat, k < made.length → mkK made k = true → (k : Int) ∈ order
theorem ToldGood.inv {made : List Bool} {tks : List Tk} {told : List (List Int)} {old inputs bef new order : List Int} {R : List Int × List Int} (h : ToldGood made tks told old inputs bef new order R) : TInv made bef inputs order R := by
  obtain ⟨hbl, hbv, -, -⟩ := all_law h.S0 h.hb
  have h0 : TInv made bef inputs [] ([], toldStart made bef inputs) := TInv.start (fun k => by
    unfold atK
    split
    · omega
    · by_cases h1 : k.toNat < bef.length
      · rw [getD_at _ h1]; exact hbv _ (List.getElem_mem _)
      · rw [getD_out _ (by omega)]; omega) (fun k => atK_value h.S1 k)
  have := TInv.all (tks := tks) (told := told) order h0 h.om (by simpa using h.on) (fun q hq => tk_ok h.S1 q)
  rw [h.R]
  unfold toldP
  simpa using this
theorem told_any (made : List Bool) (tasks : List Task) (told : List (List Int)) (old inputs : List Int) (hnod : ∀ T ∈ tasks, nodes T ≤ 1000000000) (hrl : ∀ x ∈ told, x.length ≤ 1048576) :
    ∃ R : (List Int × List Int) × Bool, (R.2 = false → R.1 = ([], [])) ∧ (R.2 = true → ∃ tks bef new order, tasks = tks.map Tk.enc ∧ ToldGood made tks told old inputs bef new order R.1) ∧
      ToldC 45 made tasks told old inputs R ∧ ToldC 46 made tasks told old inputs R := by
  by_cases hgood : (safeP made tasks = true ∧ takesOk made.length old = true ∧ takesOk made.length inputs = true) ∧ told.length = made.length
  · obtain ⟨⟨h1, h2, h3⟩, h4⟩ := hgood
    have hok : sheetOk made tasks = true := by have := h1; unfold safeP at this; rw [Bool.and_eq_true] at this; exact this.1
    obtain ⟨tks, rfl, hS0⟩ := ok_sh hok h2
    have hS1 : Sh.Ok ⟨made, tks, inputs⟩ := by
      obtain ⟨tks2, he, hS⟩ := ok_sh hok h3
      rw [← Tk.map_inj _ _ he] at hS; exact hS
    obtain ⟨bef, hbef⟩ : ∃ all, buildAllP ⟨made, tks, old⟩ = (all, true) := ⟨(buildAllP ⟨made, tks, old⟩).1, Prod.ext rfl (safe_build hS0 h1)⟩
    obtain ⟨new, hnew⟩ : ∃ all, buildAllP ⟨made, tks, inputs⟩ = (all, true) := ⟨(buildAllP ⟨made, tks, inputs⟩).1, Prod.ext rfl (safe_build hS1 h1)⟩
    let X0 : Int → Bool := fun k => @decide (Reach (mkK made) (mayS made (tks.map Tk.enc)) (keysN made.length) k) (Classical.propDecidable _)
    have hX0 : ∀ k, X0 k = true ↔ Reach (mkK made) (mayS made (tks.map Tk.enc)) (keysN made.length) k := fun k => by
      show @decide _ (Classical.propDecidable _) = true ↔ _
      exact @decide_eq_true_iff _ (Classical.propDecidable _)
    have hsame : ∀ X : Int → Bool, (∀ k, X k = true ↔ Reach (mkK made) (mayS made (tks.map Tk.enc)) (keysN made.length) k) → X = X0 := fun X hX => funext fun k => Bool.eq_iff_iff.2 ((hX k).trans (hX0 k).symm)
    obtain ⟨t1, t2, t3⟩ := safe_topo h1 hX0
    obtain ⟨P, hP⟩ : ∃ P, topoP X0 (mayS made (tks.map Tk.enc)) made.length (cntN X0 made.length) [] = P := ⟨_, rfl⟩
    rw [hP] at t1 t2 t3
    have hPe : P = (P.1, true) := Prod.ext rfl t1
    have hten : made.length ≤ 10 := hS0.ten
    have hkn : (keysN made.length).length ≤ maxLen := by rw [keysN_length]; unfold maxLen; omega
    have hko : keysOk made.length (keysN made.length) = true := keysOk_iff.2 (fun k hk => mem_keysN.1 hk)
    have hom : ∀ x ∈ P.1, mkK made x = true := fun x hx => ((hX0 x).1 (t2.sub x hx).2.2).isMade
    have hoall : ∀ k : Nat, k < made.length → mkK made k = true → (k : Int) ∈ P.1 := fun k hk hm => by
      refine (sub_cnt t2.nodup t2.sub).2 t3 k hk ((hX0 _).2 ?_)
      exact Go.Proofs.Ytkbblekengdhaaa.Reach.here _ (mem_keysN.2 ⟨by omega, by omega⟩) hm
    have hG : ToldGood made tks told old inputs bef new P.1 (toldP made tks bef inputs told P.1) := ⟨hS0, hS1, h1, h4, hbef, hnew, rfl, hom, t2.nodup, t2.behind, hoall⟩
    have hspec : specAllP ⟨made, tks, old⟩ = (bef, true) := by rw [← all_same hS0]; exact hbef
    refine ⟨(toldP made tks bef inputs told P.1, true), fun h => (by cases h), fun _ => ⟨tks, bef, new, P.1, rfl, hG⟩, ?_, ?_⟩
    · intro w Am At cm ct Al cl Ao co Ai ci B w0 hb hB hs hr ho hlo hmo hi hli hmi
      have := tells_good Am At Ao Ai Al cm ct co ci cl made tks old inputs bef P.1 told B w0 w hb hB hs hS0 hS1 h1 ho hlo hmo hi hli hmi hr h4 hbef hom t2.nodup (fun x hx => by have := hrl x hx; unfold maxLen; omega) (fun w1 Ak ck hw hk => by
        have h := orderTopo_good Am At Ak cm ct ck made (tks.map Tk.enc) (keysN made.length) w1.heap.size w1 w1 (Below.refl _ _) (Nat.le_refl _) (hs.up (below_up' hb hB hw) (Nat.le_trans hB hw.size)) h1 hk hkn hko
        rw [keysN_length] at h
        simp only [List.length_map] at h
        refine h.mono ?_
        rintro e w2 ⟨X, hX, h⟩
        rw [hsame X hX, hP, hPe] at h
        exact h)
      simp only [List.length_map]
      exact this
    · intro w Am At cm ct Al cl Ao co Ai ci B w0 hb hB hs hr ho hlo hmo hi hli hmi
      have := l12Told_good Am At Ao Ai Al cm ct co ci cl made tks old inputs bef P.1 told B w0 w hb hB hs hnod hS0 hS1 h1 ho hlo hmo hi hli hmi hr h4 hbef hspec hom t2.nodup hrl (fun w1 Ak ck hw hk => by
        have h := specOrderTopo_good Am At Ak cm ct ck made (tks.map Tk.enc) (keysN made.length) w1.heap.size w1 w1 (Below.refl _ _) (Nat.le_refl _) (hs.up (below_up' hb hB hw) (Nat.le_trans hB hw.size)) h1 hnod hk (by rw [keysN_length]; omega) hko
        rw [keysN_length] at h
        simp only [List.length_map] at h
        refine h.mono ?_
        rintro e w2 ⟨X, hX, h⟩
        rw [hsame X hX, hP, hPe] at h
        exact h)
      simp only [List.length_map]
      exact this
  · refine ⟨(([], []), false), fun _ => rfl, fun h => (by cases h), ?_, ?_⟩
    · intro w Am At cm ct Al cl Ao co Ai ci B w0 hb hB hs hr ho hlo hmo hi hli hmi
      by_cases hl : told.length = made.length
      · rw [hl]
        refine tells_bad Am At Ao Ai Al cm ct co ci cl made tasks old inputs B w0 w hs ho (Nat.le_trans hlo hmo) hi (Nat.le_trans hli hmi) hb hB (fun a b => ?_)
        cases h : takesOk made.length inputs with
        | false => rfl
        | true => exact (hgood ⟨⟨a, b, h⟩, hl⟩).elim
      · exact tells_len Am At Ao Ai Al cm ct co ci cl told.length old.length inputs.length made tasks B w0 w hs hb hB hl
    · intro w Am At cm ct Al cl Ao co Ai ci B w0 hb hB hs hr ho hlo hmo hi hli hmi
      by_cases hl : told.length = made.length
      · rw [hl]
        refine l12Told_bad Am At Ao Ai Al cm ct co ci cl made tasks old inputs B w0 w hs ho (Nat.le_trans hlo hmo) hi (Nat.le_trans hli hmi) hb hB hnod (fun a b => ?_)
        have hok : sheetOk made tasks = true := by have := a; unfold safeP at this; rw [Bool.and_eq_true] at this; exact this.1
        unfold inputsOk at b ⊢
        rw [hok, Bool.true_and] at b ⊢
        cases h : takesOk made.length inputs with
        | false => rfl
        | true => exact (hgood ⟨⟨a, b, h⟩, hl⟩).elim
      · exact l12Told_len Am At Ao Ai Al cm ct co ci cl told.length old.length inputs.length made.length tasks.length w hl
end Go.Proofs.Ytkbblekengdhaaa

set_option linter.unusedVariables false
set_option linter.unusedSimpArgs false
namespace Go.Proofs.Ytkbblekengdhaaa
open Go Go.RowKit


set_option maxHeartbeats 4000000 in
theorem toldRuns_calls (Am At Al Ao Ai : Option Addr) (cm ct cl co ci nm nt nl no ni : Nat) (R : (List Int × List Int) × Bool) (w : World) (h : ∀ w1, Below w.heap.size w w1 → Calls Try.prog 45 #[.agg #[.slice Am nm cm, .slice At nt ct], .slice Al nl cl, .slice Ao no co, .slice Ai ni ci] w1 (fun e w' => GivesTold w1.heap.size R e w1 w')) :
    Calls Try.prog 15 #[.agg #[.slice Am nm cm, .slice At nt ct], .slice Al nl cl, .slice Ao no co, .slice Ai ni ci] w fun e w' => GivesOwn w.heap.size (R.1.1, R.2) e w w' := by
  replace h := Lib.hid h
  go_enter Try.func15, Try.ntmps15
  go_wp2_with fail
  refine (h.out _ (below_al (Below.refl _ _) _)).mono ?_
  rintro e w1 ⟨vr, vn, rfl, h1, h2, h3⟩
  have b1 := below_from h3
  have o1 := own_low2 h1 (base' := w.heap.size) (by simp)
  have o2 := own_low2 h2 (base' := w.heap.size) (by simp)
  replace b1 := Lib.hid b1
  replace o1 := Lib.hid o1
  replace o2 := Lib.hid o2
  clear h1 h2 h3 h
  go_wp2_with fail
  go_ret2
  exact ⟨_, rfl, o1.out, b1.out⟩

set_option maxHeartbeats 4000000 in
theorem toldValues_calls (Am At Al Ao Ai : Option Addr) (cm ct cl co ci nm nt nl no ni : Nat) (R : (List Int × List Int) × Bool) (w : World) (h : ∀ w1, Below w.heap.size w w1 → Calls Try.prog 45 #[.agg #[.slice Am nm cm, .slice At nt ct], .slice Al nl cl, .slice Ao no co, .slice Ai ni ci] w1 (fun e w' => GivesTold w1.heap.size R e w1 w')) :
    Calls Try.prog 11 #[.agg #[.slice Am nm cm, .slice At nt ct], .slice Al nl cl, .slice Ao no co, .slice Ai ni ci] w fun e w' => GivesOwn w.heap.size (R.1.2, R.2) e w w' := by
  replace h := Lib.hid h
  go_enter Try.func11, Try.ntmps11
  go_wp2_with fail
  refine (h.out _ (below_al (Below.refl _ _) _)).mono ?_
  rintro e w1 ⟨vr, vn, rfl, h1, h2, h3⟩
  have b1 := below_from h3
  have o1 := own_low2 h1 (base' := w.heap.size) (by simp)
  have o2 := own_low2 h2 (base' := w.heap.size) (by simp)
  replace b1 := Lib.hid b1
  replace o1 := Lib.hid o1
  replace o2 := Lib.hid o2
  clear h1 h2 h3 h
  go_wp2_with fail
  go_ret2
  exact ⟨_, rfl, o2.out, b1.out⟩

set_option maxHeartbeats 4000000 in
theorem specToldRuns_calls (Am At Al Ao Ai : Option Addr) (cm ct cl co ci nm nt nl no ni : Nat) (R : (List Int × List Int) × Bool) (w : World) (h : ∀ w1, Below w.heap.size w w1 → Calls Try.prog 46 #[.agg #[.slice Am nm cm, .slice At nt ct], .slice Al nl cl, .slice Ao no co, .slice Ai ni ci] w1 (fun e w' => GivesTold w1.heap.size R e w1 w')) :
    Calls Try.prog 16 #[.agg #[.slice Am nm cm, .slice At nt ct], .slice Al nl cl, .slice Ao no co, .slice Ai ni ci] w fun e w' => GivesOwn w.heap.size (R.1.1, R.2) e w w' := by
  replace h := Lib.hid h
  go_enter Try.func16, Try.ntmps16
  go_wp2_with fail
  refine (h.out _ (below_al (Below.refl _ _) _)).mono ?_
  rintro e w1 ⟨vr, vn, rfl, h1, h2, h3⟩
  have b1 := below_from h3
  have o1 := own_low2 h1 (base' := w.heap.size) (by simp)
  have o2 := own_low2 h2 (base' := w.heap.size) (by simp)
  replace b1 := Lib.hid b1
  replace o1 := Lib.hid o1
  replace o2 := Lib.hid o2
  clear h1 h2 h3 h
  go_wp2_with fail
  go_ret2
  exact ⟨_, rfl, o1.out, b1.out⟩

set_option maxHeartbeats 4000000 in
theorem specToldValues_calls (Am At Al Ao Ai : Option Addr) (cm ct cl co ci nm nt nl no ni : Nat) (R : (List Int × List Int) × Bool) (w : World) (h : ∀ w1, Below w.heap.size w w1 → Calls Try.prog 46 #[.agg #[.slice Am nm cm, .slice At nt ct], .slice Al nl cl, .slice Ao no co, .slice Ai ni ci] w1 (fun e w' => GivesTold w1.heap.size R e w1 w')) :
    Calls Try.prog 12 #[.agg #[.slice Am nm cm, .slice At nt ct], .slice Al nl cl, .slice Ao no co, .slice Ai ni ci] w fun e w' => GivesOwn w.heap.size (R.1.2, R.2) e w w' := by
  replace h := Lib.hid h
  go_enter Try.func12, Try.ntmps12
  go_wp2_with fail
  refine (h.out _ (below_al (Below.refl _ _) _)).mono ?_
  rintro e w1 ⟨vr, vn, rfl, h1, h2, h3⟩
  have b1 := below_from h3
  have o1 := own_low2 h1 (base' := w.heap.size) (by simp)
  have o2 := own_low2 h2 (base' := w.heap.size) (by simp)
  replace b1 := Lib.hid b1
  replace o1 := Lib.hid o1
  replace o2 := Lib.hid o2
  clear h1 h2 h3 h
  go_wp2_with fail
  go_ret2
  exact ⟨_, rfl, o2.out, b1.out⟩

set_option maxHeartbeats 4000000 in
theorem toldRight_calls (Am At Al Ao Ai : Option Addr) (cm ct cl co ci nm nt nl no ni : Nat) (V N : List Int) (ok fine : Bool) (hV : V.length ≤ 1000) (hN : N.length ≤ 1000) (w : World) (h : ∀ w1, Below w.heap.size w w1 → Calls Try.prog 11 #[.agg #[.slice Am nm cm, .slice At nt ct], .slice Al nl cl, .slice Ao no co, .slice Ai ni ci] w1 (fun e w' => GivesOwn w1.heap.size (V, ok) e w1 w'))
    (hall : ∀ w1, Below w.heap.size w w1 → Calls Try.prog 47 #[.agg #[.slice Am nm cm, .slice At nt ct], .slice Ai ni ci] w1 (fun e w' => GivesList (N, fine) e w1 w')) :
    Calls Try.prog 19 #[.agg #[.slice Am nm cm, .slice At nt ct], .slice Al nl cl, .slice Ao no co, .slice Ai ni ci] w fun e w' => e = .returned (.bool (ok && (fine && decide (V = N)))) ∧ Below w.heap.size w w' := by
  obtain ⟨d, hd⟩ : ∃ d, decide (V = N) = d := ⟨_, rfl⟩
  rw [hd]
  replace hd := Lib.hid hd
  replace h := Lib.hid h
  replace hall := Lib.hid hall
  go_enter Try.func19, Try.ntmps19
  go_wp2_with fail
  refine (h.out _ (below_al (Below.refl _ _) _)).mono ?_
  rintro e w1 ⟨v, rfl, h1, h3⟩
  dsimp only at h1 ⊢
  obtain ⟨Av, cv, ev, hv1, hv2, hv3⟩ := ownsRow_ints h1
  subst ev
  have x0 : w1.cell? ⟨w.heap.size, 0, none⟩ = some (.slice Am nm cm) := (h3.cell (p := ⟨w.heap.size, 0, none⟩) (by simp)).trans (by simp)
  have x1 : w1.cell? ⟨w.heap.size, 1, none⟩ = some (.slice At nt ct) := (h3.cell (p := ⟨w.heap.size, 1, none⟩) (by simp)).trans (by simp)
  have b1 := below_from h3
  replace b1 := Lib.hid b1
  replace hv3 := Lib.hid hv3
  clear h1 h3 h
  go_wp2_with fail
  refine (hall.out _ b1.out).mono ?_
  rintro e w2 ⟨An, cn, rfl, hn1, hn2, hn3, h2⟩
  dsimp only at hn1 hn3 ⊢
  have b2 := below_up b1.out h2
  have hv4 := hv3.out.up h2 h2.size
  have heq := equalI_calls Av cv V An cn N w2 hv4 hn3 (by unfold maxLen; omega) (by unfold maxLen; omega)
  rw [hd.out] at heq
  replace b2 := Lib.hid b2
  replace heq := Lib.hid heq
  clear h2 hv4 hn3 hall x0 x1 b1 hv3
  cases ok with
  | false =>
    go_wp2_with fail
    go_ret
    exact ⟨rfl, b2.out⟩
  | true =>
    cases fine with
    | false =>
      go_wp2_with fail
      go_ret
      exact ⟨rfl, b2.out⟩
    | true =>
      go_wp2_with fail
      refine heq.out.mono ?_
      rintro e w3 ⟨rfl, h3⟩
      have b3 := below_up b2.out h3
      replace b3 := Lib.hid b3
      clear h3
      go_wp2_with fail
      go_ret
      exact ⟨rfl, b3.out⟩

set_option maxHeartbeats 4000000 in
theorem specToldRight_no (Am At Al Ao Ai : Option Addr) (cm ct cl co ci nm nt nl no ni : Nat) (w : World) (h : ∀ w1, Below w.heap.size w w1 → Calls Try.prog 46 #[.agg #[.slice Am nm cm, .slice At nt ct], .slice Al nl cl, .slice Ao no co, .slice Ai ni ci] w1 (fun e w' => GivesTold w1.heap.size (([], []), false) e w1 w')) :
    Calls Try.prog 20 #[.agg #[.slice Am nm cm, .slice At nt ct], .slice Al nl cl, .slice Ao no co, .slice Ai ni ci] w fun e w' => e = .returned (.bool false) ∧ Below w.heap.size w w' := by
  replace h := Lib.hid h
  go_enter Try.func20, Try.ntmps20
  go_wp2_with fail
  refine (h.out _ (below_al (Below.refl _ _) _)).mono ?_
  rintro e w1 ⟨vr, vn, rfl, h1, h2, h3⟩
  have b1 := below_from h3
  replace b1 := Lib.hid b1
  clear h1 h2 h3 h
  go_wp2_with fail
  go_ret
  exact ⟨rfl, b1.out⟩

set_option maxHeartbeats 4000000 in
theorem specToldRight_yes (Am At Al Ao Ai : Option Addr) (cm ct cl co ci nm nt nl no ni : Nat) (R V N : List Int) (hl : V.length = N.length) (hN : N.length ≤ 1000) (w : World) (h : ∀ w1, Below w.heap.size w w1 → Calls Try.prog 46 #[.agg #[.slice Am nm cm, .slice At nt ct], .slice Al nl cl, .slice Ao no co, .slice Ai ni ci] w1 (fun e w' => GivesTold w1.heap.size ((R, V), true) e w1 w'))
    (hall : ∀ w1, Below w.heap.size w w1 → Calls Try.prog 49 #[.agg #[.slice Am nm cm, .slice At nt ct], .slice Ai ni ci] w1 (fun e w' => GivesRow (N, true) e w1 w')) :
    Calls Try.prog 20 #[.agg #[.slice Am nm cm, .slice At nt ct], .slice Al nl cl, .slice Ao no co, .slice Ai ni ci] w fun e w' => e = .returned (.bool (decide (V = N))) ∧ Below w.heap.size w w' := by
  replace h := Lib.hid h
  replace hall := Lib.hid hall
  replace hl := Lib.hid hl
  go_enter Try.func20, Try.ntmps20
  go_wp2_with fail
  refine (h.out _ (below_al (Below.refl _ _) _)).mono ?_
  rintro e w1 ⟨vr, v, rfl, -, h1, h3⟩
  dsimp only at h1 ⊢
  obtain ⟨Av, cv, ev, hv1, hv2, hv3⟩ := ownsRow_ints h1
  subst ev
  have x0 : w1.cell? ⟨w.heap.size, 0, none⟩ = some (.slice Am nm cm) := (h3.cell (p := ⟨w.heap.size, 0, none⟩) (by simp)).trans (by simp)
  have x1 : w1.cell? ⟨w.heap.size, 1, none⟩ = some (.slice At nt ct) := (h3.cell (p := ⟨w.heap.size, 1, none⟩) (by simp)).trans (by simp)
  have b1 := below_from h3
  replace b1 := Lib.hid b1
  replace hv3 := Lib.hid hv3
  clear h1 h3 h
  go_wp2_with fail
  refine (hall.out _ b1.out).mono ?_
  rintro e w2 ⟨vn, rfl, hn, h2⟩
  dsimp only at hn ⊢
  obtain ⟨An, cn, en, hn1, hn2, hn3⟩ := ownsRow_ints hn
  subst en
  have b2 := below_up b1.out h2
  have hv4 := hv3.out.up h2 h2.size
  replace b2 := Lib.hid b2
  replace hv4 := Lib.hid hv4
  replace hn3 := Lib.hid hn3
  clear h2 hall x0 x1 b1 hv3 hn
  go_wp2_with fail
  go_loopw [14] (fun i wr => ∃ (j : Nat), j ≤ N.length ∧ i = .int .i64 j ∧ Hid (Below w2.heap.size w2 wr) ∧ Hid (∀ i (h1 : i < N.length) (h2 : i < V.length), i < j → N[i] = V[i])) (fun i _ => N.length - (intOf i).toNat)
  case atStart => exact ⟨0, Nat.zero_le _, rfl, Lib.hid (Below.refl _ _), Lib.hid (fun i _ _ h => by omega)⟩
  case round =>
    obtain ⟨j, hj, rfl, hw, he⟩ := hrel
    by_cases hlt : j < N.length
    · have hlt2 : j < V.length := by have := hl.out; omega
      obtain ⟨b, o, rfl, hb, y⟩ := hn3.out.at hw.out hw.out.size j hlt
      obtain ⟨b2', o2, rfl, hb2, y2⟩ := hv4.out.at hw.out hw.out.size j hlt2
      by_cases hne : N[j] = V[j]
      · have hne' : (N[j] != V[j]) = false := by simp [hne]
        have he2 : ∀ i (h1 : i < N.length) (h2 : i < V.length), i < j + 1 → N[i] = V[i] := fun i h1 h2 h3 => by
          by_cases e : i = j
          · subst e; exact hne
          · exact he.out i h1 h2 (by omega)
        replace hne := Lib.hid hne
        replace he2 := Lib.hid he2
        go_wp2_with fail
        go_region
        go_wp2_with fail
        go_roundw
        case rel => exact ⟨j + 1, by omega, by go_num, Lib.hid hw.out.drew, he2⟩
        case measure => simp [intOf]; omega
      · have hne' : (N[j] != V[j]) = true := by simp [hne]
        have hr : decide (V = N) = false := by
          rw [decide_eq_false_iff_not]
          intro e
          exact hne (by subst e; rfl)
        replace hne := Lib.hid hne
        replace hr := Lib.hid hr
        go_wp2_with fail
        go_region
        go_wp2_with fail
        go_ret
        exact ⟨by rw [hr.out]; rfl, b2.out.trans (hw.out.drew.mono b2.out.size)⟩
    · have hr : decide (V = N) = true := by
        rw [decide_eq_true_iff]
        exact List.ext_getElem hl.out (fun i h1 h2 => (he.out i h2 h1 (by omega)).symm)
      replace hr := Lib.hid hr
      go_wp2_with fail
      go_ret
      exact ⟨by rw [hr.out]; rfl, b2.out.trans (hw.out.mono b2.out.size)⟩

/-- the three functions of both programs -/
def ToldW (g : Nat) (made : List Bool) (tasks : List Task) (told : List (List Int)) (old inputs : List Int) (R : List Int × Bool) : Prop :=
  ∀ (w : World) (Am At : Option Addr) (cm ct : Nat) (Al : Option Addr) (cl : Nat) (Ao : Option Addr) (co : Nat) (Ai : Option Addr) (ci : Nat) (B : Nat) (w0 : World), Below B w0 w → B ≤ w.heap.size → SheetAt B w0 Am cm At ct made tasks → RowsAt B w0 Al told → IntsAt B w0 Ao old → old.length ≤ co → co ≤ maxLen → IntsAt B w0 Ai inputs → inputs.length ≤ ci → ci ≤ maxLen →
    Calls Try.prog g #[.agg #[.slice Am made.length cm, .slice At tasks.length ct], .slice Al told.length cl, .slice Ao old.length co, .slice Ai inputs.length ci] w (fun e w' => GivesOwn w.heap.size R e w w')
def ToldB (g : Nat) (made : List Bool) (tasks : List Task) (told : List (List Int)) (old inputs : List Int) (r : Bool) : Prop :=
  ∀ (w : World) (Am At : Option Addr) (cm ct : Nat) (Al : Option Addr) (cl : Nat) (Ao : Option Addr) (co : Nat) (Ai : Option Addr) (ci : Nat) (B : Nat) (w0 : World), Below B w0 w → B ≤ w.heap.size → SheetAt B w0 Am cm At ct made tasks → RowsAt B w0 Al told → IntsAt B w0 Ao old → old.length ≤ co → co ≤ maxLen → IntsAt B w0 Ai inputs → inputs.length ≤ ci → ci ≤ maxLen →
    Calls Try.prog g #[.agg #[.slice Am made.length cm, .slice At tasks.length ct], .slice Al told.length cl, .slice Ao old.length co, .slice Ai inputs.length ci] w (fun e w' => e = .returned (.bool r) ∧ Below w.heap.size w w')
structure ToldAll (made : List Bool) (tasks : List Task) (told : List (List Int)) (old inputs : List Int) (R : (List Int × List Int) × Bool) (r : Bool) : Prop where
  no : R.2 = false → R.1 = ([], []) ∧ r = false
  yes : R.2 = true → ∃ tks bef new order, tasks = tks.map Tk.enc ∧ ToldGood made tks told old inputs bef new order R.1 ∧ r = decide (R.1.2 = new)
  iruns : ToldW 15 made tasks told old inputs (R.1.1, R.2)
  sruns : ToldW 16 made tasks told old inputs (R.1.1, R.2)
  ivals : ToldW 11 made tasks told old inputs (R.1.2, R.2)
  svals : ToldW 12 made tasks told old inputs (R.1.2, R.2)
  iright : ToldB 19 made tasks told old inputs r
  sright : ToldB 20 made tasks told old inputs r
theorem told_all (made : List Bool) (tasks : List Task) (told : List (List Int)) (old inputs : List Int) (hnod : ∀ T ∈ tasks, nodes T ≤ 1000000000) (hrl : ∀ x ∈ told, x.length ≤ 1048576) : ∃ R r, ToldAll made tasks told old inputs R r := by
  obtain ⟨R, hno, hyes, hI, hS⟩ := told_any made tasks told old inputs hnod hrl
  obtain ⟨⟨nl, fine⟩, hN10, hNf, hNc⟩ := all_any made tasks inputs
  dsimp only at hN10
  have iv : ToldW 11 made tasks told old inputs (R.1.2, R.2) := fun w Am At cm ct Al cl Ao co Ai ci B w0 hb hB hs hr ho hlo hmo hi hli hmi =>
    toldValues_calls Am At Al Ao Ai cm ct cl co ci made.length tasks.length told.length old.length inputs.length R w (fun w1 hw => hI w1 Am At cm ct Al cl Ao co Ai ci B w0 (below_up' hb hB hw) (Nat.le_trans hB hw.size) hs hr ho hlo hmo hi hli hmi)
  obtain ⟨r, hr⟩ : ∃ r, (R.2 && (fine && decide (R.1.2 = nl))) = r := ⟨_, rfl⟩
  have hlen : R.1.2.length ≤ 1000 := by
    cases h : R.2 with
    | false => rw [hno h]; simp
    | true =>
      obtain ⟨tks, bef, new, order, rfl, hG⟩ := hyes h
      have h1 := hG.inv.len
      have h2 := hG.S0.ten
      simp only at h2
      omega
  have hgd : R.2 = true → ∃ tks bef new order, tasks = tks.map Tk.enc ∧ ToldGood made tks told old inputs bef new order R.1 ∧ r = decide (R.1.2 = new) ∧ nl = new ∧ fine = true := fun h => by
    obtain ⟨tks, bef, new, order, rfl, hG⟩ := hyes h
    have h1 := hNf.is tks rfl hG.S1
    rw [hG.hn] at h1
    cases h1
    refine ⟨tks, bef, nl, order, rfl, hG, ?_, rfl, rfl⟩
    rw [← hr, h]; rfl
  refine ⟨R, r, fun h => ⟨hno h, by rw [← hr, h]; rfl⟩, fun h => ?_, ?_, ?_, iv, ?_, ?_, ?_⟩
  · obtain ⟨tks, bef, new, order, a, b, c, -, -⟩ := hgd h
    exact ⟨tks, bef, new, order, a, b, c⟩
  · exact fun w Am At cm ct Al cl Ao co Ai ci B w0 hb hB hs hr ho hlo hmo hi hli hmi =>
      toldRuns_calls Am At Al Ao Ai cm ct cl co ci made.length tasks.length told.length old.length inputs.length R w (fun w1 hw => hI w1 Am At cm ct Al cl Ao co Ai ci B w0 (below_up' hb hB hw) (Nat.le_trans hB hw.size) hs hr ho hlo hmo hi hli hmi)
  · exact fun w Am At cm ct Al cl Ao co Ai ci B w0 hb hB hs hr ho hlo hmo hi hli hmi =>
      specToldRuns_calls Am At Al Ao Ai cm ct cl co ci made.length tasks.length told.length old.length inputs.length R w (fun w1 hw => hS w1 Am At cm ct Al cl Ao co Ai ci B w0 (below_up' hb hB hw) (Nat.le_trans hB hw.size) hs hr ho hlo hmo hi hli hmi)
  · exact fun w Am At cm ct Al cl Ao co Ai ci B w0 hb hB hs hr ho hlo hmo hi hli hmi =>
      specToldValues_calls Am At Al Ao Ai cm ct cl co ci made.length tasks.length told.length old.length inputs.length R w (fun w1 hw => hS w1 Am At cm ct Al cl Ao co Ai ci B w0 (below_up' hb hB hw) (Nat.le_trans hB hw.size) hs hr ho hlo hmo hi hli hmi)
  · intro w Am At cm ct Al cl Ao co Ai ci B w0 hb hB hs hr' ho hlo hmo hi hli hmi
    rw [← hr]
    exact toldRight_calls Am At Al Ao Ai cm ct cl co ci made.length tasks.length told.length old.length inputs.length R.1.2 nl R.2 fine hlen (by omega) w
      (fun w1 hw => iv w1 Am At cm ct Al cl Ao co Ai ci B w0 (below_up' hb hB hw) (Nat.le_trans hB hw.size) hs hr' ho hlo hmo hi hli hmi)
      (fun w1 hw => hNc w1 Am At cm ct Ai ci B w0 (below_up' hb hB hw) (Nat.le_trans hB hw.size) hs hi hli hmi)
  · intro w Am At cm ct Al cl Ao co Ai ci B w0 hb hB hs hr' ho hlo hmo hi hli hmi
    have hc := fun (w1 : World) (hw : Below w.heap.size w w1) => hS w1 Am At cm ct Al cl Ao co Ai ci B w0 (below_up' hb hB hw) (Nat.le_trans hB hw.size) hs hr' ho hlo hmo hi hli hmi
    obtain ⟨⟨Rr, Rv⟩, ok⟩ := R
    cases ok with
    | false =>
      have e := hno rfl
      dsimp only at e
      rw [e] at hc
      have er : r = false := by rw [← hr]; rfl
      rw [er]
      exact specToldRight_no Am At Al Ao Ai cm ct cl co ci made.length tasks.length told.length old.length inputs.length w hc
    | true =>
      obtain ⟨tks, bef, new, order, rfl, hG, c, e1, -⟩ := hgd rfl
      rw [c]
      dsimp only at hG ⊢
      have h1 := hG.inv.len
      obtain ⟨h2, -, -, -⟩ := all_law hG.S1 hG.hn
      dsimp only at h1 h2
      refine specToldRight_yes Am At Al Ao Ai cm ct cl co ci made.length _ told.length old.length inputs.length Rr Rv new (by omega) (by rw [← e1]; omega) w hc (fun w1 hw => ?_)
      have := specBuildAll_good ⟨Am, cm, At, ct, Ai, ci, B, w0⟩ ⟨made, tks, inputs⟩ ⟨hs, hi, hli, hmi, hG.S1⟩ hnod w1 (below_up' hb hB hw) (Nat.le_trans hB hw.size)
      rw [← all_same hG.S1, hG.hn] at this
      simp only [List.length_map]
      exact this
end Go.Proofs.Ytkbblekengdhaaa

set_option linter.unusedVariables false
set_option linter.unusedSimpArgs false
namespace Go.Proofs.Ytkbblekengdhaaa
open Go Go.RowKit

theorem told_len {made : List Bool} {tasks : List Task} {told : List (List Int)} {old inputs : List Int} {R : (List Int × List Int) × Bool} {r : Bool} (h : ToldAll made tasks told old inputs R r) : R.1.1.length ≤ 1000000 ∧ R.1.2.length ≤ 1000000 := by
  cases e : R.2 with
  | false => rw [(h.no e).1]; simp
  | true =>
    obtain ⟨tks, bef, new, order, rfl, hG, -⟩ := h.yes e
    have hi := hG.inv
    have h10 := hG.S0.ten
    simp only at h10
    have := nodup_bound (n := made.length) hi.nodup (fun x hx => mkK_range (by rw [hi.madeOf x (hi.sub x hx)]; simp))
    have := hi.len
    omega
theorem ToldAll.runs {made : List Bool} {tasks : List Task} {told : List (List Int)} {old inputs : List Int} {R : (List Int × List Int) × Bool} {r : Bool} (h : ToldAll made tasks told old inputs R r) : R.1.1.Nodup ∧ ∀ x ∈ R.1.1, mkK made x = true := by
  cases e : R.2 with
  | false => rw [(h.no e).1]; simp
  | true =>
    obtain ⟨tks, bef, new, order, rfl, hG, -⟩ := h.yes e
    exact ⟨hG.inv.nodup, fun x hx => hG.inv.madeOf x (hG.inv.sub x hx)⟩
theorem ToldAll.vals {made : List Bool} {tasks : List Task} {told : List (List Int)} {old inputs : List Int} {R : (List Int × List Int) × Bool} {r : Bool} (h : ToldAll made tasks told old inputs R r) : (R.1.2 = [] ∨ R.1.2.length = made.length ∧ inputs.length = made.length) ∧ ∀ k : Nat, k < R.1.2.length → mkK made k = false → atK R.1.2 k = atK inputs k := by
  cases e : R.2 with
  | false => rw [(h.no e).1]; simp
  | true =>
    obtain ⟨tks, bef, new, order, rfl, hG, -⟩ := h.yes e
    exact ⟨.inr ⟨hG.inv.len, hG.S1.ins⟩, fun k hk hm => hG.inv.unm k (by rw [← hG.inv.len]; exact hk) hm⟩
theorem mkK_at {made : List Bool} (q : Nat) (h : q < made.length) : mkK made q = made[q] := by
  unfold mkK
  rw [if_neg (by omega)]
  simp [List.getD, h]
theorem ToldAll.full {made : List Bool} {tasks : List Task} {old inputs : List Int} {R : (List Int × List Int) × Bool} {r : Bool} (h : ToldAll made tasks (tasks.map mayList) old inputs R r) : r = R.2 := by
  cases e : R.2 with
  | false => exact (h.no e).2
  | true =>
    obtain ⟨tks, bef, new, order, rfl, hG, rfl⟩ := h.yes e
    have ht : Tells made tks ((tks.map Tk.enc).map mayList) := fun q hq hm j hj hmay => by
      have hl := hG.S0.len
      simp only at hl
      have hql : q < tks.length := by omega
      have e1 : toldAt ((tks.map Tk.enc).map mayList) q = mayList tks[q].enc := by simp [toldAt, hql]
      have e2 : tkAt made tks q = tks[q] := by simp [tkAt, Sh.tk, hql]
      rw [e2] at hmay
      rw [e1, mem_mayList]
      exact ⟨hG.S0.okT hql, hj.1, hj.2, hmay⟩
    have h1 := told_right hG.S0 hG.S1 hG.hb hG.hn ht hG.om hG.on hG.ob hG.oall
    rw [← hG.R] at h1
    simp [h1]
end Go.Proofs.Ytkbblekengdhaaa
