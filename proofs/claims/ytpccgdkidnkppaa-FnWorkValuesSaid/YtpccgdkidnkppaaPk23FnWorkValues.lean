import Derived.Deep.RegionHeld3
import Derived.Lib.AppendZerosOnto
import Derived.Test.YtpccgdkidnkppaaPk6FnWorkValues
import Derived.Test.YtpccgdkidnkppaaPk12FnWorkValues
import Derived.Test.YtpccgdkidnkppaaPk22FnWorkValues
set_option linter.unusedVariables false
set_option linter.unusedSimpArgs false
namespace Go.Proofs.Ytpccgdkidnkppaa
open Go Go.RowKit

/-- workers cannot work -/
def NoWork (g : Nat) (w : World) (args : Array Value) : Prop := ∀ w1, Below w.heap.size w w1 → Calls Try.prog g args w1 fun e w' => e = .returned (.tuple #[.pointer none, .bool false]) ∧ Below w1.heap.size w1 w'

set_option maxHeartbeats 4000000 in
theorem workValues_no (Am At Ai Ak Av : Option Addr) (cm ct ci ck cv n1 n2 ni nk nv : Nat) (w : World) (h : NoWork 104 w #[.agg #[.slice Am n1 cm, .slice At n2 ct], .slice Ai ni ci, .slice Ak nk ck, .slice Av nv cv]) :
    Calls Try.prog 46 #[.agg #[.slice Am n1 cm, .slice At n2 ct], .slice Ai ni ci, .slice Ak nk ck, .slice Av nv cv] w fun e w' => GivesList ([], false) e w w' := by
  replace h := Lib.hid h
  go_enter Try.func46, Try.ntmps46
  go_wp2_with fail
  refine (h.out _ (below_al (Below.refl _ _) _)).mono ?_
  rintro e w1 ⟨rfl, h1⟩
  have b1 := below_from h1
  have hl : GivesList ([], false) (.returned (.tuple #[.slice none 0 0, .bool false])) w w1 := ⟨none, 0, rfl, Nat.le_refl _, by simp [maxLen], RowAt.nil _ _ _ _, b1⟩
  replace hl := Lib.hid hl
  replace b1 := Lib.hid b1
  clear h1
  go_wp2_with fail
  go_ret2
  exact hl.out

set_option maxHeartbeats 4000000 in
theorem workWanted_no (Am At Ai Ak Av : Option Addr) (cm ct ci ck cv n1 n2 ni nk nv : Nat) (w : World) (h : NoWork 104 w #[.agg #[.slice Am n1 cm, .slice At n2 ct], .slice Ai ni ci, .slice Ak nk ck, .slice Av nv cv]) :
    Calls Try.prog 50 #[.agg #[.slice Am n1 cm, .slice At n2 ct], .slice Ai ni ci, .slice Ak nk ck, .slice Av nv cv] w fun e w' => GivesList ([], false) e w w' := by
  replace h := Lib.hid h
  go_enter Try.func50, Try.ntmps50
  go_wp2_with fail
  refine (h.out _ (below_al (Below.refl _ _) _)).mono ?_
  rintro e w1 ⟨rfl, h1⟩
  have b1 := below_from h1
  have hl : GivesList ([], false) (.returned (.tuple #[.slice none 0 0, .bool false])) w w1 := ⟨none, 0, rfl, Nat.le_refl _, by simp [maxLen], RowAt.nil _ _ _ _, b1⟩
  replace hl := Lib.hid hl
  replace b1 := Lib.hid b1
  clear h1
  go_wp2_with fail
  go_ret2
  exact hl.out

set_option maxHeartbeats 4000000 in
theorem specWorkWanted_no (Am At Ai Ak Av : Option Addr) (cm ct ci ck cv n1 n2 ni nk nv : Nat) (w : World) (h : NoWork 105 w #[.agg #[.slice Am n1 cm, .slice At n2 ct], .slice Ai ni ci, .slice Ak nk ck, .slice Av nv cv]) :
    Calls Try.prog 51 #[.agg #[.slice Am n1 cm, .slice At n2 ct], .slice Ai ni ci, .slice Ak nk ck, .slice Av nv cv] w fun e w' => GivesList ([], false) e w w' := by
  replace h := Lib.hid h
  go_enter Try.func51, Try.ntmps51
  go_wp2_with fail
  refine (h.out _ (below_al (Below.refl _ _) _)).mono ?_
  rintro e w1 ⟨rfl, h1⟩
  have b1 := below_from h1
  have hl : GivesList ([], false) (.returned (.tuple #[.slice (some ⟨w1.heap.size, 0, none⟩) 0 0, .bool false])) w (w1.alloc (.cells #[] 3 (0, 0))) := ⟨_, 0, rfl, Nat.le_refl _, by simp [maxLen], RowAt.nil _ _ _ _, below_al' b1 _ b1.size⟩
  replace hl := Lib.hid hl
  clear h1 b1
  go_wp2_with fail
  go_ret2
  exact hl.out

set_option maxHeartbeats 4000000 in
theorem specWorkValues_no (Am At Ai Ak Av : Option Addr) (cm ct ci ck cv n1 n2 ni nk nv : Nat) (w : World) (h : NoWork 105 w #[.agg #[.slice Am n1 cm, .slice At n2 ct], .slice Ai ni ci, .slice Ak nk ck, .slice Av nv cv]) :
    Calls Try.prog 47 #[.agg #[.slice Am n1 cm, .slice At n2 ct], .slice Ai ni ci, .slice Ak nk ck, .slice Av nv cv] w fun e w' => GivesList ([], false) e w w' := by
  replace h := Lib.hid h
  go_enter Try.func47, Try.ntmps47
  go_wp2_with fail
  refine (h.out _ (below_al (below_al (Below.refl _ _) _) _)).mono ?_
  rintro e w1 ⟨rfl, h1⟩
  have ho1 : w1.ownsRow w.heap.size 3 1 (.slice (some ⟨w.heap.size + 1, 0, none⟩) 0 0) 0 [] := ownsRow_block (by simpa using World.ownsRow_made (base := w.heap.size) (w.alloc (.cells #[.slice Am n1 cm, .slice At n2 ct] 31 (0, 0))) #[] 0 (by simp) (by simp [maxLen]) rfl) (fun i hi => h1.block i (by simp [Value.ownBlock] at hi; simp; omega))
  have b1 : Below w.heap.size w w1 := (below_al (below_al (Below.refl _ _) _) _).trans (h1.mono (by simp; omega))
  have hl := (show GivesOwn w.heap.size ([], false) (.returned (.tuple #[.slice (some ⟨w.heap.size + 1, 0, none⟩) 0 0, .bool false])) w w1 from ⟨_, rfl, ho1, b1⟩).list
  replace hl := Lib.hid hl
  clear h1 ho1 b1
  go_wp2_with fail
  go_loopw [10, 13] (fun o i wr => o = .slice (some ⟨w.heap.size + 1, 0, none⟩) 0 0 ∧ i = .int .i64 0 ∧ wr = w1) (fun _ _ _ => 0)
  case atStart => exact ⟨rfl, rfl, rfl⟩
  case round =>
    obtain ⟨rfl, rfl, rfl⟩ := hrel
    by_cases hk : 0 < nk
    all_goals
      go_wp2_with fail
      go_ret2
      exact hl.out
  

def WorkC (g : Nat) (made : List Bool) (tasks : List Task) (x1 x2 x3 : List Int) (R : List Int × Bool) : Prop :=
  ∀ (w : World) (Am At : Option Addr) (cm ct : Nat) (Ai : Option Addr) (ci : Nat) (Ak : Option Addr) (ck : Nat) (Av : Option Addr) (cv : Nat) (B : Nat) (w0 : World), Below B w0 w → B ≤ w.heap.size → SheetAt B w0 Am cm At ct made tasks → IntsAt B w0 Ai x1 → x1.length ≤ ci → ci ≤ maxLen → IntsAt B w0 Ak x2 → x2.length ≤ ck → ck ≤ maxLen → IntsAt B w0 Av x3 → x3.length ≤ cv → cv ≤ maxLen →
    Calls Try.prog g #[.agg #[.slice Am made.length cm, .slice At tasks.length ct], .slice Ai x1.length ci, .slice Ak x2.length ck, .slice Av x3.length cv] w (fun e w' => GivesList R e w w')
/-- what is known of workers that can work -/
structure WorkGood (made : List Bool) (tks : List Tk) (x1 x2 : List Int) (all list : List Int) : Prop where
  hS : Sh.Ok ⟨made, tks, x1⟩
  hsafe : safeP made (tks.map Tk.enc) = true
  hkeys : keysOk made.length x2 = true
  hall : buildAllP ⟨made, tks, x1⟩ = (all, true)
  mem : ∀ x, x ∈ list ↔ Reach (mkK made) (usesS ⟨made, tks, x1⟩ all) x2 x
theorem work_any (made : List Bool) (tasks : List Task) (x1 x2 x3 : List Int) (hnod : ∀ T ∈ tasks, nodes T ≤ 1000000000) (hml : (made.length : Int) ≤ 9223372036854775807) (hkl : x2.length ≤ 100) :
    ∃ (Rv Rw : List Int × Bool), Rw.1.length ≤ 10 ∧ Rv.1.length ≤ 100 ∧ Rv.2 = Rw.2 ∧ (Rv.2 = false → Rv.1 = []) ∧ (Rv.2 = true → ∃ tks all, tasks = tks.map Tk.enc ∧ WorkGood made tks x1 x2 all Rw.1 ∧ Rv.1 = x2.map (atK all)) ∧
      WorkC 46 made tasks x1 x2 x3 Rv ∧ WorkC 47 made tasks x1 x2 x3 Rv ∧ WorkC 50 made tasks x1 x2 x3 Rw ∧ WorkC 51 made tasks x1 x2 x3 Rw := by
  by_cases hgood : (safeP made tasks = true ∧ takesOk made.length x1 = true ∧ keysOk made.length x2 = true) ∧ x3.length ≤ 60
  · obtain ⟨⟨h1, h2, h3⟩, h4⟩ := hgood
    have hok : sheetOk made tasks = true := by have := h1; unfold safeP at this; rw [Bool.and_eq_true] at this; exact this.1
    obtain ⟨tks, rfl, hS⟩ := ok_sh hok h2
    obtain ⟨all, hall⟩ : ∃ all, buildAllP ⟨made, tks, x1⟩ = (all, true) := ⟨(buildAllP ⟨made, tks, x1⟩).1, Prod.ext rfl (safe_build hS h1)⟩
    obtain ⟨n0, fin, hr, hinv, hmem, hlo⟩ := work_all hS hall h1 x2 x3
    have hfin := fin_ok hall hinv hmem hlo
    have hfl : fin.list.length ≤ 10 := Nat.le_trans hinv.len hS.ten
    refine ⟨(x2.map (atK all), true), (fin.list, true), hfl, by simpa using hkl, rfl, fun h => (by cases h), fun _ => ⟨tks, all, rfl, ⟨hS, h1, h3, hall, hmem⟩, rfl⟩, ?_, ?_, ?_, ?_⟩ <;> intro w Am At cm ct Ai ci Ak ck Av cv B w0 hb hB hs hi hli hci hk hlk hck hv hlv hcv
    · have := workValues_good ⟨Am, cm, At, ct, Ai, ci, B, w0⟩ ⟨made, tks, x1⟩ ⟨hs, hi, hli, hci, hS⟩ all Ak Av ck cv x2 x3 w hb hB h3 hk (by omega) fin hfin (fun w1 hw => worked_good ⟨Am, cm, At, ct, Ai, ci, B, w0⟩ ⟨made, tks, x1⟩ ⟨hs, hi, hli, hci, hS⟩ hall h1 Ak Av ck cv x2 x3 w1 (below_up' hb hB hw) (Nat.le_trans hB hw.size) h3 hk (by omega) hv h4 n0 fin hr)
      simp only [List.length_map] at this ⊢
      exact this
    · have := specWorkValues_good ⟨Am, cm, At, ct, Ai, ci, B, w0⟩ ⟨made, tks, x1⟩ ⟨hs, hi, hli, hci, hS⟩ all Ak Av ck cv x2 x3 w hb hB h3 hk (by omega) fin hfin (fun w1 hw => l10All_good ⟨Am, cm, At, ct, Ai, ci, B, w0⟩ ⟨made, tks, x1⟩ ⟨hs, hi, hli, hci, hS⟩ hnod hall h1 Ak Av ck cv x2 x3 w1 (below_up' hb hB hw) (Nat.le_trans hB hw.size) h3 hk (by omega) hv h4 n0 fin hr)
      simp only [List.length_map] at this ⊢
      exact this
    · have := workWanted_good ⟨Am, cm, At, ct, Ai, ci, B, w0⟩ ⟨made, tks, x1⟩ Ak Av ck cv x2 x3 w fin (fun w1 hw => worked_good ⟨Am, cm, At, ct, Ai, ci, B, w0⟩ ⟨made, tks, x1⟩ ⟨hs, hi, hli, hci, hS⟩ hall h1 Ak Av ck cv x2 x3 w1 (below_up' hb hB hw) (Nat.le_trans hB hw.size) h3 hk (by omega) hv h4 n0 fin hr)
      simp only [List.length_map] at this ⊢
      exact this
    · have := specWorkWanted_good ⟨Am, cm, At, ct, Ai, ci, B, w0⟩ ⟨made, tks, x1⟩ ⟨hs, hi, hli, hci, hS⟩ Ak Av ck cv x2 x3 w fin hfl (fun w1 hw => l10All_good ⟨Am, cm, At, ct, Ai, ci, B, w0⟩ ⟨made, tks, x1⟩ ⟨hs, hi, hli, hci, hS⟩ hnod hall h1 Ak Av ck cv x2 x3 w1 (below_up' hb hB hw) (Nat.le_trans hB hw.size) h3 hk (by omega) hv h4 n0 fin hr)
      simp only [List.length_map] at this ⊢
      exact this
  · have hI : ∀ (w : World) (Am At : Option Addr) (cm ct : Nat) (Ai : Option Addr) (ci : Nat) (Ak : Option Addr) (ck : Nat) (Av : Option Addr) (cv : Nat) (B : Nat) (w0 : World), Below B w0 w → B ≤ w.heap.size → SheetAt B w0 Am cm At ct made tasks → IntsAt B w0 Ai x1 → x1.length ≤ maxLen → IntsAt B w0 Ak x2 → x2.length ≤ maxLen → NoWork 104 w #[.agg #[.slice Am made.length cm, .slice At tasks.length ct], .slice Ai x1.length ci, .slice Ak x2.length ck, .slice Av x3.length cv] := by
      intro w Am At cm ct Ai ci Ak ck Av cv B w0 hb hB hs hi hli hk hlk w1 hw
      by_cases hg : safeP made tasks = true ∧ takesOk made.length x1 = true ∧ keysOk made.length x2 = true
      · exact worked_many Am At Ai Ak Av cm ct ci ck cv x3 made tasks x1 x2 B w0 w1 hs hi hli hk hlk (below_up' hb hB hw) (Nat.le_trans hB hw.size) (Nat.lt_of_not_le fun h => hgood ⟨hg, h⟩) hg.1 hg.2.1 hg.2.2
      · exact worked_bad Am At Ai Ak Av cm ct ci ck cv x3 made tasks x1 x2 B w0 w1 hs hi hli hk hlk (below_up' hb hB hw) (Nat.le_trans hB hw.size) (fun a b => by
          cases h : keysOk made.length x2 with
          | false => rfl
          | true => exact (hg ⟨a, b, h⟩).elim)
    have hSp : ∀ (w : World) (Am At : Option Addr) (cm ct : Nat) (Ai : Option Addr) (ci : Nat) (Ak : Option Addr) (ck : Nat) (Av : Option Addr) (cv : Nat) (B : Nat) (w0 : World), Below B w0 w → B ≤ w.heap.size → SheetAt B w0 Am cm At ct made tasks → IntsAt B w0 Ai x1 → x1.length ≤ maxLen → IntsAt B w0 Ak x2 → x2.length ≤ maxLen → NoWork 105 w #[.agg #[.slice Am made.length cm, .slice At tasks.length ct], .slice Ai x1.length ci, .slice Ak x2.length ck, .slice Av x3.length cv] := by
      intro w Am At cm ct Ai ci Ak ck Av cv B w0 hb hB hs hi hli hk hlk w1 hw
      by_cases hmm : x3.length ≤ 60
      · exact l10All_bad Am At Ai Ak Av cm ct ci ck cv x3 made tasks x1 x2 B w0 w1 hs hi hli hk hlk (below_up' hb hB hw) (Nat.le_trans hB hw.size) hnod hml hmm (fun a b => by
          unfold inputsOk at a
          rw [Bool.and_eq_true] at a b
          cases h : safeP made tasks with
          | false => rfl
          | true => exact (hgood ⟨⟨h, a.2, b.1⟩, hmm⟩).elim)
      · exact l10All_many Am At Ai Ak Av cm ct ci ck cv tasks.length x2.length x1.length made.length x3 w1 (by omega)
    refine ⟨([], false), ([], false), by simp, by simp, rfl, fun _ => rfl, fun h => (by cases h), ?_, ?_, ?_, ?_⟩ <;> intro w Am At cm ct Ai ci Ak ck Av cv B w0 hb hB hs hi hli hci hk hlk hck hv hlv hcv
    · exact workValues_no Am At Ai Ak Av cm ct ci ck cv _ _ _ _ _ w (hI w Am At cm ct Ai ci Ak ck Av cv B w0 hb hB hs hi (Nat.le_trans hli hci) hk (Nat.le_trans hlk hck))
    · exact specWorkValues_no Am At Ai Ak Av cm ct ci ck cv _ _ _ _ _ w (hSp w Am At cm ct Ai ci Ak ck Av cv B w0 hb hB hs hi (Nat.le_trans hli hci) hk (Nat.le_trans hlk hck))
    · exact workWanted_no Am At Ai Ak Av cm ct ci ck cv _ _ _ _ _ w (hI w Am At cm ct Ai ci Ak ck Av cv B w0 hb hB hs hi (Nat.le_trans hli hci) hk (Nat.le_trans hlk hck))
    · exact specWorkWanted_no Am At Ai Ak Av cm ct ci ck cv _ _ _ _ _ w (hSp w Am At cm ct Ai ci Ak ck Av cv B w0 hb hB hs hi (Nat.le_trans hli hci) hk (Nat.le_trans hlk hck))
end Go.Proofs.Ytpccgdkidnkppaa

set_option linter.unusedVariables false
set_option linter.unusedSimpArgs false
namespace Go.Proofs.Ytpccgdkidnkppaa
open Go Go.RowKit

set_option maxHeartbeats 4000000 in
theorem l91Keys_calls (R : RdEnv) (hR : R.Good) (p : Nat) (hp : p + 100 ≤ 1000000) (Am At : Option Addr) (nm cm nt ct : Nat) (w : World) (h : RdAt R p w) (hn : nm ≤ 20) :
    Calls Try.prog 69 #[.pointer (some ⟨R.g, 0, none⟩), .agg #[.slice Am nm cm, .slice At nt ct]] w (DrawIn R p 100 4 w) := by
  have hs : InSt R w (.slice Am nm cm) (.slice At nt ct) p [] (.slice (some ⟨w.heap.size + 1, 0, none⟩) 0 0) ((w.alloc (.cells #[.slice Am nm cm, .slice At nt ct] 31 (0, 0))).alloc (.cells #[] 3 (0, 0))) :=
    ⟨h.up (below_al (below_al (Below.refl _ _) _) _), ((Turn.refl _ _).alloc _).alloc _, by simpa [ints] using World.ownsRow_made (base := w.heap.size) (w.alloc (.cells #[.slice Am nm cm, .slice At nt ct] 31 (0, 0))) #[] 0 (by simp) (by simp [maxLen]) rfl, (heap_old (by simp)).trans (heap_new rfl), block_lt h.blk, h.size⟩
  have h1 := pick_calls R hR p (by omega) 3 _ hs.rd
  replace h1 := Lib.hid h1
  replace hs := Lib.hid hs
  clear h
  go_enter Try.func69, Try.ntmps69
  go_wp2_with fail
  refine h1.out.mono ?_
  rintro e w1 ⟨k, rfl, hk0, hk1, hr, ht⟩
  obtain ⟨q, rfl⟩ := Int.eq_ofNat_of_zero_le hk0
  have hq3 : q < 3 := by omega
  have hs1 := hs.out.step hr ht
  replace hs1 := Lib.hid hs1
  clear h1 hs hr ht hk1 hk0
  go_wp2_with fail
  go_loopw [5, 6] (fun o i wr => ∃ (t : Nat) (xs : List Int) (p2 : Nat), t ≤ 3 ∧ xs.length + t ≤ 3 ∧ p2 + t ≤ p + 4 ∧ p ≤ p2 ∧ i = .int .i64 t ∧ Hid (InSt R w (.slice Am nm cm) (.slice At nt ct) p2 xs o wr)) (fun _ i _ => (intOf i).toNat)
  case atStart => exact ⟨1 + q, [], p + 1, by omega, by simp; omega, by omega, by omega, by go_num, hs1⟩
  case round =>
    obtain ⟨t, xs, p2, ht3, hlen, hp2, hpp, rfl, hL⟩ := hrel
    have b0 : wr.cell? ⟨w.heap.size, 0, none⟩ = some (.slice Am nm cm) := cellm hL.out.box 0
    have hz := block_lt hL.out.box
    by_cases hgo : 0 < t ∧ 0 < nm
    · obtain ⟨ht0, hnm0⟩ := hgo
      have hc := pick_calls R hR p2 (by omega) nm wr.drew (hL.out.rd.up (Below.refl _ _).drew)
      have hwz := hL.out.turn.size
      replace hc := Lib.hid hc
      go_wp2_with fail
      go_region_held3 (fun w' => w'.cell? ⟨w.heap.size, 0, none⟩ = some (.slice Am nm cm)) (first | exact k4 | exact k0 | exact (cell_al hz2).trans k0 | exact b0)
        (first
          | ((with_reducible refine step_app1 (by rfl) (.tmp 21) (.tmp 33) 26 (by rfl) intTy w.heap.size u5 xs.length (ints xs) (by with_unfolding_all rfl) (hL2.out.own.alloc _) w2.heap.size 1 [.int .i64 _] (by with_unfolding_all rfl) (by with_unfolding_all rfl) ⟨_, _, heap_alloc_new w2 _, rfl⟩ (one_int _ _) ?_ ?_ ?_ ?_); (unfold maxLen; omega); (omega); (simp; omega); intro g cap w4 hown hgrow hat; have k4 : w4.cell? ⟨w.heap.size, 0, none⟩ = some (.slice Am nm cm) := cellm (hL2.out.app hgrow hown (v' := .slice (some ⟨g, 0, none⟩) (xs.length + 1) cap)).box 0)
          | (go_at_call 70; refine hc.out.mono ?_; rintro e w2 ⟨x, rfl, hx0, hx1, hr2, ht2⟩; have hL2 := (hL.out.step (hL.out.rd.up (Below.refl _ _).drew) (Turn.refl _ _).drew).step hr2 ht2; have k0 : w2.cell? ⟨w.heap.size, 0, none⟩ = some (.slice Am nm cm) := cellm hL2.box 0; have hwz2 := hL2.turn.size; have hz2 := block_lt hL2.box; replace hL2 := Lib.hid hL2))
      all_goals
        have hL4 := hL2.out.app (v' := .slice (some ⟨g, 0, none⟩) (xs.length + 1) cap) hgrow hown
        replace hL4 := Lib.hid hL4
        clear hown hgrow hat hL hL2 k0 k4 b0
        go_wp2_with fail
        go_roundw
        case rel => exact ⟨t - 1, _, p2 + 1, by omega, by simp; omega, by omega, by omega, by go_num, hL4⟩
        case measure => simp [intOf]; omega
    · have hc := pick_calls R hR p2 (by omega) 25 wr hL.out.rd
      replace hc := Lib.hid hc
      have hcase : (¬ 0 < t) ∨ (0 < t ∧ ¬ 0 < nm) := by
        by_cases h : 0 < t
        · exact .inr ⟨h, fun h2 => hgo ⟨h, h2⟩⟩
        · exact .inl h
      clear hgo
      rcases hcase with hq1 | ⟨hq1, hq2⟩
      all_goals
        go_wp2_with fail
        refine hc.out.mono ?_
        rintro e w2 ⟨x, rfl, hx0, hx1, hr2, ht2⟩
        have hL2 := hL.out.step hr2 ht2
        have hwz2 := hL2.turn.size
        clear hc hr2 ht2 hL b0 hz
        replace hL2 := Lib.hid hL2
        by_cases hx : x = 0
        · subst hx
          have hL3 := hL2.out.alloc (.cells #[.int .i64 (-1), .int .i64 10, .int .i64 9] 3 (0, 0))
          have hnum := l91Num_calls R hR (p2 + 1) (by omega) w2.heap.size 3 [-1, 10, 9] _ hL3.rd (by simp) (by simp) (by omega) (by simp) (by have h1 := hL2.out.glt; have h2 := hL2.out.turn.size; omega)
            (by intro i hi; rw [cellm (heap_new rfl) i]; rcases (show i = 0 ∨ i = 1 ∨ i = 2 by simp at hi; omega) with rfl | rfl | rfl <;> rfl)
          replace hL3 := Lib.hid hL3
          replace hnum := Lib.hid hnum
          clear hL2
          go_wp2_with fail
          refine hnum.out.mono ?_
          rintro e w3 ⟨x3, rfl, _, hr3, ht3⟩
          have hL4 := hL3.out.step hr3 ht3
          replace hL4 := Lib.hid hL4
          clear hL3 hnum hr3 ht3
          go_wp2_with (at_builtin; go_loud (with_reducible refine wpList_app1 (by rfl) (.tmp 38) (.tmp 42) 26 (by rfl) intTy w.heap.size u5 xs.length (ints xs) (by with_unfolding_all rfl) (hL4.out.own.alloc _) w3.heap.size 1 [.int .i64 x3] (by with_unfolding_all rfl) (by with_unfolding_all rfl) ⟨_, _, heap_alloc_new w3 _, rfl⟩ (one_int _ _) ?_ ?_ ?_ ?_))
          · unfold maxLen; omega
          · omega
          · have := hL4.out.turn.size; simp; omega
          intro g cap w4 hown hgrow hat
          have hL5 := hL4.out.app (x := x3) (v' := .slice (some ⟨g, 0, none⟩) (xs.length + 1) cap) hgrow hown
          replace hL5 := Lib.hid hL5
          clear hown hgrow hat hL4
          go_wp2_with fail
          go_ret
          exact ⟨p2 + 1 + 1, xs ++ [x3], _, rfl, by simp; omega, by omega, by omega, hL5.out.rd, hL5.out.turn, hL5.out.own⟩
        · have hx' : (x == 0) = false := by simp [hx]
          go_wp2_with fail
          go_ret
          exact ⟨p2 + 1, xs, u5, rfl, by omega, by omega, by omega, hL2.out.rd, hL2.out.turn, hL2.out.own⟩
end Go.Proofs.Ytpccgdkidnkppaa

set_option linter.unusedVariables false
set_option linter.unusedSimpArgs false
namespace Go.Proofs.Ytpccgdkidnkppaa
open Go Go.RowKit

/-! a world without its blocks below lo: what is read there lies in blocks from lo on -/
def mask (lo : Nat) (w : World) : World := { w with heap := w.heap.mapIdx fun i o => if i < lo then .map #[] 0 else o }
@[simp] theorem mask_size (lo : Nat) (w : World) : (mask lo w).heap.size = w.heap.size := by simp [mask]
theorem mask_heap (lo : Nat) (w : World) (i : Nat) : (mask lo w).heap[i]? = w.heap[i]?.map fun o => if i < lo then .map #[] 0 else o := by
  simp [mask, Array.getElem?_mapIdx]
theorem mask_hi {lo i : Nat} (w : World) (h : lo ≤ i) : (mask lo w).heap[i]? = w.heap[i]? := by
  rw [mask_heap]
  cases e : w.heap[i]? with
  | none => rfl
  | some o => simp [show ¬ i < lo by omega]
theorem mask_cell {lo : Nat} {w : World} {b o : Nat} {v : Value} (h : (mask lo w).cell? ⟨b, o, none⟩ = some v) : w.cell? ⟨b, o, none⟩ = some v := by
  by_cases hb : b < lo
  · unfold World.cell? at h
    rw [mask_heap] at h
    cases e : w.heap[b]? with
    | none => simp [e] at h
    | some ob => simp [e, hb] at h
  · exact (World.cell?_of_block (w := w) (mask_hi (lo := lo) (i := b) w (by omega))).symm.trans h
theorem mask_below {lo B : Nat} {w w' : World} (ho : w'.os = w.os) (ht : w'.tape = w.tape) (hp : w'.output = w.output) (hs : w.heap.size ≤ w'.heap.size) (hB : B ≤ w.heap.size) (h : ∀ i, lo ≤ i → i < B → w'.heap[i]? = w.heap[i]?) : Below B (mask lo w) (mask lo w') := by
  refine ⟨ho, ht, hp, by simpa using hs, fun k hk => ?_⟩
  by_cases e : k < lo
  · rw [mask_heap, mask_heap]
    have h1 : k < w.heap.size := by omega
    have h2 : k < w'.heap.size := by omega
    rw [Array.getElem?_eq_getElem h1, Array.getElem?_eq_getElem h2]
    simp [e]
  · rw [mask_hi _ (by omega), mask_hi _ (by omega)]
    exact h k (by omega) hk
theorem mask_turn {F F' : Nat → Prop} {lo : Nat} {w w' : World} (t : Turn F F' w w') (hF : ∀ i, F i → i < lo) : Below w.heap.size (mask lo w) (mask lo w') :=
  mask_below t.os t.tape t.output t.size (Nat.le_refl _) fun i hi hs => t.block i hs fun hf => by have := hF i hf; omega
theorem mask_up {lo : Nat} {w w' : World} (t : Below w.heap.size w w') : Below w.heap.size (mask lo w) (mask lo w') :=
  mask_below t.os t.tape t.output t.size (Nat.le_refl _) fun i hi hs => t.block i hs
theorem mask_set {lo b : Nat} (w : World) (h : b < lo) (o : Nat) (v : Value) : Below w.heap.size (mask lo w) (mask lo (w.setCell ⟨b, o, none⟩ v)) :=
  mask_below rfl rfl rfl (by simp) (Nat.le_refl _) fun i hi hs => setCell_far (by omega)
theorem mask_less {lo lo' : Nat} (w : World) (h : lo' ≤ lo) {b o : Nat} {v : Value} (hc : (mask lo w).cell? ⟨b, o, none⟩ = some v) : (mask lo' w).cell? ⟨b, o, none⟩ = some v := by
  by_cases hb : b < lo
  · unfold World.cell? at hc
    rw [mask_heap] at hc
    cases e : w.heap[b]? with
    | none => simp [e] at hc
    | some ob => simp [e, hb] at hc
  · rw [World.cell?_of_block (w := w) (mask_hi (lo := lo') (i := b) w (by omega))]
    exact mask_cell hc

theorem RowAt.imp {α : Type} {f : α → Value} {B B' : Nat} {w w' : World} {A : Option Addr} {xs : List α} (h : RowAt f B w A xs) (hB : B ≤ B') (hw : ∀ b o v, b < B → w.cell? ⟨b, o, none⟩ = some v → w'.cell? ⟨b, o, none⟩ = some v) : RowAt f B' w' A xs := by
  intro i hi
  obtain ⟨b, o, e, hlt, hc⟩ := h i hi
  exact ⟨b, o, e, by omega, hw _ _ _ hlt hc⟩
mutual
theorem TaskIs.imp {B B' : Nat} {w0 w : World} (hB : B ≤ B') (hw : ∀ b o v, b < B → w0.cell? ⟨b, o, none⟩ = some v → w.cell? ⟨b, o, none⟩ = some v) : ∀ (t : Task) (v : Value), TaskIs B w0 v t → TaskIs B' w v t
  | .mk k n ps, v, h => by
    rw [TaskIs] at h ⊢
    obtain ⟨A, c, e, hc, hm, hp⟩ := h
    exact ⟨A, c, e, hc, hm, PartsIs.imp hB hw ps A 0 hp⟩
theorem PartsIs.imp {B B' : Nat} {w0 w : World} (hB : B ≤ B') (hw : ∀ b o v, b < B → w0.cell? ⟨b, o, none⟩ = some v → w.cell? ⟨b, o, none⟩ = some v) : ∀ (ps : List Task) (A : Option Addr) (i : Nat), PartsIs B w0 A i ps → PartsIs B' w A i ps
  | [], A, i, _ => by rw [PartsIs]; trivial
  | t :: ts, A, i, h => by
    rw [PartsIs] at h ⊢
    obtain ⟨⟨b, o, x, y, z, e, hlt, hx, hy, hz, ht⟩, hts⟩ := h
    exact ⟨⟨b, o, x, y, z, e, by omega, hw _ _ _ hlt hx, hw _ _ _ hlt hy, hw _ _ _ hlt hz, TaskIs.imp hB hw t _ ht⟩, PartsIs.imp hB hw ts A (i + 1) hts⟩
end
theorem SheetAt.imp {B B' : Nat} {w w' : World} {Am At : Option Addr} {cm ct : Nat} {made : List Bool} {tasks : List Task} (h : SheetAt B w Am cm At ct made tasks) (hB : B ≤ B') (hw : ∀ b o v, b < B → w.cell? ⟨b, o, none⟩ = some v → w'.cell? ⟨b, o, none⟩ = some v) : SheetAt B' w' Am cm At ct made tasks :=
  ⟨h.lm, h.mm, h.lt, h.mt, h.made.imp hB hw, PartsIs.imp hB hw _ _ _ h.tasks⟩
theorem SheetAt.up {B B' : Nat} {w w' : World} {Am At : Option Addr} {cm ct : Nat} {made : List Bool} {tasks : List Task} (h : SheetAt B w Am cm At ct made tasks) (hb : Below B w w') (hB : B ≤ B') : SheetAt B' w' Am cm At ct made tasks :=
  h.imp hB fun b o v hlt hc => (hb.cell (p := ⟨b, o, none⟩) hlt).trans hc
theorem SheetAt.unmask {lo B : Nat} {w : World} {Am At : Option Addr} {cm ct : Nat} {made : List Bool} {tasks : List Task} (h : SheetAt B (mask lo w) Am cm At ct made tasks) : SheetAt B w Am cm At ct made tasks :=
  h.imp (Nat.le_refl _) fun b o v _ hc => mask_cell hc
theorem RowAt.unmask {α : Type} {f : α → Value} {lo B : Nat} {w : World} {A : Option Addr} {xs : List α} (h : RowAt f B (mask lo w) A xs) : RowAt f B w A xs := h.imp (Nat.le_refl _) fun b o v _ hc => mask_cell hc

section
variable {g B lo : Nat} {G : Rows} {made : List Bool} {ts : List (Value × Value × Value)} {vm vt : Value} {w : World}
theorem Sht.mask (h : Sht g B lo G made ts vm vt w) : Sht g B lo G made ts vm vt (mask lo w) :=
  ⟨ownsRow_block h.om (fun i hi => mask_hi w (h.om.lt i hi).1), ownsRow_block h.ot (fun i hi => mask_hi w (h.ot.lt i hi).1),
   fun b r m hb => by
     obtain ⟨h1, h2, cs, h3, h4⟩ := h.ty b r m hb
     exact ⟨h1, h2, cs, (mask_hi w (h.new b _ hb)).trans h3, h4⟩,
   h.tv, h.sep, h.new, h.glo⟩
/-- a drawn sheet, read in blocks from lo on -/
theorem Sht.readsM (h : Sht g B lo G made ts vm vt w) : ∃ Am cm At ct tasks, vm = .slice Am made.length cm ∧ vt = .slice At tasks.length ct ∧ tasks.length = ts.length ∧ SheetAt w.heap.size (Go.Proofs.Ytpccgdkidnkppaa.mask lo w) Am cm At ct made tasks ∧ ∀ T ∈ tasks, nodes T ≤ 13 := by
  obtain ⟨Am, cm, At, ct, tasks, h1, h2, h3, h4, h5⟩ := h.mask.reads
  exact ⟨Am, cm, At, ct, tasks, h1, h2, h3, by simpa using h4, fun T hT => by have := h5 T hT; simpa [nb] using this⟩
end
theorem rowM {w : World} {base lo : Nat} {e : TypeId} {v : Value} {xs : List Int} (h : w.ownsRow base e 1 v xs.length (ints xs)) (hl : lo ≤ base) : ∃ A c, v = .slice A xs.length c ∧ xs.length ≤ c ∧ c ≤ maxLen ∧ IntsAt w.heap.size (mask lo w) A xs := by
  obtain ⟨A, c, h1, h2, h3, h4⟩ := ownsRow_ints (ownsRow_block (w' := mask lo w) h (fun i hi => mask_hi w (by have := (h.lt i hi).1; omega)))
  exact ⟨A, c, h1, h2, h3, by simpa using h4⟩

theorem SheetAt.grow {B B' : Nat} {w : World} {Am At : Option Addr} {cm ct : Nat} {made : List Bool} {tasks : List Task} (h : SheetAt B w Am cm At ct made tasks) (hB : B ≤ B') : SheetAt B' w Am cm At ct made tasks := h.up (Below.refl _ _) hB
theorem RowAt.grow {α : Type} {f : α → Value} {B B' : Nat} {w : World} {A : Option Addr} {xs : List α} (h : RowAt f B w A xs) (hB : B ≤ B') : RowAt f B' w A xs := h.up (Below.refl _ _) hB
/-! what draws of a sheet and rows of numbers bring -/
structure Args2 (w : World) (Am : Option Addr) (cm : Nat) (At : Option Addr) (ct : Nat) (made : List Bool) (tasks : List Task) (Ai : Option Addr) (ci : Nat) (inputs : List Int) (Ak : Option Addr) (ck : Nat) (keys : List Int) : Prop where
  base : ArgsAt w Am cm At ct made tasks Ai ci inputs
  keysAt : IntsAt w.heap.size w Ak keys
  klen : keys.length ≤ 10
  kcap : keys.length ≤ ck
  kmax : ck ≤ maxLen
def DrawTwoP (w : World) (e : Ending) (w' : World) : Prop :=
  ∃ Am cm At ct made tasks Ai ci inputs Ak ck keys, e = .returned (.tuple #[.agg #[.slice Am made.length cm, .slice At tasks.length ct], .slice Ai inputs.length ci, .slice Ak keys.length ck]) ∧ Args2 w' Am cm At ct made tasks Ai ci inputs Ak ck keys ∧ Below w.heap.size w w'
theorem drawTwo_done {lo : Nat} {w w4 : World} {Am At Ai Ak : Option Addr} {cm ct ci ck : Nat} {made : List Bool} {tasks : List Task} {xs ks : List Int} (hlo : w.heap.size < lo) (hS : SheetAt w4.heap.size (mask lo w4) Am cm At ct made tasks) (hI : IntsAt w4.heap.size (mask lo w4) Ai xs) (hK : IntsAt w4.heap.size (mask lo w4) Ak ks)
    (h1 : tasks.length = made.length) (h2 : made.length ≤ 8) (h3 : ∀ T ∈ tasks, nodes T ≤ 13) (h4 : xs.length ≤ 9) (h5 : xs.length ≤ ci) (h6 : ci ≤ maxLen) (h7 : ks.length ≤ 10) (h8 : ks.length ≤ ck) (h9 : ck ≤ maxLen) (hb : Below w.heap.size w w4) (x y : Value) :
    DrawTwoP w (.returned (.tuple #[.agg #[.slice Am made.length cm, .slice At tasks.length ct], .slice Ai xs.length ci, .slice Ak ks.length ck])) ((w4.setCell ⟨w.heap.size, 0, none⟩ x).setCell ⟨w.heap.size, 1, none⟩ y) := by
  have hm := (mask_set w4 hlo 0 x).trans ((mask_set (w4.setCell ⟨w.heap.size, 0, none⟩ x) hlo 1 y).mono (by simp))
  have hz : w4.heap.size ≤ ((w4.setCell ⟨w.heap.size, 0, none⟩ x).setCell ⟨w.heap.size, 1, none⟩ y).heap.size := by simp
  exact ⟨Am, cm, At, ct, made, tasks, Ai, ci, xs, Ak, ck, ks, rfl, ⟨⟨(hS.up hm hz).unmask, (hI.up hm hz).unmask, h1, h2, h3, h4, h5, h6⟩, (hK.up hm hz).unmask, h7, h8, h9⟩,
    (hb.setCell (p := ⟨w.heap.size, 0, none⟩) (Nat.le_refl _) x).setCell (p := ⟨w.heap.size, 1, none⟩) (Nat.le_refl _) y⟩
end Go.Proofs.Ytpccgdkidnkppaa

set_option linter.unusedVariables false
set_option linter.unusedSimpArgs false
namespace Go.Proofs.Ytpccgdkidnkppaa
open Go Go.RowKit

section
variable {P : Program} {w : World} {base : Nat} {e t tn : TypeId} {v : Value} {n : Nat} {xs : List Value}
theorem zeroCells_ints (k : Nat) : (Builtin.zeroCells (Value.int .i64 0).cells k) = (ints (List.replicate k 0)).toArray := by
  apply Array.ext'
  simp only [Builtin.zeroCells, Value.cells, ints, List.map_replicate]
  apply List.ext_getElem
  · simp
  · intro i h1 h2
    simp [Nat.mod_one]

/-- append(s, make([]int, k)...) onto a row of numbers that the call owns -/
theorem run_appZ (ty : TypeId) (k : Nat) (hE : ElemTy P t e (.int .i64 0) 1 8) (htn : P.underlying tn = some (.int .i64)) (hown : w.ownsRow base e 1 v n xs) (h0 : 0 < k) (h63 : n + k ≤ maxLen) (hbytes : (n + k) * 8 ≤ 140737488355328) (hbase : base ≤ w.heap.size) :
    ∃ v' w', (Builtin.append_ #[t, tn] ty #[v, .int .i64 k]).run P w = .ok v' w' ∧ w'.ownsRow base e 1 v' (n + k) (xs ++ ints (List.replicate k 0)) ∧ w.grownBy w' v.ownBlock := by
  obtain ⟨i, hi, hz0, hz1, hz2⟩ := info_parts hE.hi
  have ht := hE.ht
  have hlen : (xs ++ ints (List.replicate k 0)).length = (n + k) * 1 := by rw [List.length_append, hown.1]; simp [ints]
  have hk63 : (k : Int) ≤ 9223372036854775807 := by simp only [maxLen] at h63; omega
  have grown : ∀ (old : Nat), old < n + k → ∀ (row : Option Nat),
      (w.drew.alloc (.cells (xs.toArray ++ Builtin.zeroCells (Value.int .i64 0).cells k ++ Builtin.zeroCells (Value.int .i64 0).cells (grownCap w (n + k) old e - (n + k))) e)).ownsRow base e 1
        (.slice (some ⟨w.heap.size, 0, none⟩) (n + k) (grownCap w (n + k) old e)) (n + k) (xs ++ ints (List.replicate k 0)) ∧
      w.grownBy (w.drew.alloc (.cells (xs.toArray ++ Builtin.zeroCells (Value.int .i64 0).cells k ++ Builtin.zeroCells (Value.int .i64 0).cells (grownCap w (n + k) old e - (n + k))) e)) row := by
    intro old ho row
    have hge := grownCap_ge w (n + k) old e
    have hcm : grownCap w (n + k) old e ≤ maxLen := grownCap_le_maxLen w (n + k) old e h63
    refine ⟨⟨hlen, .inr ⟨w.heap.size, _, _, rfl, hbase, heap_alloc_new w.drew _, hge, hcm, ?_, ?_⟩⟩, ⟨rfl, rfl, rfl, by simp, fun j hj _ => heap_old (w := w.drew) hj⟩⟩
    · have h1 := hown.1
      simp [Builtin.zeroCells, Value.cells, h1]
      omega
    · rw [zeroCells_ints, zeroCells_ints]
      simp only [Array.toList_append]
      rw [show (xs.toArray.toList ++ (ints (List.replicate k 0)).toArray.toList) = xs ++ ints (List.replicate k 0) by simp, ← hlen]
      exact List.take_left
  rcases hown.2 with ⟨rfl, rfl⟩ | ⟨g, cap, cur, rfl, hbg, hg, hnc, hcm, hcs, htake⟩
  · have hx : xs = [] := List.eq_nil_of_length_eq_zero (by simpa using hown.1)
    subst hx
    have hr := Lib.run_append_nil_zeros (P := P) w t tn ty e i (.int .i64 0) .i64 .i64 ht htn hi hz0 k h0 (by omega) hk63 (by rw [hz2]; omega)
    have hgr := grown 0 (by omega) (Value.ownBlock (.slice none 0 0))
    simp only [Nat.zero_add, List.nil_append, Array.empty_append] at hgr ⊢
    exact ⟨_, _, hr, hgr.1, hgr.2⟩
  · by_cases hroom : n + k ≤ cap
    · have hw : IntKind.i64.wrap (k : Int) = k := by rw [IntKind.wrap_i64]; omega
      have hneg : ¬ ((k : Int) < 0) := by omega
      have h48i : ¬ (281474976710656 < (k : Int) * 8) := by omega
      have hk0 : ¬ (k = 0) := by omega
      have hst := run_storeCells_at P g n e (ints (List.replicate k 0)) 0 cur w hg (by simp [ints]; omega) (by intro u hu; obtain ⟨x, _, rfl⟩ := List.mem_map.1 hu; rfl)
      simp only [Nat.add_zero] at hst
      have hr : (Builtin.append_ #[t, tn] ty #[.slice (some ⟨g, 0, none⟩) n cap, .int .i64 k]).run P w = .ok (.slice (some ⟨g, 0, none⟩) (n + k) cap) (w.setRow g (cur.toList.take n ++ ints (List.replicate k 0) ++ cur.toList.drop (n + (ints (List.replicate k 0)).length)).toArray) := by
        simp [Builtin.append_, run_underlying ht, run_underlying htn, sizeOf, typeInfo, zeroValue, hi, hz0, hz1, hz2, asInt, asIntOf, hw, hneg, h48i, hk0, hroom, Addr.add_lit, zeroCells_ints, hst]
      refine ⟨_, _, hr, ⟨hlen, .inr ⟨g, cap, _, rfl, hbg, setRow_heap w g cur _ e _ hg, hroom, hcm, ?_, ?_⟩⟩, ⟨rfl, rfl, rfl, by simp, fun j _ hj => setRow_other w g j _ (fun e => hj (by simp [Value.ownBlock, e]))⟩⟩
      · simp only [List.size_toArray, List.length_append, List.length_take, List.length_drop, Array.length_toList, ints, List.length_map, List.length_replicate]
        omega
      · have hn1 : cur.toList.take n = xs := by simpa using htake
        rw [hn1, ← hlen]
        exact List.take_left
    · have hold : (Builtin.firstCells i.size n (.slice (some ⟨g, 0, none⟩) n cap)).run P w.drew = .ok xs.toArray w.drew := by
        have holds : ∀ j u, xs[j]? = some u → w.drew.cell? ((⟨g, 0, none⟩ : Addr).add j) = some u := fun j u h => by
          have := hown.cells (g := g) rfl j u h
          exact this
        rw [hz1]
        exact run_firstCells_some (P := P) w.drew 1 n ⟨g, 0, none⟩ n cap xs (by simpa using hown.1) holds
      have hr := Lib.run_append_grow_zeros (P := P) w t tn ty e i (.int .i64 0) .i64 .i64 ht htn hi hz0 (some ⟨g, 0, none⟩) n cap xs hold k h0 (by omega) (by omega) (by simp only [maxLen] at h63; omega) (by rw [hz2]; omega) (by rw [hz2]; exact growslice_fits (by omega) hbytes)
      have hgr := grown cap (by omega) (Value.ownBlock (.slice (some ⟨g, 0, none⟩) n cap))
      exact ⟨_, _, hr, hgr.1, hgr.2⟩
end

/-- a row of numbers that grows while bytes are read -/
structure MvSt (R : RdEnv) (w : World) (p : Nat) (xs : List Int) (v : Value) (wr : World) : Prop where
  rd : RdAt R p wr
  turn : Turn (· = R.g) (· = R.g) w wr
  own : wr.ownsRow w.heap.size 3 1 v xs.length (ints xs)
  glt : R.g < w.heap.size
  bw : R.B ≤ w.heap.size
section
variable {R : RdEnv} {w wr w2 : World} {v : Value} {p : Nat} {xs : List Int}
theorem MvSt.step (h : MvSt R w p xs v wr) {p2 : Nat} (rd : RdAt R p2 w2) (t : Turn (· = R.g) (· = R.g) wr w2) : MvSt R w p2 xs v w2 :=
  ⟨rd, h.turn.trans t, ownsRow_block h.own (fun i hi => t.block i (h.own.lt i hi).2 (fun e => by have := (h.own.lt i hi).1; have := h.glt; omega)), h.glt, h.bw⟩
theorem MvSt.grow (h : MvSt R w p xs v wr) {v' : Value} {ys : List Int} (hg : wr.grownBy w2 v.ownBlock) (ho : w2.ownsRow w.heap.size 3 1 v' (xs.length + ys.length) (ints xs ++ ints ys)) : MvSt R w p (xs ++ ys) v' w2 := by
  have hlt := h.own.lt
  have hz : w.heap.size ≤ wr.heap.size := h.turn.size
  have hb : Below w.heap.size wr w2 := (Below.refl w.heap.size wr).grown hg hz (fun k hk => (hlt k hk).1)
  refine ⟨⟨(hb.block _ h.glt).trans h.rd.blk, h.rd.below.trans (hb.mono h.bw), Nat.le_trans h.rd.size hb.size⟩, ?_, ?_, h.glt, h.bw⟩
  · exact ⟨hb.os.trans h.turn.os, hb.tape.trans h.turn.tape, hb.output.trans h.turn.output, Nat.le_trans hz hb.size, fun i hi hF => (hb.block i hi).trans (h.turn.block i hi hF), h.turn.fresh⟩
  · simpa [ints_append, ints] using ho
theorem MvSt.alloc (h : MvSt R w p xs v wr) (o : Obj) : MvSt R w p xs v (wr.alloc o) :=
  h.step (h.rd.up (below_al (Below.refl _ _) o)) ((Turn.refl _ _).alloc o)
end

set_option maxHeartbeats 4000000 in
theorem l91Moves_calls (R : RdEnv) (hR : R.Good) (p : Nat) (hp : p + 100 ≤ 1000000) (w : World) (h : RdAt R p w) :
    Calls Try.prog 103 #[.pointer (some ⟨R.g, 0, none⟩)] w (DrawIn R p 100 84 w) := by
  have hs : MvSt R w p [] (.slice (some ⟨w.heap.size, 0, none⟩) 0 0) (w.alloc (.cells #[] 3 (0, 0))) :=
    ⟨h.up (below_al (Below.refl _ _) _), (Turn.refl _ _).alloc _, by simpa [ints] using World.ownsRow_made (base := w.heap.size) w #[] 0 (by simp) (by simp [maxLen]) rfl, block_lt h.blk, h.size⟩
  have h1 := pick_calls R hR p (by omega) 25 _ hs.rd
  replace h1 := Lib.hid h1
  replace hs := Lib.hid hs
  clear h
  go_enter Try.func103, Try.ntmps103
  go_wp2_with fail
  refine h1.out.mono ?_
  rintro e w1 ⟨k, rfl, hk0, hk1, hr, ht⟩
  obtain ⟨q, rfl⟩ := Int.eq_ofNat_of_zero_le hk0
  have hq3 : q < 25 := by omega
  have hs1 := hs.out.step hr ht
  replace hs1 := Lib.hid hs1
  clear h1 hs hr ht hk1 hk0
  go_wp2_with fail
  go_loopw [3, 4] (fun o i wr => ∃ (t : Nat) (xs : List Int) (p2 : Nat), t ≤ 24 ∧ xs.length + t ≤ 24 ∧ p2 + t ≤ p + 25 ∧ p ≤ p2 ∧ i = .int .i64 t ∧ Hid (MvSt R w p2 xs o wr)) (fun _ i _ => (intOf i).toNat)
  case atStart => exact ⟨q, [], p + 1, by omega, by simp; omega, by omega, by omega, by go_num, hs1⟩
  case round =>
    obtain ⟨t, xs, p2, ht3, hlen, hp2, hpp, rfl, hL⟩ := hrel
    by_cases hgo : 0 < t
    · have hc := pick_calls R hR p2 (by omega) 7 wr hL.out.rd
      have hwz := hL.out.turn.size
      replace hc := Lib.hid hc
      go_wp2_with fail
      trace_state
      refine hc.out.mono ?_
      rintro e w2 ⟨x, rfl, hx0, hx1, hr2, ht2⟩
      have hL2 := hL.out.step hr2 ht2
      clear hc hr2 ht2 hL
      replace hL2 := Lib.hid hL2
      go_wp2_with (at_builtin; go_loud (with_reducible refine wpList_app1 (by rfl) (.tmp 12) (.tmp 16) 26 (by rfl) intTy w.heap.size u3 xs.length (ints xs) (by with_unfolding_all rfl) (hL2.out.own.alloc _) w2.heap.size 1 [.int .i64 _] (by with_unfolding_all rfl) (by with_unfolding_all rfl) ⟨_, _, heap_alloc_new w2 _, rfl⟩ (one_int _ _) ?_ ?_ ?_ ?_))
      · unfold maxLen; omega
      · omega
      · have := hL2.out.turn.size; simp; omega
      intro g cap w4 hown hgrow hat
      have hL4 := (hL2.out.alloc _).grow (v' := .slice (some ⟨g, 0, none⟩) (xs.length + 1) cap) (ys := [_]) hgrow hown
      replace hL4 := Lib.hid hL4
      clear hown hgrow hat hL2
      go_wp2_with fail
      go_roundw
      case rel => exact ⟨t - 1, _, p2 + 1, by omega, by simp; omega, by omega, by omega, by go_num, hL4⟩
      case measure => simp [intOf]; omega
    · have hc := pick_calls R hR p2 (by omega) 40 wr hL.out.rd
      replace hc := Lib.hid hc
      go_wp2_with fail
      refine hc.out.mono ?_
      rintro e w2 ⟨x, rfl, hx0, hx1, hr2, ht2⟩
      have hL2 := hL.out.step hr2 ht2
      clear hc hr2 ht2 hL
      replace hL2 := Lib.hid hL2
      by_cases hx : x = 0
      · subst hx
        obtain ⟨v', w3, hrun, hown, hgrow⟩ := run_appZ (P := Try.prog) (t := 26) (e := 3) (tn := 3) 26 60 intTy Try.underlying3 hL2.out.own (by omega) (by unfold maxLen; omega) (by omega) hL2.out.turn.size
        have hL3 := hL2.out.grow hgrow (ys := List.replicate 60 0) (by simpa using hown)
        replace hL3 := Lib.hid hL3
        clear hown hgrow hL2
        rw [show ((60 : Nat) : Int) = 60 from rfl] at hrun
        replace hrun := Lib.hid hrun
        go_wp2_with (at_builtin; with_reducible refine Lib.wpList_append_run _ (by rfl) (.tmp 21) (.const (.int .i64 60)) _ _ (by rfl) _ _ (by with_unfolding_all rfl) (by with_unfolding_all rfl) _ _ hrun.out ?_)
        go_ret
        exact ⟨p2 + 1, xs ++ List.replicate 60 0, v', rfl, by simp; omega, by omega, by omega, hL3.out.rd, hL3.out.turn, hL3.out.own⟩
      · have hx' : (x == 0) = false := by simp [hx]
        go_wp2_with fail
        go_ret
        exact ⟨p2 + 1, xs, u3, rfl, by omega, by omega, by omega, hL2.out.rd, hL2.out.turn, hL2.out.own⟩
end Go.Proofs.Ytpccgdkidnkppaa

set_option linter.unusedVariables false
set_option linter.unusedSimpArgs false
namespace Go.Proofs.Ytpccgdkidnkppaa
open Go Go.RowKit

theorem ret_sheet3 {fn : Func} {t u v v3 : Nat} {tmps : Array Value} {Q : Ending → World → Prop} {W : World} {m : Nat} {a b x y z : Value} (hr : fn.results = #[.cell t 31, .tmp u, .tmp v, .tmp v3])
    (ht : tmps.getD t undef = .pointer (some ⟨m, 0, none⟩)) (hu : tmps.getD u undef = x) (hv : tmps.getD v undef = y) (hv3 : tmps.getD v3 undef = z) (hW : W.heap[m]? = some (.cells #[a, b] 31 (0, 0))) (K : Q (.returned (.tuple #[.agg #[a, b], x, y, z])) W) : bodyPost Try.prog fn Q .ret ⟨tmps, []⟩ W := by
  have y0 : W.cell? ⟨m, 0, none⟩ = some a := cellm hW 0
  have y1 : W.cell? ⟨m, 1, none⟩ = some b := cellm hW 1
  refine bodyPost_ret (v := .tuple #[.agg #[a, b], x, y, z]) ?_ rfl K
  have ht' : tmps[t]?.getD undef = .pointer (some ⟨m, 0, none⟩) := by simpa using ht
  have hu' : tmps[u]?.getD undef = x := by simpa using hu
  have hv' : tmps[v]?.getD undef = y := by simpa using hv
  have hv3' : tmps[v3]?.getD undef = z := by simpa using hv3
  simp [results, hr, ht', hu', hv', hv3', go_sem, y0, y1]

/-! what draws of a sheet, inputs, keys and moves bring -/
structure Args3 (w : World) (Am : Option Addr) (cm : Nat) (At : Option Addr) (ct : Nat) (made : List Bool) (tasks : List Task) (Ai : Option Addr) (ci : Nat) (inputs : List Int) (Ak : Option Addr) (ck : Nat) (keys : List Int) (Av : Option Addr) (cv : Nat) (moves : List Int) : Prop where
  base : Args2 w Am cm At ct made tasks Ai ci inputs Ak ck keys
  movesAt : IntsAt w.heap.size w Av moves
  vlen : moves.length ≤ 84
  vcap : moves.length ≤ cv
  vmax : cv ≤ maxLen
def DrawThreeP (w : World) (e : Ending) (w' : World) : Prop :=
  ∃ Am cm At ct made tasks Ai ci inputs Ak ck keys Av cv moves, e = .returned (.tuple #[.agg #[.slice Am made.length cm, .slice At tasks.length ct], .slice Ai inputs.length ci, .slice Ak keys.length ck, .slice Av moves.length cv]) ∧ Args3 w' Am cm At ct made tasks Ai ci inputs Ak ck keys Av cv moves ∧ Below w.heap.size w w'
theorem drawThree_done {lo : Nat} {w w4 : World} {Am At Ai Ak Av : Option Addr} {cm ct ci ck cv : Nat} {made : List Bool} {tasks : List Task} {xs ks ms : List Int} (hlo : w.heap.size < lo) (hS : SheetAt w4.heap.size (mask lo w4) Am cm At ct made tasks) (hI : IntsAt w4.heap.size (mask lo w4) Ai xs) (hK : IntsAt w4.heap.size (mask lo w4) Ak ks) (hV : IntsAt w4.heap.size (mask lo w4) Av ms)
    (h1 : tasks.length = made.length) (h2 : made.length ≤ 8) (h3 : ∀ T ∈ tasks, nodes T ≤ 13) (h4 : xs.length ≤ 9) (h5 : xs.length ≤ ci) (h6 : ci ≤ maxLen) (h7 : ks.length ≤ 10) (h8 : ks.length ≤ ck) (h9 : ck ≤ maxLen) (h10 : ms.length ≤ 84) (h11 : ms.length ≤ cv) (h12 : cv ≤ maxLen) (hb : Below w.heap.size w w4) (x y : Value) :
    DrawThreeP w (.returned (.tuple #[.agg #[.slice Am made.length cm, .slice At tasks.length ct], .slice Ai xs.length ci, .slice Ak ks.length ck, .slice Av ms.length cv])) ((w4.setCell ⟨w.heap.size, 0, none⟩ x).setCell ⟨w.heap.size, 1, none⟩ y) := by
  have hm := (mask_set w4 hlo 0 x).trans ((mask_set (w4.setCell ⟨w.heap.size, 0, none⟩ x) hlo 1 y).mono (by simp))
  have hz : w4.heap.size ≤ ((w4.setCell ⟨w.heap.size, 0, none⟩ x).setCell ⟨w.heap.size, 1, none⟩ y).heap.size := by simp
  exact ⟨Am, cm, At, ct, made, tasks, Ai, ci, xs, Ak, ck, ks, Av, cv, ms, rfl, ⟨⟨⟨(hS.up hm hz).unmask, (hI.up hm hz).unmask, h1, h2, h3, h4, h5, h6⟩, (hK.up hm hz).unmask, h7, h8, h9⟩, (hV.up hm hz).unmask, h10, h11, h12⟩,
    (hb.setCell (p := ⟨w.heap.size, 0, none⟩) (Nat.le_refl _) x).setCell (p := ⟨w.heap.size, 1, none⟩) (Nat.le_refl _) y⟩

set_option maxHeartbeats 2000000 in
theorem drawWorkValues_calls (A : Option Addr) (c : Nat) (bytes : List Int) (B : Nat) (w0 w : World) (hb : Below B w0 w) (hB : B ≤ w.heap.size) (hx : RowAt (fun b : Int => Value.int .u8 b) B w0 A bytes) (hl : bytes.length ≤ c) (hc : c ≤ maxLen) (hby : ∀ b ∈ bytes, 0 ≤ b ∧ b ≤ 255) :
    Calls Try.prog 45 #[.slice A bytes.length c] w (DrawThreeP w) := by
  have h0 := l6Open_calls A c bytes B w0 ((w.alloc (.cells #[.slice none 0 0, .slice none 0 0] 31 (0, 0)))) (below_al' hb _ hB) (by simp; omega) hx hl hc hby
  replace h0 := Lib.hid h0
  clear hb hx hby hl hc
  go_enter Try.func45, Try.ntmps45
  go_wp2_with fail
  refine h0.out.mono ?_
  rintro e w1 ⟨R, rfl, hR, hRB, hRw, hRg, hrd, hb1⟩
  have h1 := l91Sheet_calls R hR 0 (by omega) w1 hrd
  have hgl := block_lt hrd.blk
  have hres1 := (hb1.block w.heap.size (by simp)).trans (heap_new rfl)
  have hz1 : w.heap.size < w1.heap.size := by have := hb1.size; simp at this; omega
  have hg0 : w.heap.size < R.g := by simp at hRg; omega
  have hbw := below_from hb1
  replace h1 := Lib.hid h1
  clear hb1 h0 hRg
  go_wp2_with fail
  refine h1.out.mono ?_
  rintro e w2 ⟨p2, G, made, ts, vm, vt, rfl, hml, hm8, hm2, hp0, hp2, hrd2, ht2, hsh2⟩
  obtain ⟨Am, cm, At, ct, tasks, rfl, rfl, htl, hS2, hnd⟩ := hsh2.readsM
  have htl2 : tasks.length = made.length := by omega
  replace htl2 := Lib.hid htl2
  clear hml htl
  have hz2 : w1.heap.size ≤ w2.heap.size := ht2.size
  have hres2 := (ht2.block _ hz1 (fun e => by omega)).trans hres1
  have hbw2 : Below w.heap.size w w2 := hbw.trans (ht2.below (Nat.le_of_lt hz1) (fun i e => by cases e; omega))
  have hal := below_al (Below.refl _ w2) (.cells #[.slice Am made.length cm, .slice At tasks.length ct] 31 (0, 0))
  have h2 := l91Inputs_calls R hR p2 (by omega) Am At made.length cm tasks.length ct _ (hrd2.up hal) (by omega)
  have hS3 := hS2.up (mask_up hal) hal.size
  have hres3 := (hal.block _ (by omega)).trans hres2
  have hbw3 : Below w.heap.size w _ := hbw2.trans (hal.mono (by omega))
  have hbox3 := heap_alloc_new w2 (.cells #[.slice Am made.length cm, .slice At tasks.length ct] 31 (0, 0))
  replace h2 := Lib.hid h2
  replace hS3 := Lib.hid hS3
  clear h1 hrd2 ht2 hsh2 hres2 hbw2 hal hbw hres1 hrd hS2
  go_wp2_with fail
  refine h2.out.mono ?_
  rintro e w3 ⟨p3, xs, vi, rfl, hxl, hp3, hp3', hrd3, ht3, hown3⟩
  obtain ⟨Ai, ci, rfl, hil, him, hI3⟩ := rowM (lo := w1.heap.size) hown3 (by simp; omega)
  have hS4 := hS3.out.up (mask_turn ht3 (fun i e => by cases e; exact hgl)) ht3.size
  have hres4 := (ht3.block _ (by simp; omega) (fun e => by omega)).trans hres3
  have hbox4 := (ht3.block _ (by simp) (fun e => by omega)).trans hbox3
  have hbw4 : Below w.heap.size w w3 := hbw3.trans (ht3.below (by simp; omega) (fun i e => by cases e; omega))
  have hz3 : w2.heap.size < w3.heap.size := by have := ht3.size; simp at this; omega
  have x0 : w3.cell? ⟨w2.heap.size, 0, none⟩ = some (.slice Am made.length cm) := cellm hbox4 0
  have x1 : w3.cell? ⟨w2.heap.size, 1, none⟩ = some (.slice At tasks.length ct) := cellm hbox4 1
  have h3 := l91Keys_calls R hR p3 (by omega) Am At made.length cm tasks.length ct w3 hrd3 (by omega)
  replace h3 := Lib.hid h3
  replace hS4 := Lib.hid hS4
  replace hI3 := Lib.hid hI3
  clear h2 hS3 hres3 hbw3 hbox3 ht3 hown3 hrd3
  go_wp2_with fail
  refine h3.out.mono ?_
  rintro e w4 ⟨p4, ks, vk, rfl, hkl, hp4, hp4', hrd4, ht4, hown4⟩
  obtain ⟨Ak, ck, rfl, hkl2, hkm, hK⟩ := rowM (lo := w1.heap.size) hown4 (by omega)
  have hmt := mask_turn (lo := w1.heap.size) ht4 (fun i e => by cases e; exact hgl)
  have hS5 := hS4.out.up hmt ht4.size
  have hI5 := hI3.out.up hmt ht4.size
  have hres5 := (ht4.block _ (by omega) (fun e => by omega)).trans hres4
  have hbox5 := (ht4.block _ (by omega) (fun e => by omega)).trans hbox4
  have hbw5 : Below w.heap.size w w4 := hbw4.trans (ht4.below (by omega) (fun i e => by cases e; omega))
  have hz4 : w2.heap.size < w4.heap.size := by have := ht4.size; omega
  clear x0 x1
  have h4 := l91Moves_calls R hR p4 (by omega) w4 hrd4
  replace h4 := Lib.hid h4
  replace hS5 := Lib.hid hS5
  replace hI5 := Lib.hid hI5
  replace hK := Lib.hid hK
  clear h3 hS4 hI3 hmt hres4 hbox4 hbw4 ht4 hown4 hrd4
  go_wp2_with fail
  refine h4.out.mono ?_
  rintro e w5 ⟨p5, ms, vv, rfl, hvl, hp5, hp5', hrd5, ht5, hown5⟩
  obtain ⟨Av, cv, rfl, hvl2, hvm, hV⟩ := rowM (lo := w1.heap.size) hown5 (by omega)
  have hmt := mask_turn (lo := w1.heap.size) ht5 (fun i e => by cases e; exact hgl)
  have hS := hS5.out.up hmt ht5.size
  have hI := hI5.out.up hmt ht5.size
  have hK2 := hK.out.up hmt ht5.size
  have hres := (ht5.block _ (by omega) (fun e => by omega)).trans hres5
  have hbox := (ht5.block _ (by omega) (fun e => by omega)).trans hbox5
  have hbw6 : Below w.heap.size w w5 := hbw5.trans (ht5.below (by omega) (fun i e => by cases e; omega))
  have hz5 : w2.heap.size < w5.heap.size := by have := ht5.size; omega
  have x0 : w5.cell? ⟨w2.heap.size, 0, none⟩ = some (.slice Am made.length cm) := cellm hbox 0
  have x1 : w5.cell? ⟨w2.heap.size, 1, none⟩ = some (.slice At tasks.length ct) := cellm hbox 1
  have y0 : w5.cell? ⟨w.heap.size, 0, none⟩ = some (.slice none 0 0) := cellm hres 0
  have y1 : w5.cell? ⟨w.heap.size, 1, none⟩ = some (.slice none 0 0) := cellm hres 1
  have f0 : w5.frozen? ⟨w.heap.size, 0, none⟩ = false := frozenm hres 0
  have f1 : w5.frozen? ⟨w.heap.size, 1, none⟩ = false := frozenm hres 1
  have hW := setCell_block (setCell_block hres 0 (.slice Am made.length cm)) 1 (.slice At tasks.length ct)
  have hfin := drawThree_done hz1 hS hI hK2 hV htl2.out hm8 hnd (by omega) hil him (by omega) hkl2 hkm (by omega) hvl2 hvm hbw6 (.slice Am made.length cm) (.slice At tasks.length ct)
  replace hfin := Lib.hid hfin
  replace hW := Lib.hid hW
  clear h4 hS5 hI5 hS hI hK hK2 hV hmt hres hbox hbw5 hbw6 ht5 hown5 hres5 hbox5 hrd5
  go_wp2_with fail
  exact ret_sheet3 rfl rfl rfl rfl rfl (hW.out.trans rfl) hfin.out


set_option maxHeartbeats 2000000 in
theorem drawWorkWanted_calls (A : Option Addr) (c : Nat) (bytes : List Int) (B : Nat) (w0 w : World) (hb : Below B w0 w) (hB : B ≤ w.heap.size) (hx : RowAt (fun b : Int => Value.int .u8 b) B w0 A bytes) (hl : bytes.length ≤ c) (hc : c ≤ maxLen) (hby : ∀ b ∈ bytes, 0 ≤ b ∧ b ≤ 255) :
    Calls Try.prog 49 #[.slice A bytes.length c] w (DrawThreeP w) := by
  have h0 := l6Open_calls A c bytes B w0 ((w.alloc (.cells #[.slice none 0 0, .slice none 0 0] 31 (0, 0)))) (below_al' hb _ hB) (by simp; omega) hx hl hc hby
  replace h0 := Lib.hid h0
  clear hb hx hby hl hc
  go_enter Try.func49, Try.ntmps49
  go_wp2_with fail
  refine h0.out.mono ?_
  rintro e w1 ⟨R, rfl, hR, hRB, hRw, hRg, hrd, hb1⟩
  have h1 := l91Sheet_calls R hR 0 (by omega) w1 hrd
  have hgl := block_lt hrd.blk
  have hres1 := (hb1.block w.heap.size (by simp)).trans (heap_new rfl)
  have hz1 : w.heap.size < w1.heap.size := by have := hb1.size; simp at this; omega
  have hg0 : w.heap.size < R.g := by simp at hRg; omega
  have hbw := below_from hb1
  replace h1 := Lib.hid h1
  clear hb1 h0 hRg
  go_wp2_with fail
  refine h1.out.mono ?_
  rintro e w2 ⟨p2, G, made, ts, vm, vt, rfl, hml, hm8, hm2, hp0, hp2, hrd2, ht2, hsh2⟩
  obtain ⟨Am, cm, At, ct, tasks, rfl, rfl, htl, hS2, hnd⟩ := hsh2.readsM
  have htl2 : tasks.length = made.length := by omega
  replace htl2 := Lib.hid htl2
  clear hml htl
  have hz2 : w1.heap.size ≤ w2.heap.size := ht2.size
  have hres2 := (ht2.block _ hz1 (fun e => by omega)).trans hres1
  have hbw2 : Below w.heap.size w w2 := hbw.trans (ht2.below (Nat.le_of_lt hz1) (fun i e => by cases e; omega))
  have hal := below_al (Below.refl _ w2) (.cells #[.slice Am made.length cm, .slice At tasks.length ct] 31 (0, 0))
  have h2 := l91Inputs_calls R hR p2 (by omega) Am At made.length cm tasks.length ct _ (hrd2.up hal) (by omega)
  have hS3 := hS2.up (mask_up hal) hal.size
  have hres3 := (hal.block _ (by omega)).trans hres2
  have hbw3 : Below w.heap.size w _ := hbw2.trans (hal.mono (by omega))
  have hbox3 := heap_alloc_new w2 (.cells #[.slice Am made.length cm, .slice At tasks.length ct] 31 (0, 0))
  replace h2 := Lib.hid h2
  replace hS3 := Lib.hid hS3
  clear h1 hrd2 ht2 hsh2 hres2 hbw2 hal hbw hres1 hrd hS2
  go_wp2_with fail
  refine h2.out.mono ?_
  rintro e w3 ⟨p3, xs, vi, rfl, hxl, hp3, hp3', hrd3, ht3, hown3⟩
  obtain ⟨Ai, ci, rfl, hil, him, hI3⟩ := rowM (lo := w1.heap.size) hown3 (by simp; omega)
  have hS4 := hS3.out.up (mask_turn ht3 (fun i e => by cases e; exact hgl)) ht3.size
  have hres4 := (ht3.block _ (by simp; omega) (fun e => by omega)).trans hres3
  have hbox4 := (ht3.block _ (by simp) (fun e => by omega)).trans hbox3
  have hbw4 : Below w.heap.size w w3 := hbw3.trans (ht3.below (by simp; omega) (fun i e => by cases e; omega))
  have hz3 : w2.heap.size < w3.heap.size := by have := ht3.size; simp at this; omega
  have x0 : w3.cell? ⟨w2.heap.size, 0, none⟩ = some (.slice Am made.length cm) := cellm hbox4 0
  have x1 : w3.cell? ⟨w2.heap.size, 1, none⟩ = some (.slice At tasks.length ct) := cellm hbox4 1
  have h3 := l91Keys_calls R hR p3 (by omega) Am At made.length cm tasks.length ct w3 hrd3 (by omega)
  replace h3 := Lib.hid h3
  replace hS4 := Lib.hid hS4
  replace hI3 := Lib.hid hI3
  clear h2 hS3 hres3 hbw3 hbox3 ht3 hown3 hrd3
  go_wp2_with fail
  refine h3.out.mono ?_
  rintro e w4 ⟨p4, ks, vk, rfl, hkl, hp4, hp4', hrd4, ht4, hown4⟩
  obtain ⟨Ak, ck, rfl, hkl2, hkm, hK⟩ := rowM (lo := w1.heap.size) hown4 (by omega)
  have hmt := mask_turn (lo := w1.heap.size) ht4 (fun i e => by cases e; exact hgl)
  have hS5 := hS4.out.up hmt ht4.size
  have hI5 := hI3.out.up hmt ht4.size
  have hres5 := (ht4.block _ (by omega) (fun e => by omega)).trans hres4
  have hbox5 := (ht4.block _ (by omega) (fun e => by omega)).trans hbox4
  have hbw5 : Below w.heap.size w w4 := hbw4.trans (ht4.below (by omega) (fun i e => by cases e; omega))
  have hz4 : w2.heap.size < w4.heap.size := by have := ht4.size; omega
  clear x0 x1
  have h4 := l91Moves_calls R hR p4 (by omega) w4 hrd4
  replace h4 := Lib.hid h4
  replace hS5 := Lib.hid hS5
  replace hI5 := Lib.hid hI5
  replace hK := Lib.hid hK
  clear h3 hS4 hI3 hmt hres4 hbox4 hbw4 ht4 hown4 hrd4
  go_wp2_with fail
  refine h4.out.mono ?_
  rintro e w5 ⟨p5, ms, vv, rfl, hvl, hp5, hp5', hrd5, ht5, hown5⟩
  obtain ⟨Av, cv, rfl, hvl2, hvm, hV⟩ := rowM (lo := w1.heap.size) hown5 (by omega)
  have hmt := mask_turn (lo := w1.heap.size) ht5 (fun i e => by cases e; exact hgl)
  have hS := hS5.out.up hmt ht5.size
  have hI := hI5.out.up hmt ht5.size
  have hK2 := hK.out.up hmt ht5.size
  have hres := (ht5.block _ (by omega) (fun e => by omega)).trans hres5
  have hbox := (ht5.block _ (by omega) (fun e => by omega)).trans hbox5
  have hbw6 : Below w.heap.size w w5 := hbw5.trans (ht5.below (by omega) (fun i e => by cases e; omega))
  have hz5 : w2.heap.size < w5.heap.size := by have := ht5.size; omega
  have x0 : w5.cell? ⟨w2.heap.size, 0, none⟩ = some (.slice Am made.length cm) := cellm hbox 0
  have x1 : w5.cell? ⟨w2.heap.size, 1, none⟩ = some (.slice At tasks.length ct) := cellm hbox 1
  have y0 : w5.cell? ⟨w.heap.size, 0, none⟩ = some (.slice none 0 0) := cellm hres 0
  have y1 : w5.cell? ⟨w.heap.size, 1, none⟩ = some (.slice none 0 0) := cellm hres 1
  have f0 : w5.frozen? ⟨w.heap.size, 0, none⟩ = false := frozenm hres 0
  have f1 : w5.frozen? ⟨w.heap.size, 1, none⟩ = false := frozenm hres 1
  have hW := setCell_block (setCell_block hres 0 (.slice Am made.length cm)) 1 (.slice At tasks.length ct)
  have hfin := drawThree_done hz1 hS hI hK2 hV htl2.out hm8 hnd (by omega) hil him (by omega) hkl2 hkm (by omega) hvl2 hvm hbw6 (.slice Am made.length cm) (.slice At tasks.length ct)
  replace hfin := Lib.hid hfin
  replace hW := Lib.hid hW
  clear h4 hS5 hI5 hS hI hK hK2 hV hmt hres hbox hbw5 hbw6 ht5 hown5 hres5 hbox5 hrd5
  go_wp2_with fail
  exact ret_sheet3 rfl rfl rfl rfl rfl (hW.out.trans rfl) hfin.out


end Go.Proofs.Ytpccgdkidnkppaa

set_option linter.unusedVariables false
set_option linter.unusedSimpArgs false
namespace Go.Proofs.Ytpccgdkidnkppaa
open Go Go.RowKit

/-! the laws' own words -/
theorem brHas_any (A : Option Addr) (c : Nat) (xs : List Int) (x : Int) (B : Nat) (w0 w : World) (hb : Below B w0 w) (hB : B ≤ w.heap.size) (hx : IntsAt B w0 A xs) (hl : xs.length ≤ 1000000) :
    Calls Try.prog 86 #[.slice A xs.length c, .int .i64 x] w fun e w' => e = .returned (.bool (xs.contains x)) ∧ w = w' := by
  replace hx := Lib.hid hx
  replace hb := Lib.hid hb
  go_enter Try.func86, Try.ntmps86
  go_wp2_with fail
  go_loopw [5] (fun i wr => ∃ (j : Nat), j ≤ xs.length ∧ i = .int .i64 j ∧ wr = w ∧ Hid (∀ q (h : q < xs.length), q < j → xs[q] ≠ x)) (fun i _ => xs.length - (intOf i).toNat)
  case atStart => exact ⟨0, Nat.zero_le _, rfl, rfl, Lib.hid (fun q _ h => by omega)⟩
  case round =>
    obtain ⟨j, hj, rfl, rfl, hno⟩ := hrel
    by_cases hlt : j < xs.length
    · obtain ⟨b, o, rfl, hbl, y⟩ := hx.out.at hb.out hB j hlt
      by_cases e : xs[j] = x
      · have e' : (xs[j] == x) = true := by simp [e]
        have hr : xs.contains x = true := by rw [← e]; simp
        replace e := Lib.hid e
        replace hr := Lib.hid hr
        go_wp2_with fail
        go_ret
        exact ⟨by rw [hr.out]; rfl, rfl⟩
      · have e' : (xs[j] == x) = false := by simp [e]
        have hno2 : ∀ q (h : q < xs.length), q < j + 1 → xs[q] ≠ x := fun q h hq => by
          by_cases hqj : q = j
          · subst hqj; exact e
          · exact hno.out q h (by omega)
        replace e := Lib.hid e
        replace hno2 := Lib.hid hno2
        go_wp2_with fail
        go_roundw
        case rel => exact ⟨j + 1, by omega, by go_num, by first | rfl | trivial, hno2⟩
        case measure => simp [intOf]; omega
    · have hr : xs.contains x = false := by
        rw [List.contains_eq_mem, decide_eq_false_iff_not]
        intro hm
        obtain ⟨q, hq, e⟩ := List.getElem_of_mem hm
        exact hno.out q hq (by omega) e
      replace hr := Lib.hid hr
      go_wp2_with fail
      go_ret
      exact ⟨by rw [hr.out]; rfl, rfl⟩

theorem brAll_any (A : Option Addr) (c : Nat) (xs : List Int) (A2 : Option Addr) (c2 : Nat) (ys : List Int) (B : Nat) (w0 w : World) (hb : Below B w0 w) (hB : B ≤ w.heap.size) (hx : IntsAt B w0 A xs) (hl : xs.length ≤ 1000000) (hy : IntsAt B w0 A2 ys) (hl2 : ys.length ≤ 1000000) :
    Calls Try.prog 28 #[.slice A xs.length c, .slice A2 ys.length c2] w fun e w' => e = .returned (.bool (xs.all fun x => ys.contains x)) ∧ w = w' := by
  have hc := fun x => brHas_any A2 c2 ys x B w0 w hb hB hy hl2
  replace hc := Lib.hid hc
  replace hx := Lib.hid hx
  replace hb := Lib.hid hb
  clear hy
  go_enter Try.func28, Try.ntmps28
  go_wp2_with fail
  go_loopw [5] (fun i wr => ∃ (j : Nat), j ≤ xs.length ∧ i = .int .i64 j ∧ wr = w ∧ Hid (∀ q (h : q < xs.length), q < j → ys.contains xs[q] = true)) (fun i _ => xs.length - (intOf i).toNat)
  case atStart => exact ⟨0, Nat.zero_le _, rfl, rfl, Lib.hid (fun q _ h => by omega)⟩
  case round =>
    obtain ⟨j, hj, rfl, rfl, hno⟩ := hrel
    by_cases hlt : j < xs.length
    · obtain ⟨b, o, rfl, hbl, y⟩ := hx.out.at hb.out hB j hlt
      cases e : ys.contains xs[j] with
      | true =>
        have hno2 : ∀ q (h : q < xs.length), q < j + 1 → ys.contains xs[q] = true := fun q h hq => by
          by_cases hqj : q = j
          · subst hqj; exact e
          · exact hno.out q h (by omega)
        have h1 := hc.out xs[j]
        rw [e] at h1
        replace h1 := Lib.hid h1
        replace e := Lib.hid e
        replace hno2 := Lib.hid hno2
        go_wp2_with fail
        refine h1.out.mono ?_
        rintro e w1 ⟨rfl, rfl⟩
        go_wp2_with fail
        go_roundw
        case rel => exact ⟨j + 1, by omega, by go_num, by first | rfl | trivial, hno2⟩
        case measure => simp [intOf]; omega
      | false =>
        have hr : (xs.all fun x => ys.contains x) = false := by
          rw [List.all_eq_false]
          exact ⟨xs[j], List.getElem_mem _, by simp only [e]; decide⟩
        have h1 := hc.out xs[j]
        rw [e] at h1
        replace h1 := Lib.hid h1
        replace e := Lib.hid e
        replace hr := Lib.hid hr
        go_wp2_with fail
        refine h1.out.mono ?_
        rintro e w1 ⟨rfl, rfl⟩
        go_wp2_with fail
        go_ret
        exact ⟨by rw [hr.out]; rfl, rfl⟩
    · have hr : (xs.all fun x => ys.contains x) = true := by
        rw [List.all_eq_true]
        intro x hx2
        obtain ⟨q, hq, rfl⟩ := List.getElem_of_mem hx2
        exact hno.out q hq (by omega)
      replace hr := Lib.hid hr
      go_wp2_with fail
      go_ret
      exact ⟨by rw [hr.out]; rfl, rfl⟩
end Go.Proofs.Ytpccgdkidnkppaa
