import Derived.Deep.RegionHeld3
import Derived.Deep.QuietTactic
import Derived.BigQuiet
import Derived.OpenShut
import Derived.Test.YtpccgdkidnkppaaPk1FnWorkWanted
import Derived.Test.YtpccgdkidnkppaaPk20FnWorkWanted
import Derived.Test.YtpccgdkidnkppaaPk23FnWorkWanted
set_option linter.unusedVariables false
set_option linter.unusedSimpArgs false
namespace Go.Proofs.Ytpccgdkidnkppaa
open Go Go.RowKit

set_option maxRecDepth 5000 in
set_option maxHeartbeats 8000000 in
theorem fnWorkWanted_calls (A : Option Addr) (c : Nat) (bytes : List Int) (w : World) (hx : RowAt (fun b : Int => Value.int .u8 b) w.heap.size w A bytes) (hl : bytes.length ≤ c) (hc : c ≤ maxLen) (hby : ∀ b ∈ bytes, 0 ≤ b ∧ b ≤ 255) :
    Calls Try.prog 11 #[.slice A bytes.length c] w fun e w' => e = .returned (.bool true) ∧ Below w.heap.size w w' := by
  have hcm := hc
  unfold maxLen at hcm
  by_cases hbig : 1048576 < bytes.length
  · clear hx hby
    go_enter Try.func11, Try.ntmps11
    go_wp2_with fail
    go_ret
    exact ⟨rfl, Below.refl _ _⟩
  have hdr := drawWorkWanted_calls A c bytes w.heap.size w w (Below.refl _ _) (Nat.le_refl _) hx hl hc hby
  replace hdr := Lib.hid hdr
  clear hx hby
  go_enter Try.func11, Try.ntmps11
  go_wp2_with fail
  refine hdr.out.mono ?_
  rintro e w1 ⟨Am, cm, At, ct, made, tasks, Ai, ci, inputs, Ak, ck, keys, Av, cv, moves, rfl, ha, hb1⟩
  have hnod : ∀ T ∈ tasks, nodes T ≤ 1000000000 := fun T hT => by have := ha.base.base.nodes T hT; omega
  have hsm := ha.base.base.small
  obtain ⟨Rv, ⟨rl, rb⟩, hR10, -, hvw, -, hRg, -, -, hI, hS⟩ := work_any made tasks inputs keys moves hnod (by omega) (by have := ha.base.klen; omega)
  obtain ⟨⟨sl, sb⟩, hS10, hSg, hU, -⟩ := susp_any made tasks inputs keys hnod (by omega)
  have hI' := fun w2 (h : Below w1.heap.size w1 w2) => hI w2 Am At cm ct Ai ci Ak ck Av cv w1.heap.size w1 h h.size ha.base.base.sheet ha.base.base.ints ha.base.base.icap ha.base.base.imax ha.base.keysAt ha.base.kcap ha.base.kmax ha.movesAt ha.vcap ha.vmax
  have hS' := fun w2 (h : Below w1.heap.size w1 w2) => hS w2 Am At cm ct Ai ci Ak ck Av cv w1.heap.size w1 h h.size ha.base.base.sheet ha.base.base.ints ha.base.base.icap ha.base.base.imax ha.base.keysAt ha.base.kcap ha.base.kmax ha.movesAt ha.vcap ha.vmax
  have hU' := fun w2 (h : Below w1.heap.size w1 w2) => hU w2 Am At cm ct Ai ci Ak ck w1.heap.size w1 h h.size ha.base.base.sheet ha.base.base.ints ha.base.base.icap ha.base.base.imax ha.base.keysAt ha.base.kcap ha.base.kmax
  have hlaw : rb = true → sb = true ∧ (rl.all fun x => sl.contains x) = true ∧ (sl.all fun x => rl.contains x) = true := fun h => by
    dsimp only at hvw
    obtain ⟨tks, all, rfl, hG, -⟩ := hRg (by rw [hvw, h])
    have e1 := hSg.is tks rfl hG.hS hG.hkeys
    have hss := safe_susp hG.hS hG.hsafe keys
    have hiff := susp_iff hG.hS hG.hall hss
    have hsl : sl = (suspP ⟨made, tks, inputs⟩ keys).1 := by rw [← e1]
    refine ⟨by rw [← e1] at hss; exact hss, ?_, ?_⟩ <;> rw [List.all_eq_true] <;> intro x hx
    · simpa [hsl] using (hiff x).2 ((hG.mem x).1 hx)
    · rw [hsl] at hx
      simpa using (hG.mem x).2 ((hiff x).1 hx)
  dsimp only at hR10 hS10
  have hal := below_al (Below.refl w1.heap.size w1) (.cells #[.slice Am made.length cm, .slice At tasks.length ct] 31 (0, 0))
  replace hI := Lib.hid hI'
  replace hS := Lib.hid hS'
  replace hU := Lib.hid hU'
  replace hlaw := Lib.hid hlaw
  replace hal := Lib.hid hal
  replace hb1 := Lib.hid hb1
  clear ha hdr hnod hRg hSg hI' hS' hU' hvw
  go_wp2_with fail
  refine (hI.out _ hal.out).mono ?_
  rintro e w2 ⟨A1, c1, rfl, hl1, hm1, hi1, h2⟩
  dsimp only at hl1 hi1 ⊢
  have x0 : w2.cell? ⟨w1.heap.size, 0, none⟩ = some (.slice Am made.length cm) := (h2.cell (p := ⟨w1.heap.size, 0, none⟩) (by simp)).trans (by simp)
  have x1 : w2.cell? ⟨w1.heap.size, 1, none⟩ = some (.slice At tasks.length ct) := (h2.cell (p := ⟨w1.heap.size, 1, none⟩) (by simp)).trans (by simp)
  have s2 : w1.heap.size < w2.heap.size := by have := h2.size; simp at this; omega
  have b2 : Below w1.heap.size w1 w2 := below_from h2
  replace b2 := Lib.hid b2
  replace hi1 := Lib.hid hi1
  clear h2 hI
  go_wp2_with fail
  refine (hS.out _ b2.out).mono ?_
  rintro e w3 ⟨A2, c2, rfl, hl2, hm2, hi2, h3⟩
  dsimp only at hl2 hi2 ⊢
  have y0 := kept_cell h3 s2 x0
  have y1 := kept_cell h3 s2 x1
  have s3 : w1.heap.size < w3.heap.size := by have := h3.size; omega
  have b3 := b2.out.trans (h3.mono (Nat.le_of_lt s2))
  have hi13 := hi1.out.up h3 h3.size
  have hbr := brInts_calls A1 c1 rl A2 c2 rl w3 hi13 hi2 (by unfold maxLen; omega) (by unfold maxLen; omega)
  rw [decide_eq_true rfl] at hbr
  have hneq : (rb != rb) = false := by cases rb <;> rfl
  replace b3 := Lib.hid b3
  replace hi13 := Lib.hid hi13
  replace hbr := Lib.hid hbr
  clear h3 x0 x1 b2 hi2 hS hi1
  have hm1' := hm1
  unfold maxLen at hm1 hm2
  go_wp2_with fail
  refine hbr.out.mono ?_
  rintro e w4 ⟨rfl, h4⟩
  have z0 := kept_cell h4 s3 y0
  have z1 := kept_cell h4 s3 y1
  have s4 : w1.heap.size < w4.heap.size := by have := h4.size; omega
  have b4 := b3.out.trans (h4.mono b3.out.size)
  have hi14 := hi13.out.up h4 h4.size
  replace b4 := Lib.hid b4
  replace hi14 := Lib.hid hi14
  clear h4 y0 y1 b3 hi13 hbr
  go_wp2_with fail
  refine (hU.out _ b4.out).mono ?_
  rintro e w5 ⟨A5, c5, rfl, hl5, hm5, hi5, h5⟩
  dsimp only at hl5 hi5 ⊢
  have x0 := kept_cell h5 s4 z0
  have x1 := kept_cell h5 s4 z1
  have s5 : w1.heap.size < w5.heap.size := by have := h5.size; omega
  have b5 := b4.out.trans (h5.mono b4.out.size)
  have hi15 := hi14.out.up h5 h5.size
  replace b5 := Lib.hid b5
  replace hi15 := Lib.hid hi15
  replace hi5 := Lib.hid hi5
  clear h5 z0 z1 b4 hi14 hU
  cases rb with
  | false =>
    clear hlaw x0 x1
    go_wp2_with fail
    go_ret
    exact ⟨rfl, hb1.out.trans (b5.out.mono hb1.out.size)⟩
  | true =>
    obtain ⟨rfl, hf, hb⟩ := hlaw.out rfl
    have hba1 := brAll_any A1 c1 rl A5 c5 sl w5.heap.size w5 w5 (Below.refl _ _) (Nat.le_refl _) hi15.out (by omega) hi5.out (by omega)
    have hba2 := brAll_any A5 c5 sl A1 c1 rl w5.heap.size w5 w5 (Below.refl _ _) (Nat.le_refl _) hi5.out (by omega) hi15.out (by omega)
    rw [hf] at hba1
    rw [hb] at hba2
    replace hba1 := Lib.hid hba1
    replace hba2 := Lib.hid hba2
    clear hlaw x0 x1 hf hb
    go_wp2_with fail
    refine hba1.out.mono ?_
    rintro e w10 ⟨rfl, rfl⟩
    go_wp2_with fail
    refine hba2.out.mono ?_
    rintro e w10 ⟨rfl, rfl⟩
    go_wp2_with fail
    go_ret
    exact ⟨rfl, hb1.out.trans (b5.out.mono hb1.out.size)⟩
end Go.Proofs.Ytpccgdkidnkppaa

set_option linter.unusedVariables false
namespace Go.Proofs.Ytpccgdkidnkppaa
open Go Go.RowKit

theorem byte_row {w : World} {x : Addr} {zs : List Int} (len : Nat) (hcell : ∀ i, i < zs.length → w.cell? (x.add i) = some (.int .u8 (zs.getD i 0))) : RowAt (fun b : Int => Value.int .u8 b) w.heap.size w (some x) (zs.take len) := by
  intro i hi
  have hl : i < zs.length := by simp at hi; omega
  obtain ⟨b, off, rfl, h⟩ := ints_at hcell (by omega)
  have h1 := h i hl
  refine ⟨b, off, rfl, ?_, ?_⟩
  · by_cases hb : b < w.heap.size
    · exact hb
    · exfalso
      have h2 : w.heap[b]? = none := by simp; omega
      simp [World.cell?, h2] at h1
  · rw [h1]; simp [hl]
theorem byte_vals {zs : List Int} (len : Nat) (h : ∀ n ∈ zs, (Lit.int .u8 n).wf = true) : ∀ b ∈ zs.take len, 0 ≤ b ∧ b ≤ 255 :=
  fun b hb => bounds_u8 (h b (List.mem_of_mem_take hb))
end Go.Proofs.Ytpccgdkidnkppaa
