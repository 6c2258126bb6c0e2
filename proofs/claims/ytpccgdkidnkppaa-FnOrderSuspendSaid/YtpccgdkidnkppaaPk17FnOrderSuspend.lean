import Derived.Deep.RegionHeld3
import Derived.Deep.QuietTactic
import Derived.BigQuiet
import Derived.OpenShut
import Derived.Test.YtpccgdkidnkppaaPk1FnOrderSuspend
import Derived.Test.YtpccgdkidnkppaaPk16FnOrderSuspend
set_option linter.unusedVariables false
set_option linter.unusedSimpArgs false
namespace Go.Proofs.Ytpccgdkidnkppaa
open Go Go.RowKit

set_option maxRecDepth 5000 in
set_option maxHeartbeats 8000000 in
theorem fnOrderSuspend_calls (A : Option Addr) (c : Nat) (bytes : List Int) (w : World) (hx : RowAt (fun b : Int => Value.int .u8 b) w.heap.size w A bytes) (hl : bytes.length ≤ c) (hc : c ≤ maxLen) (hby : ∀ b ∈ bytes, 0 ≤ b ∧ b ≤ 255) :
    Calls Try.prog 6 #[.slice A bytes.length c] w fun e w' => e = .returned (.bool true) ∧ Below w.heap.size w w' := by
  have hcm := hc
  unfold maxLen at hcm
  by_cases hbig : 1048576 < bytes.length
  · clear hx hby
    go_enter Try.func6, Try.ntmps6
    go_wp2_with fail
    go_ret
    exact ⟨rfl, Below.refl _ _⟩
  have hdr := drawOrderSuspend_calls A c bytes w.heap.size w w (Below.refl _ _) (Nat.le_refl _) hx hl hc hby
  replace hdr := Lib.hid hdr
  clear hx hby
  go_enter Try.func6, Try.ntmps6
  go_wp2_with fail
  refine hdr.out.mono ?_
  rintro e w1 ⟨Am, cm, At, ct, made, tasks, Ai, ci, inputs, Ak, ck, keys, rfl, ha, hb1⟩
  have hnod : ∀ T ∈ tasks, nodes T ≤ 1000000000 := fun T hT => by have := ha.base.nodes T hT; omega
  have hsm := ha.base.small
  obtain ⟨⟨rl, rb⟩, hR10, hRg, hI, hS⟩ := susp_any made tasks inputs keys hnod (by omega)
  obtain ⟨⟨al, ab⟩, hA10, hAg, hA⟩ := all_any made tasks inputs
  obtain ⟨⟨tl, tb⟩, hT10, hTg, hT⟩ := topo_any made tasks keys (Nat.le_trans ha.kcap ha.kmax)
  have hI' := fun w2 (h : Below w1.heap.size w1 w2) => hI w2 Am At cm ct Ai ci Ak ck w1.heap.size w1 h h.size ha.base.sheet ha.base.ints ha.base.icap ha.base.imax ha.keysAt ha.kcap ha.kmax
  have hS' := fun w2 (h : Below w1.heap.size w1 w2) => hS w2 Am At cm ct Ai ci Ak ck w1.heap.size w1 h h.size ha.base.sheet ha.base.ints ha.base.icap ha.base.imax ha.keysAt ha.kcap ha.kmax
  have hA' := fun w2 (h : Below w1.heap.size w1 w2) => hA w2 Am At cm ct Ai ci w1.heap.size w1 h h.size ha.base.sheet ha.base.ints ha.base.icap ha.base.imax
  have hT' := fun w2 (h : Below w1.heap.size w1 w2) => hT w2 Am At cm ct Ak ck w1.heap.size w1 h h.size ha.base.sheet ha.keysAt ha.kcap ha.kmax
  have hF : rb = true → ab = true → ∀ (w3 : World) (Ax : Option Addr) (cx : Nat), Below w1.heap.size w1 w3 → IntsAt w3.heap.size w3 Ax rl → rl.length ≤ cx → cx ≤ maxLen →
      Calls Try.prog 16 #[.agg #[.slice Am made.length cm, .slice At tasks.length ct], .slice Ai inputs.length ci, .slice Ax rl.length cx] w3 fun e w' => e = .returned (.bool true) ∧ Below w3.heap.size w3 w' := by
    intro h1 h2 w3 Ax cx hb hx hlx hmx
    obtain ⟨tks, rfl, hSo, hko, hRe⟩ := hRg h1
    obtain ⟨tks2, he2, hSo2, hAe⟩ := hAg h2
    obtain rfl := Tk.map_inj _ _ he2
    have := fits_any hSo rl w3 Am At cm ct Ai ci Ax cx w3.heap.size w3 (Below.refl _ _) (Nat.le_refl _) (ha.base.sheet.up hb hb.size) (ha.base.ints.up hb hb.size) ha.base.icap ha.base.imax hx hlx hmx
    have hr : orderFitsP ⟨made, tks, inputs⟩ rl = true := by
      subst h1; subst h2
      have h3 := susp_fits (keys := keys) hSo hAe.symm (by rw [← hRe])
      rw [← hRe] at h3
      unfold orderFitsP
      rw [← hAe, Bool.true_and]; exact h3
    rw [hr] at this
    exact this
  have hin : rb = true → tb = true → (rl.all fun x => tl.contains x) = true := by
    intro h1 h2
    obtain ⟨tks, rfl, hSo, hko, hRe⟩ := hRg h1
    obtain ⟨hsafe, hmem⟩ := hTg h2
    rw [List.all_eq_true]
    intro x hx
    have := susp_reach hSo keys x (by rw [← hRe]; exact hx)
    simpa using (hmem x).2 this
  dsimp only at hR10 hA10 hT10
  have hal := below_al (Below.refl w1.heap.size w1) (.cells #[.slice Am made.length cm, .slice At tasks.length ct] 31 (0, 0))
  replace hI := Lib.hid hI'
  replace hS := Lib.hid hS'
  replace hA := Lib.hid hA'
  replace hT := Lib.hid hT'
  replace hF := Lib.hid hF
  replace hin := Lib.hid hin
  replace hal := Lib.hid hal
  replace hb1 := Lib.hid hb1
  clear ha hdr hnod hRg hAg hTg hI' hS' hA' hT'
  go_wp2_with fail
  refine (hI.out _ hal.out).mono ?_
  rintro e w2 ⟨A1, c1, rfl, hl1, hm1, hi1, h2⟩
  dsimp only at hl1 hi1 ⊢
  have x0 : w2.cell? ⟨w1.heap.size, 0, none⟩ = some (.slice Am made.length cm) := (h2.cell (p := ⟨w1.heap.size, 0, none⟩) (by simp)).trans (by simp)
  have x1 : w2.cell? ⟨w1.heap.size, 1, none⟩ = some (.slice At tasks.length ct) := (h2.cell (p := ⟨w1.heap.size, 1, none⟩) (by simp)).trans (by simp)
  have s2 : w1.heap.size < w2.heap.size := by have := h2.size; simp at this; omega
  have b2 : Below w1.heap.size w1 w2 := below_from h2
  replace b2 := Lib.hid b2
  replace hi1 := Lib.hid hi1
  clear h2 hI
  go_wp2_with fail
  refine (hS.out _ b2.out).mono ?_
  rintro e w3 ⟨A2, c2, rfl, hl2, hm2, hi2, h3⟩
  dsimp only at hl2 hi2 ⊢
  have y0 := kept_cell h3 s2 x0
  have y1 := kept_cell h3 s2 x1
  have s3 : w1.heap.size < w3.heap.size := by have := h3.size; omega
  have b3 := b2.out.trans (h3.mono (Nat.le_of_lt s2))
  have hi13 := hi1.out.up h3 h3.size
  have hbr := brInts_calls A1 c1 rl A2 c2 rl w3 hi13 hi2 (by unfold maxLen; omega) (by unfold maxLen; omega)
  rw [decide_eq_true rfl] at hbr
  have hneq : (rb != rb) = false := by cases rb <;> rfl
  replace b3 := Lib.hid b3
  replace hi13 := Lib.hid hi13
  replace hbr := Lib.hid hbr
  clear h3 x0 x1 b2 hi2 hS hi1
  have hm1' := hm1
  unfold maxLen at hm1 hm2
  go_wp2_with fail
  refine hbr.out.mono ?_
  rintro e w4 ⟨rfl, h4⟩
  have z0 := kept_cell h4 s3 y0
  have z1 := kept_cell h4 s3 y1
  have s4 : w1.heap.size < w4.heap.size := by have := h4.size; omega
  have b4 := b3.out.trans (h4.mono b3.out.size)
  have hi14 := hi13.out.up h4 h4.size
  replace b4 := Lib.hid b4
  replace hi14 := Lib.hid hi14
  clear h4 y0 y1 b3 hi13 hbr
  go_wp2_with fail
  refine (hA.out _ b4.out).mono ?_
  rintro e w5 ⟨A5, c5, rfl, -, -, -, h5⟩
  have x0 := kept_cell h5 s4 z0
  have x1 := kept_cell h5 s4 z1
  have s5 : w1.heap.size < w5.heap.size := by have := h5.size; omega
  have b5 := b4.out.trans (h5.mono b4.out.size)
  have hi15 := hi14.out.up h5 h5.size
  replace b5 := Lib.hid b5
  replace hi15 := Lib.hid hi15
  clear h5 z0 z1 b4 hi14 hA
  go_wp2_with fail
  refine (hT.out _ b5.out).mono ?_
  rintro e w6 ⟨A6, c6, rfl, hl6, hm6, hi6, h6⟩
  dsimp only at hl6 hi6 ⊢
  have z0 := kept_cell h6 s5 x0
  have z1 := kept_cell h6 s5 x1
  have b6 := b5.out.trans (h6.mono b5.out.size)
  have hi16 := hi15.out.up h6 h6.size
  replace b6 := Lib.hid b6
  replace hi16 := Lib.hid hi16
  replace hi6 := Lib.hid hi6
  clear h6 x0 x1 b5 hi15 hT
  cases rb with
  | false =>
    go_wp2_with fail
    go_ret
    exact ⟨rfl, hb1.out.trans (b6.out.mono hb1.out.size)⟩
  | true =>
    cases ab with
    | false =>
      cases tb with
      | false =>
        go_wp2_with fail
        go_ret
        exact ⟨rfl, hb1.out.trans (b6.out.mono hb1.out.size)⟩
      | true =>
        have hin2 := hin.out (by first | rfl | trivial) (by first | rfl | trivial)
        have hba := brAll_any A1 c1 rl A6 c6 tl w6.heap.size w6 w6 (Below.refl _ _) (Nat.le_refl _) hi16.out (by omega) hi6.out (by omega)
        rw [hin2] at hba
        replace hba := Lib.hid hba
        clear hin2
        go_wp2_with fail
        refine hba.out.mono ?_
        rintro e w7 ⟨rfl, rfl⟩
        go_wp2_with fail
        go_ret
        exact ⟨rfl, hb1.out.trans (b6.out.mono hb1.out.size)⟩
    | true =>
      have hf := hF.out rfl rfl w6 A1 c1 b6.out hi16.out hl1 hm1'
      replace hf := Lib.hid hf
      go_wp2_with fail
      refine hf.out.mono ?_
      rintro e w7 ⟨rfl, h7⟩
      have b7 := b6.out.trans (h7.mono b6.out.size)
      have hi17 := hi16.out.up h7 h7.size
      have hi7 := hi6.out.up h7 h7.size
      replace b7 := Lib.hid b7
      replace hi17 := Lib.hid hi17
      replace hi7 := Lib.hid hi7
      clear h7 z0 z1
      cases tb with
      | false =>
        go_wp2_with fail
        go_ret
        exact ⟨rfl, hb1.out.trans (b7.out.mono hb1.out.size)⟩
      | true =>
        have hin2 := hin.out (by first | rfl | trivial) (by first | rfl | trivial)
        have hba := brAll_any A1 c1 rl A6 c6 tl w7.heap.size w7 w7 (Below.refl _ _) (Nat.le_refl _) hi17.out (by omega) hi7.out (by omega)
        rw [hin2] at hba
        replace hba := Lib.hid hba
        clear hin2
        go_wp2_with fail
        refine hba.out.mono ?_
        rintro e w8 ⟨rfl, rfl⟩
        go_wp2_with fail
        go_ret
        exact ⟨rfl, hb1.out.trans (b7.out.mono hb1.out.size)⟩
end Go.Proofs.Ytpccgdkidnkppaa

set_option linter.unusedVariables false
namespace Go.Proofs.Ytpccgdkidnkppaa
open Go Go.RowKit

theorem byte_row {w : World} {x : Addr} {zs : List Int} (len : Nat) (hcell : ∀ i, i < zs.length → w.cell? (x.add i) = some (.int .u8 (zs.getD i 0))) : RowAt (fun b : Int => Value.int .u8 b) w.heap.size w (some x) (zs.take len) := by
  intro i hi
  have hl : i < zs.length := by simp at hi; omega
  obtain ⟨b, off, rfl, h⟩ := ints_at hcell (by omega)
  have h1 := h i hl
  refine ⟨b, off, rfl, ?_, ?_⟩
  · by_cases hb : b < w.heap.size
    · exact hb
    · exfalso
      have h2 : w.heap[b]? = none := by simp; omega
      simp [World.cell?, h2] at h1
  · rw [h1]; simp [hl]
theorem byte_vals {zs : List Int} (len : Nat) (h : ∀ n ∈ zs, (Lit.int .u8 n).wf = true) : ∀ b ∈ zs.take len, 0 ≤ b ∧ b ≤ 255 :=
  fun b hb => bounds_u8 (h b (List.mem_of_mem_take hb))
end Go.Proofs.Ytpccgdkidnkppaa
