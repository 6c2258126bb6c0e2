import Derived.Deep.LoopGhost
import Derived.Test.YtpccgdkidnkppaaPk6FnWorkValues
import Derived.Test.YtpccgdkidnkppaaPk8FnWorkValues
import Derived.Test.YtpccgdkidnkppaaPk9FnWorkValues
import Derived.Test.YtpccgdkidnkppaaPk12FnWorkValues
import Derived.Test.YtpccgdkidnkppaaPk14FnWorkValues
import Derived.Test.YtpccgdkidnkppaaPk15FnWorkValues
set_option linter.unusedVariables false
set_option linter.unusedSimpArgs false
namespace Go.Proofs.Ytpccgdkidnkppaa
open Go Go.RowKit

/-! rows of fetches -/
def FetsAt (B : Nat) (w : World) (A : Option Addr) (l : List (Int × Int)) : Prop :=
  ∀ i (h : i < l.length), ∃ b o, A = some ⟨b, o, none⟩ ∧ b < B ∧ w.cell? ⟨b, o + i * 2, none⟩ = some (.int .i64 l[i].1) ∧ w.cell? ⟨b, o + i * 2 + 1, none⟩ = some (.int .i64 l[i].2)
theorem FetsAt.at {B : Nat} {w0 w : World} {A : Option Addr} {l : List (Int × Int)} (h : FetsAt B w0 A l) (hb : Below B w0 w) (hB : B ≤ w.heap.size) (i : Nat) (hi : i < l.length) :
    ∃ b o, A = some ⟨b, o, none⟩ ∧ b < w.heap.size ∧ w.cell? ⟨b, o + i * 2, none⟩ = some (.int .i64 l[i].1) ∧ w.cell? ⟨b, o + i * 2 + 1, none⟩ = some (.int .i64 l[i].2) := by
  obtain ⟨b, o, e, hlt, h1, h2⟩ := h i hi
  exact ⟨b, o, e, by omega, (hb.cell hlt).trans h1, (hb.cell hlt).trans h2⟩
theorem FetsAt.up {B B' : Nat} {w0 w : World} {A : Option Addr} {l : List (Int × Int)} (h : FetsAt B w0 A l) (hb : Below B w0 w) (hB : B ≤ B') : FetsAt B' w A l := by
  intro i hi
  obtain ⟨b, o, e, hlt, h1, h2⟩ := h i hi
  exact ⟨b, o, e, by omega, (hb.cell hlt).trans h1, (hb.cell hlt).trans h2⟩
theorem FetsAt.nil (B : Nat) (w : World) (A : Option Addr) : FetsAt B w A [] := fun i h => by simp at h
theorem fets_get : ∀ (l : List (Int × Int)) (i : Nat) (h : i < l.length), (fets l)[i * 2]? = some (.int .i64 l[i].1) ∧ (fets l)[i * 2 + 1]? = some (.int .i64 l[i].2) := by
  intro l
  induction l with
  | nil => intro i h; simp at h
  | cons f l ih =>
    intro i h
    cases i with
    | zero => exact ⟨rfl, rfl⟩
    | succ i =>
      have := ih i (by simpa using h)
      rw [show (i + 1) * 2 = i * 2 + 2 by omega, show i * 2 + 2 + 1 = i * 2 + 1 + 2 by omega]
      exact this
theorem fets_own {w : World} {base : Nat} {e : TypeId} {v : Value} {l : List (Int × Int)} (h : w.ownsRow base e 2 v l.length (fets l)) : ∃ A c, v = .slice A l.length c ∧ l.length ≤ c ∧ c ≤ maxLen ∧ FetsAt w.heap.size w A l := by
  obtain ⟨A, c, rfl, h1, h2, h3⟩ := ownsRow_cells h
  refine ⟨A, c, rfl, h1, h2, fun i hi => ?_⟩
  have hl := fets_length l
  obtain ⟨b, e1, hb, c1⟩ := h3 (i * 2) (by omega)
  obtain ⟨b', e2, -, c2⟩ := h3 (i * 2 + 1) (by omega)
  rw [e1] at e2
  cases e2
  have hg := fets_get l i hi
  refine ⟨b, 0, e1, hb, ?_, ?_⟩
  · rw [Nat.zero_add, c1, ← List.getElem?_eq_getElem]; exact hg.1
  · rw [Nat.zero_add, c2, ← List.getElem?_eq_getElem]; exact hg.2
theorem one_fet (a b : Int) : ∀ u ∈ [Value.int .i64 a, Value.int .i64 b], u.oneCell' = true := by
  intro u hu
  simp only [List.mem_cons, List.not_mem_nil, or_false] at hu
  rcases hu with rfl | rfl <;> rfl

theorem findexFunc_calls (p : Int × Int → Bool) (g : Nat) (first cap : Array Value) (hg : Enters Try.prog g) (A : Option Addr) (c : Nat) (l : List (Int × Int)) (B : Nat) (w0 w : World) (hb : Below B w0 w) (hB : B ≤ w.heap.size) (hm : l.length ≤ maxLen) (hx : FetsAt B w0 A l)
    (hf : ∀ x w', x ∈ l → Below w.heap.size w w' → Calls Try.prog g (first ++ #[.agg #[.int .i64 x.1, .int .i64 x.2]] ++ cap) w' (fun e w'' => e = .returned (.bool (p x)) ∧ Below w'.heap.size w' w'')) :
    Calls Try.prog 155 #[.slice A l.length c, .func (.func g) first cap] w fun e w' => e = .returned (.int .i64 (idx p l)) ∧ Below w.heap.size w w' := by
  unfold maxLen at hm
  replace hx := Lib.hid hx
  replace hb := Lib.hid hb
  replace hf := Lib.hid hf
  go_enter Try.func155, Try.ntmps155
  go_wp2
  go_loopw [5, 8] (fun _ i wr => ∃ k : Nat, k ≤ l.length ∧ i = .int .i64 k ∧ Hid (Below w.heap.size w wr) ∧ Hid (∀ j (hj : j < l.length), j < k → p l[j] = false)) (fun _ i _ => l.length - (intOf i).toNat)
  case atStart => exact ⟨0, Nat.zero_le _, rfl, Lib.hid (Below.refl _ _), Lib.hid (fun j _ h => by omega)⟩
  case round =>
    obtain ⟨k, hk, rfl, hw, hno⟩ := hrel
    by_cases hlt : k < l.length
    · obtain ⟨b, o, rfl, hbl, hc1, hc2⟩ := hx.out.at (below_up' hb.out hB hw.out) (Nat.le_trans hB hw.out.size) k hlt
      go_wp2_with ((with_reducible refine wpList_call_value (by rfl) (.tmp 11) _ _ (by rfl) g first cap (by with_unfolding_all rfl) hg ?_); refine (hf.out l[k] _ (List.getElem_mem _) hw.out).mono ?_; rintro e w' ⟨rfl, h3⟩; replace h3 := Lib.hid h3; refine ⟨_, rfl, ?_⟩)
      · have hp : p l[k] = true := by assumption
        have hr : idx p l = k := idx_found hlt (fun j hj => hno.out j _ hj) hp
        go_ret
        exact ⟨by rw [hr]; rfl, below_up hw.out h3.out⟩
      · have hp : p l[k] = false := by assumption
        go_roundw
        case rel => exact ⟨k + 1, by omega, by go_num, Lib.hid (below_up hw.out h3.out), Lib.hid (fun j hj h => if e : j = k then by subst e; exact hp else hno.out j hj (by omega))⟩
        case measure => simp [intOf]; omega
    · have hr : idx p l = -1 := idx_none (fun j hj => hno.out j hj (by omega))
      replace hr := Lib.hid hr
      go_wp2
      go_ret
      exact ⟨by rw [hr.out]; rfl, hw.out⟩
theorem fcontainsFunc_calls (p : Int × Int → Bool) (g : Nat) (first cap : Array Value) (hg : Enters Try.prog g) (A : Option Addr) (c : Nat) (l : List (Int × Int)) (B : Nat) (w0 w : World) (hb : Below B w0 w) (hB : B ≤ w.heap.size) (hm : l.length ≤ maxLen) (hx : FetsAt B w0 A l)
    (hf : ∀ x w', x ∈ l → Below w.heap.size w w' → Calls Try.prog g (first ++ #[.agg #[.int .i64 x.1, .int .i64 x.2]] ++ cap) w' (fun e w'' => e = .returned (.bool (p x)) ∧ Below w'.heap.size w' w'')) :
    Calls Try.prog 133 #[.slice A l.length c, .func (.func g) first cap] w fun e w' => e = .returned (.bool (l.any p)) ∧ Below w.heap.size w w' := by
  have h := findexFunc_calls p g first cap hg A c l B w0 w hb hB hm hx hf
  replace h := Lib.hid h
  clear hx hb hf
  go_enter Try.func133, Try.ntmps133
  go_wp2_with fail
  refine h.out.mono ?_
  rintro e w1 ⟨rfl, h3⟩
  replace h3 := Lib.hid h3
  have hr := idx_any p l
  generalize idx p l = n at *
  replace hr := Lib.hid hr
  go_wp2_with fail
  go_ret
  exact ⟨by rw [← hr.out]; rfl, h3.out⟩
end Go.Proofs.Ytpccgdkidnkppaa

set_option linter.unusedVariables false
set_option linter.unusedSimpArgs false
namespace Go.Proofs.Ytpccgdkidnkppaa
open Go Go.RowKit

theorem own_low {w : World} {base base' : Nat} {e : TypeId} {size : Nat} {v : Value} {n : Nat} {xs : List Value} (h : w.ownsRow base e size v n xs) (hl : base' ≤ base) : w.ownsRow base' e size v n xs := by
  obtain ⟨h1, h2⟩ := h
  refine ⟨h1, h2.imp id ?_⟩
  rintro ⟨g, cap, cur, hv, hb, h3⟩
  exact ⟨g, cap, cur, hv, Nat.le_trans hl hb, h3⟩
theorem once1f_calls (b : Nat) (g : Int × Int) (k : Int) (w : World) (x0 : w.cell? ⟨b, 0, none⟩ = some (.int .i64 k)) (hb : b < w.heap.size) :
    Calls Try.prog 134 #[.agg #[.int .i64 g.1, .int .i64 g.2], .pointer (some ⟨b, 0, none⟩)] w fun e w' => e = .returned (.bool (g.1 == k)) ∧ Below w.heap.size w w' := by
  generalize hd : (g.1 == k) = d
  obtain ⟨p, q⟩ := g
  dsimp only at hd ⊢
  go_enter Try.func134, Try.ntmps134
  go_wp2_with fail
  go_ret
  exact ⟨rfl, below_al (Below.refl _ _) _⟩

set_option maxHeartbeats 2000000 in
theorem once_calls (A : Option Addr) (c : Nat) (l : List (Int × Int)) (B : Nat) (w0 w : World) (hb : Below B w0 w) (hB : B ≤ w.heap.size) (hl : l.length ≤ 1000) (hx : FetsAt B w0 A l) :
    Calls Try.prog 91 #[.slice A l.length c] w fun e w' => ∃ v, e = .returned v ∧ w'.ownsRow w.heap.size 112 2 v (onceL2 l []).length (fets (onceL2 l [])) ∧ Below w.heap.size w w' := by
  have hg : Enters Try.prog 134 := enters_of Try.func134 (by kernel_rfl) rfl
  have hcf := fun (nb : Nat) (k : Int) (Ao : Option Addr) (co : Nat) (out : List (Int × Int)) (w1 : World) (x0 : w1.cell? ⟨nb, 0, none⟩ = some (.int .i64 k)) (hnb : nb < w1.heap.size) (ho : FetsAt w1.heap.size w1 Ao out) (hol : out.length ≤ maxLen) =>
    fcontainsFunc_calls (fun g => g.1 == k) 134 #[] #[.pointer (some ⟨nb, 0, none⟩)] hg Ao co out w1.heap.size w1 w1 (Below.refl _ _) (Nat.le_refl _) hol ho (fun x w' _ hw => by
      simpa using once1f_calls nb x k w' ((hw.cell (p := ⟨nb, 0, none⟩) hnb).trans x0) (Nat.lt_of_lt_of_le hnb hw.size))
  obtain ⟨R, hR⟩ : ∃ R, onceL2 l [] = R := ⟨_, rfl⟩
  rw [hR]
  replace hcf := Lib.hid hcf
  replace hx := Lib.hid hx
  replace hb := Lib.hid hb
  replace hR := Lib.hid hR
  replace hg := Lib.hid hg
  go_enter Try.func91, Try.ntmps91
  go_wp2_with fail
  go_loopw [3, 5, 8] (fun o _ i wr => ∃ (j : Nat) (out : List (Int × Int)), j ≤ l.length ∧ i = .int .i64 j ∧ out.length ≤ j ∧ Hid (wr.ownsRow w.heap.size 112 2 o out.length (fets out)) ∧ Hid (Below w.heap.size w wr) ∧ Hid (onceL2 l [] = onceL2 (l.drop j) out)) (fun _ _ i _ => l.length - (intOf i).toNat)
  case atStart => exact ⟨0, [], Nat.zero_le _, rfl, Nat.le_refl _, Lib.hid (World.ownsRow_nil _ _ _ _), Lib.hid (Below.refl _ _), Lib.hid rfl⟩
  case round =>
    obtain ⟨j, out, hj, rfl, hol, hown, hw, he⟩ := hrel
    by_cases hlt : j < l.length
    · have he2 := he.out
      rw [List.drop_eq_getElem_cons hlt, onceL2] at he2
      obtain ⟨b, o, rfl, hbb, y0, y1⟩ := hx.out.at (below_up' hb.out hB hw.out) (Nat.le_trans hB hw.out.size) j hlt
      generalize l[j] = f at *
      obtain ⟨k, v⟩ := f
      dsimp only at y0 y1 he2
      obtain ⟨Ao, co, rfl, ho1, ho2, hf3⟩ := fets_own hown.out
      have ho2' := Nat.le_trans ho1 ho2
      replace ho2' := Lib.hid ho2'
      replace hf3 := Lib.hid hf3
      have hwz := hw.out.size
      have hnew := heap_alloc_new wr (.cells #[.int .i64 k, .int .i64 v] 112 (0, 0))
      replace he2 := Lib.hid he2
      unfold maxLen at ho2
      clear he
      go_wp2_with fail
      refine (hcf.out wr.heap.size k Ao co out _ ((cellm hnew 0).trans rfl) (block_lt hnew) (hf3.out.up (below_al (Below.refl _ _) _) (by simp)) ho2'.out).mono ?_
      rintro e w5 ⟨rfl, h5⟩
      have hnb5 := (h5.block _ (block_lt hnew)).trans hnew
      have x0 : w5.cell? ⟨wr.heap.size, 0, none⟩ = some (.int .i64 k) := (cellm hnb5 0).trans rfl
      have x1 : w5.cell? ⟨wr.heap.size, 1, none⟩ = some (.int .i64 v) := (cellm hnb5 1).trans rfl
      have hlt5 := block_lt hnb5
      have h6 := (below_al (Below.refl wr.heap.size wr) (.cells #[.int .i64 k, .int .i64 v] 112 (0, 0))).trans (h5.mono (by simp))
      have hown5 := ownsRow_block hown.out (fun i hi => h6.block i (hown.out.lt i hi).2)
      have hw5 := hw.out.trans (h6.mono hwz)
      replace hown5 := Lib.hid hown5
      replace hw5 := Lib.hid hw5
      clear h5 h6 hnb5 hnew hf3 hown hw y0 y1
      cases hany : (out.any fun g => g.1 == k) with
      | true =>
        have he3 := he2.out
        simp only [hany, if_true] at he3
        replace he3 := Lib.hid he3
        clear he2
        go_wp2_with fail
        go_roundw
        case rel => exact ⟨j + 1, out, by omega, by go_num, by omega, hown5, hw5, he3⟩
        case measure => simp [intOf]; omega
      | false =>
        have he3 := he2.out
        simp only [hany] at he3
        replace he3 := Lib.hid he3
        clear he2
        go_wp2_with (at_builtin; go_loud (with_reducible refine wpList_app1 (by rfl) (.tmp 16) (.tmp 18) 73 (by rfl) fetTy w.heap.size (.slice Ao out.length co) out.length (fets out) (by with_unfolding_all rfl) (hown5.out.alloc _) w5.heap.size 1 [.int .i64 k, .int .i64 v] (by with_unfolding_all rfl) (by with_unfolding_all rfl) ⟨_, _, heap_alloc_new w5 _, rfl⟩ (one_fet _ _) ?_ ?_ ?_ ?_))
        · unfold maxLen; omega
        · omega
        · have := hw5.out.size; simp; omega
        intro g7 cap w7 hown7 hgrow7 hat7
        have hw7 := (hw5.out.alloc hw5.out.size _).grown hgrow7 (by have := hw5.out.size; simp; omega) (fun i hi => (hown5.out.lt i hi).1)
        have hown7' : w7.ownsRow w.heap.size 112 2 (.slice (some ⟨g7, 0, none⟩) (out.length + 1) cap) (out ++ [(k, v)]).length (fets (out ++ [(k, v)])) := by
          rw [fets_append, List.length_append, List.length_singleton]; exact hown7
        replace hw7 := Lib.hid hw7
        replace hown7' := Lib.hid hown7'
        clear hown7 hgrow7 hat7
        go_wp2_with fail
        go_roundw
        case rel => exact ⟨j + 1, out ++ [(k, v)], by omega, by go_num, by simp; omega, hown7', hw7, he3⟩
        case measure => simp [intOf]; omega
    · have hd : l.drop j = [] := List.drop_eq_nil_of_le (by omega)
      have he2 := he.out
      rw [hd, onceL2] at he2
      replace he2 := Lib.hid he2
      replace hd := Lib.hid hd
      clear he
      go_wp2_with fail
      go_ret
      rw [← hR.out, he2.out]
      exact ⟨_, rfl, hown.out, hw.out⟩

set_option maxHeartbeats 1000000 in
theorem taskFetches_good (t : Tk) (A : Option Addr) (c : Nat) (xs : List Int) (Ax : Option Addr) (cx B : Nat) (w0 w : World) (hb : Below B w0 w) (hB : B ≤ w.heap.size) (hok : t.ok) (hokT : okT t.enc = true) (hc : t.enc.parts.length ≤ c) (hcm : c ≤ maxLen) (hp : PartsIs B w0 A 0 t.enc.parts)
    (hm : xs.length ≤ maxLen) (hx : IntsAt B w0 Ax xs) (hv : valsOk xs = true) :
    Calls Try.prog 90 #[.agg #[.int .i64 t.enc.kind, .int .i64 t.enc.n, .slice A t.enc.parts.length c], .slice Ax xs.length cx] w fun e w' =>
      ∃ v, e = .returned (.tuple #[v, .bool true]) ∧ w'.ownsRow w.heap.size 112 2 v (fetchedP t xs).2.length (fets (fetchedP t xs).2) ∧ Below w.heap.size w w' := by
  have hc1 := fun w1 (hw : Below w.heap.size w w1) => taskOk_calls t.enc A c B w0 w1 (below_up' hb hB hw) (Nat.le_trans hB hw.size) hc hcm hp
  rw [hokT] at hc1
  have hc2 := fun w1 (hw : Below w.heap.size w w1) => valuesOk_calls Ax cx xs B w0 w1 (below_up' hb hB hw) (Nat.le_trans hB hw.size) hm hx
  rw [hv] at hc2
  have hc3 := fun w1 (hw : Below w.heap.size w w1) => fetched_calls t A c xs Ax cx B w0 w1 (below_up' hb hB hw) (Nat.le_trans hB hw.size) hok (fets_small hokT) hc hp hm hx (vals_iff.1 (Bool.and_eq_true_iff.1 hv).2)
  replace hc1 := Lib.hid hc1
  replace hc2 := Lib.hid hc2
  replace hc3 := Lib.hid hc3
  clear hb hx hp hok hokT hv hcm
  go_enter Try.func90, Try.ntmps90
  go_wp2_with fail
  refine (hc1.out _ (below_al (Below.refl _ _) _)).mono ?_
  rintro e w1 ⟨rfl, h1⟩
  have x0 : w1.cell? ⟨w.heap.size, 0, none⟩ = some (.int .i64 t.enc.kind) := (h1.cell (p := ⟨w.heap.size, 0, none⟩) (by simp)).trans (by simp)
  have x1 : w1.cell? ⟨w.heap.size, 1, none⟩ = some (.int .i64 t.enc.n) := (h1.cell (p := ⟨w.heap.size, 1, none⟩) (by simp)).trans (by simp)
  have x2 : w1.cell? ⟨w.heap.size, 2, none⟩ = some (.slice A t.enc.parts.length c) := (h1.cell (p := ⟨w.heap.size, 2, none⟩) (by simp)).trans (by simp)
  have b1 := below_from h1
  have s1 : w.heap.size < w1.heap.size := by have := h1.size; simp at this; omega
  replace b1 := Lib.hid b1
  clear h1
  go_wp2_with fail
  refine (hc2.out _ b1.out).mono ?_
  rintro e w2 ⟨rfl, h2⟩
  have y0 := kept_cell h2 s1 x0
  have y1 := kept_cell h2 s1 x1
  have y2 := kept_cell h2 s1 x2
  have b2 := below_up b1.out h2
  replace b2 := Lib.hid b2
  clear h2 x0 x1 x2 s1
  go_wp2_with fail
  refine (hc3.out _ b2.out).mono ?_
  rintro e w3 ⟨v, rfl, hown, h3⟩
  have b3 := below_up b2.out h3
  have hown' : w3.ownsRow w.heap.size 112 2 v (fetchedP t xs).2.length (fets (fetchedP t xs).2) := own_low hown b2.out.size
  replace b3 := Lib.hid b3
  replace hown' := Lib.hid hown'
  clear h3 y0 y1 y2 hown
  go_wp2_with fail
  go_ret2
  exact ⟨_, rfl, hown'.out, b3.out⟩

set_option maxHeartbeats 2000000 in
theorem taskUses_good (t : Tk) (A : Option Addr) (c : Nat) (xs : List Int) (Ax : Option Addr) (cx B : Nat) (w0 w : World) (hb : Below B w0 w) (hB : B ≤ w.heap.size) (hok : t.ok) (hokT : okT t.enc = true) (hc : t.enc.parts.length ≤ c) (hcm : c ≤ maxLen) (hp : PartsIs B w0 A 0 t.enc.parts)
    (hm : xs.length ≤ maxLen) (hx : IntsAt B w0 Ax xs) (hv : valsOk xs = true) :
    Calls Try.prog 32 #[.agg #[.int .i64 t.enc.kind, .int .i64 t.enc.n, .slice A t.enc.parts.length c], .slice Ax xs.length cx] w fun e w' =>
      ∃ v, e = .returned (.tuple #[v, .bool true]) ∧ w'.ownsRow w.heap.size 3 1 v (usesP t xs).length (ints (usesP t xs)) ∧ Below w.heap.size w w' := by
  have hc1 := fun w1 (hw : Below w.heap.size w w1) => taskFetches_good t A c xs Ax cx B w0 w1 (below_up' hb hB hw) (Nat.le_trans hB hw.size) hok hokT hc hcm hp hm hx hv
  have hfl := fetched_length t xs
  have hfs := fets_small hokT
  have hmap := once_map (fetchedP t xs).2 []
  have hus : usesP t xs = usesL (fetchedP t xs).2 [] := rfl
  rw [hus, show ([] : List Int) = ([] : List (Int × Int)).map Prod.fst from rfl, ← hmap]
  have hll := onceL2_length (fetchedP t xs).2 []
  generalize (fetchedP t xs).2 = l at *
  have hlen : l.length ≤ 100 := by omega
  have hc2 := fun (Al : Option Addr) (cl : Nat) (w1 : World) (h : FetsAt w1.heap.size w1 Al l) => once_calls Al cl l w1.heap.size w1 w1 (Below.refl _ _) (Nat.le_refl _) (by omega) h
  generalize onceL2 l [] = r at *
  have hrl : r.length ≤ 100 := by simp at hll; omega
  obtain ⟨R, hR⟩ : ∃ R, r.map Prod.fst = R := ⟨_, rfl⟩
  rw [hR]
  replace hc1 := Lib.hid hc1
  replace hc2 := Lib.hid hc2
  replace hR := Lib.hid hR
  clear hb hx hp hok hokT hv hcm hfl hfs hmap hus hll hc
  go_enter Try.func32, Try.ntmps32
  go_wp2_with fail
  refine (hc1.out _ (below_al (Below.refl _ _) _)).mono ?_
  rintro e w1 ⟨v1, rfl, hown1, h1⟩
  have b1 := below_from h1
  obtain ⟨A1, c1, rfl, -, -, hf1⟩ := fets_own hown1
  have hcall := hc2.out A1 c1 w1 hf1
  replace b1 := Lib.hid b1
  replace hcall := Lib.hid hcall
  clear h1 hown1 hf1 hc1 hc2
  go_wp2_with fail
  refine hcall.out.mono ?_
  rintro e w2 ⟨v2, rfl, hown2, h2⟩
  have b2 := below_up b1.out h2
  obtain ⟨A2, c2, rfl, hr1, hr2, hf2⟩ := fets_own hown2
  unfold maxLen at hr2
  replace b2 := Lib.hid b2
  replace hf2 := Lib.hid hf2
  clear h2 hown2 hcall
  go_wp2_with fail
  go_loopw [8, 10, 20] (fun o _ i wr => ∃ (j : Nat), j ≤ r.length ∧ i = .int .i64 j ∧ Hid (wr.ownsRow w2.heap.size 3 1 o j (ints ((r.take j).map Prod.fst))) ∧ Hid (Below w2.heap.size w2 wr)) (fun _ _ i _ => r.length - (intOf i).toNat)
  case atStart => exact ⟨0, Nat.zero_le _, rfl, Lib.hid (World.ownsRow_nil _ _ _ _), Lib.hid (Below.refl _ _)⟩
  case round =>
    obtain ⟨j, hj, rfl, hown, hw2⟩ := hrel
    by_cases hlt : j < r.length
    · obtain ⟨b, o, rfl, hbb, y0, y1⟩ := hf2.out.at hw2.out hw2.out.size j hlt
      have htk : (r.take (j + 1)).map Prod.fst = (r.take j).map Prod.fst ++ [r[j].1] := by rw [List.take_succ_eq_append_getElem hlt, List.map_append]; rfl
      generalize r[j] = f at *
      obtain ⟨k, v⟩ := f
      dsimp only at y0 y1 htk
      have hwz := hw2.out.size
      replace htk := Lib.hid htk
      go_wp2_with (at_builtin; go_loud (with_reducible refine wpList_app1 (by rfl) (.tmp 24) (.tmp 27) 26 (by rfl) intTy w2.heap.size u8 j (ints ((r.take j).map Prod.fst)) (by with_unfolding_all rfl) ((hown.out.alloc _).alloc _) (wr.heap.size + 1) 1 [.int .i64 k] (by with_unfolding_all rfl) (by with_unfolding_all rfl) ⟨_, _, heap_new (by simp), rfl⟩ (one_int _ _) ?_ ?_ ?_ ?_))
      · unfold maxLen; omega
      · omega
      · simp; omega
      intro g7 cap w7 hown7 hgrow7 hat7
      have hal2 := below_al (below_al (Below.refl wr.heap.size wr) (.cells #[.int .i64 k, .int .i64 v] 112 (0, 0))) (.cells #[.int .i64 k] 3 (0, 0))
      have hw27 : Below w2.heap.size w2 w7 := (hw2.out.trans (hal2.mono hwz)).grown hgrow7 (by simp; omega) (fun i hi => (hown.out.lt i hi).1)
      have hown7' : w7.ownsRow w2.heap.size 3 1 (.slice (some ⟨g7, 0, none⟩) (j + 1) cap) (j + 1) (ints ((r.take (j + 1)).map Prod.fst)) := by
        rw [htk.out, ints_append, List.map_take]; exact hown7
      replace hw27 := Lib.hid hw27
      replace hown7' := Lib.hid hown7'
      clear hown7 hgrow7 hat7 hal2
      go_wp2_with fail
      go_roundw
      case rel => exact ⟨j + 1, by omega, by go_num, hown7', hw27⟩
      case measure => simp [intOf]; omega
    · have hje : j = r.length := by omega
      subst hje
      have hown' := own_low hown.out b2.out.size
      have hw := b2.out.trans (hw2.out.mono b2.out.size)
      replace hw := Lib.hid hw
      rw [List.take_length, hR.out] at hown'
      have hRl : r.length = R.length := by rw [← hR.out, List.length_map]
      rw [hRl] at hown'
      replace hown' := Lib.hid hown'
      clear hown
      go_wp2_with fail
      go_ret2
      exact ⟨_, rfl, hown'.out, hw.out⟩
end Go.Proofs.Ytpccgdkidnkppaa

set_option linter.unusedVariables false
set_option linter.unusedSimpArgs false
namespace Go.Proofs.Ytpccgdkidnkppaa
open Go Go.RowKit

/-! how many rounds there are -/
theorem rrun_out {S : Sh} : ∀ {n : Nat} {a b : RSt}, RRun S n a b → a.out.length ≤ b.out.length := by
  intro n
  induction n with
  | zero => intro a b h; rw [RRun] at h; rw [h]; exact Nat.le_refl _
  | succ n ih =>
    intro a b h
    have h1 := ih h.2
    have h2 : a.out.length ≤ (rstep S a).out.length := by
      unfold rstep
      split
      · exact Nat.le_refl _
      · split
        · exact Nat.le_refl _
        · split <;> simp
    omega
theorem rrun_len {S : Sh} : ∀ {n : Nat} {a b : RSt}, RRun S n a b → b.queue = [] → a.queue.length ≤ n ∧ n + 2 * a.out.length ≤ a.queue.length + 2 * b.out.length := by
  intro n
  induction n with
  | zero => intro a b h hb; rw [RRun] at h; rw [h, hb]; simp
  | succ n ih =>
    intro a b h hb
    obtain ⟨h1, h2⟩ := ih h.2 hb
    have h3 := rrun_out h.2
    unfold rstep at h1 h2 h3
    cases hq : a.queue with
    | nil => exact (h.1 hq).elim
    | cons k q =>
      simp only [hq] at h1 h2 h3 ⊢
      split at h1
      · rename_i h4
        rw [if_pos h4] at h2
        simp only [List.length_cons] at *
        omega
      · rename_i h4
        rw [if_neg h4] at h2 h3
        split at h1
        · rename_i h5
          rw [if_pos h5] at h2 h3
          simp only [List.length_cons, List.length_append, List.length_nil] at *
          omega
        · rename_i h5
          rw [if_neg h5] at h2 h3
          simp only [List.length_cons, List.length_append, List.length_nil] at *
          omega
/-- 'q = q[1:]' -/
theorem slice_tail (g o n c : Nat) (hn : n + 1 ≤ c) : ∃ o2, (∀ W, (Instr.slice 26 (.slice (some ⟨g, o, none⟩) (n + 1) c) (some (.int .i64 1)) none none).run Try.prog W = .ok (.slice (some ⟨g, o2, none⟩) n (c - 1)) W) ∧
    (∀ W, (Instr.sliceAt 26 (.slice (some ⟨g, o, none⟩) (n + 1) c) (some (.int .i64 1)) none none).run Try.prog W = .ok (.slice (some ⟨g, o2, none⟩) n (c - 1)) W) ∧ (c ≠ 1 → o2 = o + 1) := by
  have hE : Try.prog.elem 26 = 3 := by simp [Program.elem, Try.underlying26]
  have ht : Try.prog.underlying 26 = some (.slice (Try.prog.elem 26)) := by rw [hE]; exact Try.underlying26
  have hz : ∀ W, (sizeOf 3).run Try.prog W = .ok 1 W := fun W => by kernel_rfl
  have h1 : ∀ W, (Instr.slice 26 (.slice (some ⟨g, o, none⟩) (n + 1) c) (some (.int .i64 1)) none none).run Try.prog W = .ok (.slice (some ⟨g, if c = 1 then o else o + 1, none⟩) n (c - 1)) W := fun W => by
    rw [run_slice_l W 26 _ _ _ ht .i64 1 (by omega) (by omega), hE, hz]
    by_cases h : c = 1
    · simp [Result.andThen, sliced, h]
    · simp [Result.andThen, sliced, Addr.add, h]
  exact ⟨if c = 1 then o else o + 1, h1, fun W => by rw [run_sliceAt_slice W _ _ _ _ _ ht]; exact h1 W, fun h => if_neg h⟩
/-- what is kept of what is built -/
structure KnOk (S : Sh) (kn : Int → Option Int) : Prop where
  val : ∀ k v, kn k = some v → 0 ≤ v ∧ v ≤ 96
  key : ∀ k v, kn k = some v → 0 ≤ k ∧ k < S.made.length

theorem try_lacks {S : Sh} {kn : Int → Option Int} : ∀ (m : Itr) (s : Int), (m.run (tryF S kn) s).1.2 = false → mkK S.made (m.run (tryF S kn) s).2 = true := by
  intro m
  induction m with
  | done v => intro s h; simp [Itr.run] at h
  | ask k c ih =>
    intro s h
    by_cases h1 : (tryF S kn s k).1.2 = true
    · rw [Itr.run_yes h1] at h ⊢; exact ih _ _ h
    · rw [Itr.run_no h1]
      unfold tryF at h1 ⊢
      split
      · rename_i h2; rw [if_pos h2] at h1; exact (h1 rfl).elim
      · rename_i h2
        rw [if_neg h2] at h1
        split
        · rename_i v h3; rw [h3] at h1; exact (h1 rfl).elim
        · simpa using h2
theorem tryR_range (S : Sh) (hS : S.Ok) (kn : Int → Option Int) (hkv : ∀ k v, kn k = some v → 0 ≤ v ∧ v ≤ 96) (k : Int) :
    0 ≤ (tryR S kn k).1.1 ∧ (tryR S kn k).1.1 ≤ 96 ∧ ((tryR S kn k).1.2 = false → 0 ≤ (tryR S kn k).2 ∧ (tryR S kn k).2 < S.made.length) := by
  have h2 : (tryR S kn k).1.2 = false → 0 ≤ (tryR S kn k).2 ∧ (tryR S kn k).2 < S.made.length := fun h => mkK_range (by show mkK S.made ((S.tk k).itr.run (tryF S kn) (-1)).2 ≠ false; rw [try_lacks _ _ h]; simp)
  have h1 : 0 ≤ (tryR S kn k).1.1 ∧ (tryR S kn k).1.1 ≤ 96 := by
    unfold tryR
    rw [← Tk.run_itr _ (tryF_zero S kn)]
    refine Tk.run_value (J := fun _ => True) (fun _ _ _ _ _ => trivial) (fun s j _ _ _ => ?_) (S.tk k) _ (tk_ok hS k) trivial
    unfold tryF
    split
    · simp only
      unfold atK
      split
      · omega
      · by_cases h1 : j.toNat < S.inputs.length
        · rw [getD_at _ h1]; exact hS.vals _ (List.getElem_mem _)
        · rw [getD_out _ (by omega)]; omega
    · split
      · rename_i v h; exact hkv _ _ h
      · simp
  exact ⟨h1.1, h1.2, h2⟩

/-- a row of numbers in a block, from some cell on -/
structure QAt (M qb : Nat) (v : Value) (xs : List Int) (w : World) : Prop where
  val : ∃ A c, v = .slice A xs.length c ∧ xs.length ≤ c ∧ c ≤ maxLen
  lt : qb < w.heap.size
  ne : qb ≠ M
  cell : ∀ i (h : i < xs.length), ∃ o c, v = .slice (some ⟨qb, o, none⟩) xs.length c ∧ w.cell? ⟨qb, o + i, none⟩ = some (.int .i64 xs[i])
theorem QAt.own {base M : Nat} {v : Value} {xs : List Int} {w : World} (h : w.ownsRow base 3 1 v xs.length (ints xs)) {b : Nat} (hM : M < base) (hb : b ≠ M) (hlt : b < w.heap.size) : ∃ qb, QAt M qb v xs w ∧ (v.ownBlock = some qb ∨ (qb = b ∧ xs = [])) := by
  obtain ⟨A, c, rfl, h1, h2, h3⟩ := ownsRow_ints h
  have hl := h.lt
  rcases h.2 with ⟨e, h0⟩ | ⟨g, cap, cur, e, hg, _⟩
  · simp only [Value.slice.injEq] at e
    obtain ⟨rfl, h00, rfl⟩ := e
    have : xs = [] := List.eq_nil_of_length_eq_zero h0
    exact ⟨b, ⟨⟨none, 0, rfl, h1, h2⟩, hlt, hb, fun i hi => by rw [this] at hi; simp at hi⟩, .inr ⟨rfl, this⟩⟩
  · cases e
    refine ⟨g, ⟨⟨_, _, rfl, h1, h2⟩, (hl g rfl).2, by omega, fun i hi => ?_⟩, .inl rfl⟩
    obtain ⟨b', o', e, _, hc⟩ := h3 i hi
    cases e
    exact ⟨0, _, rfl, hc⟩
theorem QAt.kept {M qb : Nat} {v : Value} {xs : List Int} {w w' : World} (h : QAt M qb v xs w) (hk : w'.heap[qb]? = w.heap[qb]?) (hs : w.heap.size ≤ w'.heap.size) : QAt M qb v xs w' :=
  ⟨h.val, Nat.lt_of_lt_of_le h.lt hs, h.ne, fun i hi => by
    obtain ⟨o, c, e, hc⟩ := h.cell i hi
    exact ⟨o, c, e, (World.cell?_of_block (w := w) hk).trans hc⟩⟩
theorem QAt.ints {M qb : Nat} {A : Option Addr} {c : Nat} {xs : List Int} {w : World} (h : QAt M qb (.slice A xs.length c) xs w) : IntsAt w.heap.size w A xs := fun i hi => by
  obtain ⟨o, c', e, hc⟩ := h.cell i hi
  cases e
  exact ⟨qb, o, rfl, h.lt, hc⟩
/-- without its first number -/
theorem QAt.tail {M qb o c : Nat} {k : Int} {q : List Int} {w : World} (h : QAt M qb (.slice (some ⟨qb, o, none⟩) (q.length + 1) c) (k :: q) w) {A : Option Addr} (hA : q ≠ [] → A = some ⟨qb, o + 1, none⟩) (hc : q.length ≤ c - 1) (hm : c ≤ maxLen) : QAt M qb (.slice A q.length (c - 1)) q w := by
  refine ⟨⟨_, _, rfl, hc, by omega⟩, h.lt, h.ne, fun i hi => ?_⟩
  obtain ⟨o', c', e, hcell⟩ := h.cell (i + 1) (by simpa using hi)
  simp only [Value.slice.injEq, Option.some.injEq, Addr.mk.injEq] at e
  obtain ⟨⟨_, rfl, _⟩, _, _⟩ := e
  refine ⟨o + 1, c - 1, by rw [hA (fun e => by rw [e] at hi; simp at hi)], ?_⟩
  rw [show o + 1 + i = o + (i + 1) by omega]
  simpa using hcell

set_option maxRecDepth 5000 in
set_option maxHeartbeats 16000000 in
theorem orderRestart_good (Am At Ai : Option Addr) (cm ct ci B : Nat) (w0 : World) (S : Sh) (hE : MkEnv.Good ⟨Am, cm, At, ct, Ai, ci, B, w0⟩ S) (hsafe : safeP S.made (S.tks.map Tk.enc) = true) (Ak : Option Addr) (ck : Nat) (keys : List Int) (w : World) (hb : Below B w0 w) (hB : B ≤ w.heap.size) (hk : keysOk S.made.length keys = true) (hx : IntsAt B w0 Ak keys) (hm : keys.length ≤ 1000)
    (n0 : Nat) (fin : RSt) (hr : RRun S n0 ⟨fun _ => none, [], keys⟩ fin) (hfq : fin.queue = []) (hfl : fin.out.length ≤ 1000) :
    Calls Try.prog 30 #[.agg #[.slice Am S.made.length cm, .slice At S.tks.length ct], .slice Ai S.inputs.length ci, .slice Ak keys.length ck] w fun e w' =>
      GivesOwn w.heap.size (fin.out, true) e w w' := by
  have hok2 : takesOk S.made.length S.inputs = true := by simp [takesOk, hE.ok.ins, vals_iff.2 hE.ok.vals]
  have hten := hE.ok.ten
  have hc1 := fun w1 (hw : Below w.heap.size w w1) => sheetSafe_calls Am At cm ct S.made (S.tks.map Tk.enc) B w0 w1 (below_up' hb hB hw) (Nat.le_trans hB hw.size) hE.sheet
  rw [hsafe] at hc1
  simp only [List.length_map] at hc1
  have hc2 := fun w1 (hw : Below w.heap.size w w1) => takes_calls Am At Ai S.made.length cm S.tks.length ct ci S.inputs B w0 w1 (below_up' hb hB hw) (Nat.le_trans hB hw.size) (Nat.le_trans hE.li hE.mi) hE.ins
  rw [hok2] at hc2
  have hc3 := fun w1 (hw : Below w.heap.size w w1) => all_calls Am At Ak S.made.length cm S.tks.length ct ck keys B w0 w1 (below_up' hb hB hw) (Nat.le_trans hB hw.size) (by unfold maxLen; omega) hx
  rw [hk] at hc3
  have hc4 := fun w1 (hw : Below w.heap.size w w1) => clone_calls Ak ck keys B w0 w1 (below_up' hb hB hw) (Nat.le_trans hB hw.size) (by omega) hx
  have hc5 := fun (kn : Int → Option Int) (hkv : ∀ k v, kn k = some v → 0 ≤ v ∧ v ≤ 96) w1 (hw : Below w.heap.size w w1) (M c : Nat) (hM : VMap Try.prog 3 w1 M (knV kn) c) (q : Nat) (hq : q < S.tks.length) =>
    try_calls S hE.ok Am At Ai cm ct ci kn hkv B w0 w1 (below_up' hb hB hw) (Nat.le_trans hB hw.size) hE.sheet hE.ins M c hM q hq
  have hmade : BoolsAt w.heap.size w Am S.made := hE.sheet.made.up hb hB
  have hml : S.made.length ≤ cm := hE.sheet.lm
  have hmmx : cm ≤ maxLen := hE.sheet.mm
  have hlen := hE.ok.len
  have hS := hE.ok
  unfold maxLen at hmmx
  have hrg := keysOk_iff.1 hk
  have hn0 := (rrun_len hr hfq).2
  simp only [List.length_nil] at hn0
  have hn1 : n0 ≤ 3000 := by omega
  clear hn0
  replace hc1 := Lib.hid hc1
  replace hc2 := Lib.hid hc2
  replace hc3 := Lib.hid hc3
  replace hc4 := Lib.hid hc4
  replace hc5 := Lib.hid hc5
  replace hr := Lib.hid hr
  replace hfq := Lib.hid hfq
  replace hmade := Lib.hid hmade
  replace hrg := Lib.hid hrg
  replace hlen := Lib.hid hlen
  replace hS := Lib.hid hS
  clear hok2 hk hb hx hE hsafe
  go_enter Try.func30, Try.ntmps30
  go_wp2_with fail
  refine (hc1.out _ (below_al (Below.refl _ _) _)).mono ?_
  rintro e w1 ⟨rfl, h1⟩
  have x0 : w1.cell? ⟨w.heap.size, 0, none⟩ = some (.slice Am S.made.length cm) := (h1.cell (p := ⟨w.heap.size, 0, none⟩) (by simp)).trans (by simp)
  have x1 : w1.cell? ⟨w.heap.size, 1, none⟩ = some (.slice At S.tks.length ct) := (h1.cell (p := ⟨w.heap.size, 1, none⟩) (by simp)).trans (by simp)
  have hbx1 := (h1.block w.heap.size (by simp)).trans (heap_new rfl)
  have b1 := below_from h1
  have s1 : w.heap.size < w1.heap.size := by have := h1.size; simp at this; omega
  replace b1 := Lib.hid b1
  replace hbx1 := Lib.hid hbx1
  clear h1 hc1
  go_wp2_with fail
  refine (hc2.out _ b1.out).mono ?_
  rintro e w2 ⟨rfl, h2⟩
  have y0 : w2.cell? ⟨w.heap.size, 0, none⟩ = some (.slice Am S.made.length cm) := kept_cell h2 s1 x0
  have y1 : w2.cell? ⟨w.heap.size, 1, none⟩ = some (.slice At S.tks.length ct) := kept_cell h2 s1 x1
  have hbx2 := (h2.block w.heap.size s1).trans hbx1.out
  have b2 := below_up b1.out h2
  have s2 : w.heap.size < w2.heap.size := by have := h2.size; omega
  replace b2 := Lib.hid b2
  replace hbx2 := Lib.hid hbx2
  clear h2 x0 x1 s1 hbx1 hc2
  go_wp2_with fail
  refine (hc3.out _ b2.out).mono ?_
  rintro e w3 ⟨rfl, h3⟩
  have x0 : w3.cell? ⟨w.heap.size, 0, none⟩ = some (.slice Am S.made.length cm) := kept_cell h3 s2 y0
  have x1 : w3.cell? ⟨w.heap.size, 1, none⟩ = some (.slice At S.tks.length ct) := kept_cell h3 s2 y1
  have hbx3 := (h3.block w.heap.size s2).trans hbx2.out
  have b3 := below_up b2.out h3
  have s3 : w.heap.size < w3.heap.size := by have := h3.size; omega
  have hm4 := hc4.out (w3.alloc (.map #[] 0)) (below_al' b3 _ b3.size)
  have hmm := @run_makeMap Try.prog
  replace b3 := Lib.hid b3
  replace hbx3 := Lib.hid hbx3
  replace hm4 := Lib.hid hm4
  clear h3 y0 y1 s2 hbx2 hc3 hc4
  go_wp2_with fail
  refine hm4.out.mono ?_
  rintro e w4 ⟨vq, rfl, hq4, h4⟩
  have b4 : Below w.heap.size w w4 := b3.out.trans ((below_from h4).mono b3.out.size)
  have s4 : w3.heap.size < w4.heap.size := by have := h4.size; simp at this; omega
  have hM4 : VMap Try.prog 3 w4 w3.heap.size (knV (fun _ => none)) 0 := ((VMap.new Try.prog 3 w3).block (h4.block _ (by simp))).congr (fun k => rfl)
  have hbx4 := ((h4.block w.heap.size (by simp; omega)).trans (heap_old s3)).trans hbx3.out
  obtain ⟨qb, hQ4, hqo⟩ := QAt.own hq4 (M := w3.heap.size) (b := w.heap.size) (by simp) (by omega) (by omega)
  replace b4 := Lib.hid b4
  replace hM4 := Lib.hid hM4
  replace hbx4 := Lib.hid hbx4
  replace hQ4 := Lib.hid hQ4
  clear h4 x0 x1 hbx3 hm4 b3
  go_wp2_with fail
  go_loopg [8, 10] n0 (fun gk o q wr => ∃ (st : RSt) (qb c : Nat), gk ≤ n0 ∧ Hid (RRun S gk st fin) ∧ Hid (KnOk S st.kn) ∧ c ≤ 10 ∧ Hid (c = cntN (fun k => (st.kn k).isSome) S.made.length) ∧
    Hid (wr.ownsRow (w3.heap.size + 1) 3 1 o st.out.length (ints st.out)) ∧ Hid (QAt w3.heap.size qb q st.queue wr) ∧ Hid (o.ownBlock ≠ some qb) ∧ Hid (VMap Try.prog 3 wr w3.heap.size (knV st.kn) c) ∧ Hid (∀ k ∈ st.queue, 0 ≤ k ∧ k < S.made.length) ∧
    Hid (Below w.heap.size w wr) ∧ w3.heap.size < wr.heap.size ∧ Hid (wr.heap[w.heap.size]? = some (.cells #[.slice Am S.made.length cm, .slice At S.tks.length ct] 31 (0, 0))))
  case atStart =>
    exact ⟨⟨fun _ => none, [], keys⟩, qb, 0, Nat.le_refl _, hr, Lib.hid ⟨fun k v h => (by cases h), fun k v h => (by cases h)⟩, by omega, Lib.hid (cntN_zero _).symm, Lib.hid (World.ownsRow_nil _ _ _ _), hQ4, Lib.hid (by simp [Value.ownBlock]), hM4, hrg, b4, s4, hbx4⟩
  case round =>
    obtain ⟨⟨kn, out, queue⟩, qb, c, hgn, hr, hkn, hc10, hcc, ho, hQ, hne, hM, hqr, hw, hsz, hbx⟩ := hrel
    dsimp only at hr hkn hcc ho hQ hM hqr
    have x0 : wr.cell? ⟨w.heap.size, 0, none⟩ = some (.slice Am S.made.length cm) := cellm hbx.out 0
    have x1 : wr.cell? ⟨w.heap.size, 1, none⟩ = some (.slice At S.tks.length ct) := cellm hbx.out 1
    cases queue with
    | nil =>
      have hgk : (⟨kn, out, []⟩ : RSt) = fin := by
        cases gk with
        | zero => exact hr.out
        | succ n => exact (hr.out.1 rfl).elim
      have hfo : fin.out = out := by rw [← hgk]
      obtain ⟨Aq, cq, rfl, hql1, hql2⟩ := hQ.out.val
      have hof := own_low ho.out (show w.heap.size ≤ w3.heap.size + 1 by omega)
      replace hgk := Lib.hid hgk
      replace hfo := Lib.hid hfo
      replace hof := Lib.hid hof
      simp only [List.length_nil] at hql1 ⊢
      go_wp2_with fail
      go_ret2
      rw [hfo.out]
      exact ⟨_, rfl, hof.out, hw.out⟩
    | cons k q =>
      obtain ⟨n, rfl⟩ : ∃ n, gk = n + 1 := by
        cases gk with
        | zero => have := hr.out; rw [RRun] at this; have h2 := hfq.out; rw [← this] at h2; cases h2
        | succ n => exact ⟨n, rfl⟩
      have hr2 := hr.out.2
      have hkr := hqr.out k (List.mem_cons_self ..)
      obtain ⟨Aq, cq, e1, hql1, hql2⟩ := hQ.out.val
      obtain ⟨oq, cq', e2, hck⟩ := hQ.out.cell 0 (by simp)
      subst e1
      simp only [List.length_cons, Value.slice.injEq, true_and] at e2
      obtain ⟨rfl, rfl⟩ := e2
      simp only [List.length_cons, Nat.add_zero, List.getElem_cons_zero] at hql1 hck hQ ⊢
      obtain ⟨kq, rfl⟩ := Int.eq_ofNat_of_zero_le hkr.1
      have hkq : kq < S.made.length := by omega
      have hqlen : q.length + 1 ≤ 3001 := by have := (rrun_len hr.out hfq.out).1; simp at this; omega
      obtain ⟨o2, hsl1, hsl2, ho2⟩ := slice_tail qb oq q.length cq (by omega)
      have hT := hQ.out.tail (A := some ⟨qb, o2, none⟩) (fun hne => by
        have : q.length ≠ 0 := fun h => hne (List.eq_nil_of_length_eq_zero h)
        rw [ho2 (by omega)]) (by omega) hql2
      replace hT := Lib.hid hT
      replace ho2 := Lib.hid ho2
      unfold maxLen at hql2
      have hkw : (Lit.int .i64 (kq : Int)).wf = true := wf_small (by omega) (by omega)
      replace hr2 := Lib.hid hr2
      clear hr
      have hrs : ∀ (h : kn kq ≠ none ∨ mkK S.made kq = false), rstep S ⟨kn, out, (kq : Int) :: q⟩ = ⟨kn, out, q⟩ := fun h => by
        have : ((kn kq).isSome || !mkK S.made kq) = true := by
          rcases h with h | h
          · cases e : kn kq with
            | none => exact (h e).elim
            | some v => rfl
          · rw [h]; simp
        simp [rstep, this]
      have hmkk : mkK S.made kq = S.made[kq] := by unfold mkK; rw [if_neg (by omega)]; exact getD_at _ _
      obtain ⟨b3, o3, rfl, hb3, hc3⟩ := hmade.out.at hw.out hw.out.size kq hkq
      have hqr2 : ∀ k ∈ q, 0 ≤ k ∧ k < S.made.length := fun k hk => hqr.out k (List.mem_cons_of_mem _ hk)
      have hgn2 : n ≤ n0 := by omega
      replace hqr2 := Lib.hid hqr2
      replace hrs := Lib.hid hrs
      replace hmkk := Lib.hid hmkk
      cases hkk : kn kq with
      | some v =>
        have hr3 := hr2.out
        rw [hrs.out (.inl (by rw [hkk]; simp))] at hr3
        have hg1 : (knV kn (kq : Int)).isSome = true := by simp [knV, hkk]
        have hg2 : (knV kn (kq : Int)).getD (.int .i64 0) = .int .i64 v := by simp [knV, hkk]
        replace hr3 := Lib.hid hr3
        replace hkk := Lib.hid hkk
        go_wp2_with (with_reducible refine wpList_vget_ok (by rfl) (.tmp 44) (.tmp 45) 99 (by rfl) intMapTy w3.heap.size c (knV kn) (by with_unfolding_all rfl) hM.out kq (by with_unfolding_all rfl) hkw ?_)
        go_roundg n
        case rel => exact ⟨⟨kn, out, q⟩, qb, c, hgn2, hr3, hkn, hc10, hcc, ho, hT, hne, hM, hqr2, hw, hsz, hbx⟩
        case measure => omega
      | none =>
        have hg1 : (knV kn (kq : Int)).isSome = false := by simp [knV, hkk]
        have hg2 : (knV kn (kq : Int)).getD (.int .i64 0) = .int .i64 0 := by simp [knV, hkk]
        cases hmd : S.made[kq] with
        | false =>
          rw [hmd] at hc3
          have hr3 := hr2.out
          rw [hrs.out (.inr (by rw [hmkk.out, hmd]))] at hr3
          replace hr3 := Lib.hid hr3
          replace hkk := Lib.hid hkk
          replace hmd := Lib.hid hmd
          go_wp2_with (with_reducible refine wpList_vget_ok (by rfl) (.tmp 44) (.tmp 45) 99 (by rfl) intMapTy w3.heap.size c (knV kn) (by with_unfolding_all rfl) hM.out kq (by with_unfolding_all rfl) hkw ?_)
          go_roundg n
          case rel => exact ⟨⟨kn, out, q⟩, qb, c, hgn2, hr3, hkn, hc10, hcc, ho, hT, hne, hM, hqr2, hw, hsz, hbx⟩
          case measure => omega
        | true =>
          rw [hmd] at hc3
          have hmk1 : mkK S.made kq = true := by rw [hmkk.out, hmd]
          have hrs2 : rstep S ⟨kn, out, (kq : Int) :: q⟩ = if (tryR S kn kq).1.2 then ⟨upd kn kq (tryR S kn kq).1.1, out ++ [(kq : Int)], q⟩ else ⟨kn, out ++ [(kq : Int)], (tryR S kn kq).2 :: (kq : Int) :: q⟩ := by
            simp [rstep, hkk, hmk1]
          have hr3 := hr2.out
          rw [hrs2] at hr3
          have htk := fun w1 hw M c hM => hc5.out kn hkn.out.val w1 hw M c hM kq (by have := hlen.out; omega)
          have htr := tryR_range S hS.out kn hkn.out.val kq
          generalize hRR : tryR S kn kq = R at *
          have hol : out.length ≤ 1000 := by have := rrun_out hr2.out; rw [hrs2] at this; split at this <;> simp at this <;> omega
          replace hRR := Lib.hid hRR
          replace hrs2 := Lib.hid hrs2
          replace htk := Lib.hid htk
          replace htr := Lib.hid htr
          replace hr3 := Lib.hid hr3
          replace hkk := Lib.hid hkk
          replace hmd := Lib.hid hmd
          replace hmk1 := Lib.hid hmk1
          obtain ⟨Ao, co, rfl, ho1, ho2, -⟩ := ownsRow_ints ho.out
          go_wp2_with (first
            | (with_reducible refine wpList_vget_ok (by rfl) (.tmp 44) (.tmp 45) 99 (by rfl) intMapTy w3.heap.size c (knV kn) (by with_unfolding_all rfl) hM.out kq (by with_unfolding_all rfl) hkw ?_)
            | (at_builtin; go_loud (with_reducible refine wpList_app1 (by rfl) (.tmp 58) (.tmp 60) 26 (by rfl) intTy (w3.heap.size + 1) (.slice Ao out.length co) out.length (ints out) (by with_unfolding_all rfl) (ho.out.alloc _) wr.heap.size 1 [.int .i64 kq] (by with_unfolding_all rfl) (by with_unfolding_all rfl) ⟨_, _, heap_alloc_new wr _, rfl⟩ (one_int _ _) ?_ ?_ ?_ ?_)))
          · unfold maxLen; omega
          · omega
          · simp; omega
          intro g5 cap5 w5 hown5 hgrow5 hat5
          have hMo := hM.out.ne ho.out
          have hbo := fun e => ownsRow_ne ho.out hbx.out (fun c e => by cases e) e
          have hz5 := hgrow5.size
          simp only [World.size_alloc] at hz5
          have hk5 : ∀ i, i < wr.heap.size → (Value.slice Ao out.length co).ownBlock ≠ some i → w5.heap[i]? = wr.heap[i]? := fun i hi hne2 => (hgrow5.block i (by simp; omega) (fun e => hne2 e.symm)).trans (heap_old hi)
          have hT5 := hT.out.kept (hk5 qb hT.out.lt hne.out) (by omega)
          have hM5 := hM.out.block (hk5 _ hM.out.lt hMo)
          have hbx5 := (hk5 _ (block_lt hbx.out) hbo).trans hbx.out
          have hw5 : Below w.heap.size w w5 := (below_al' hw.out _ hw.out.size).grown hgrow5 (by have := hw.out.size; simp; omega) (fun k hk => by have := (ho.out.lt k hk).1; omega)
          have hne5 : (Value.slice (some ⟨g5, 0, none⟩) (out.length + 1) cap5).ownBlock ≠ some qb := fun e => by
            simp only [Value.ownBlock, Option.some.injEq] at e
            have hl := hT.out.lt
            rcases hat5 with h | h
            · rw [e] at h; exact hne.out h
            · first | omega | (simp at h; omega)
          have hown5' : w5.ownsRow (w3.heap.size + 1) 3 1 (.slice (some ⟨g5, 0, none⟩) (out.length + 1) cap5) (out ++ [(kq : Int)]).length (ints (out ++ [(kq : Int)])) := by
            rw [ints_append, List.length_append, List.length_singleton]; exact hown5
          have y0 : w5.cell? ⟨w.heap.size, 0, none⟩ = some (.slice (some ⟨b3, o3, none⟩) S.made.length cm) := cellm hbx5 0
          have y1 : w5.cell? ⟨w.heap.size, 1, none⟩ = some (.slice At S.tks.length ct) := cellm hbx5 1
          have htk5 := htk.out w5 hw5 w3.heap.size c hM5
          replace hT5 := Lib.hid hT5
          replace hM5 := Lib.hid hM5
          replace hbx5 := Lib.hid hbx5
          replace hw5 := Lib.hid hw5
          replace hne5 := Lib.hid hne5
          replace hown5' := Lib.hid hown5'
          replace htk5 := Lib.hid htk5
          clear hown5 hgrow5 hat5 hk5 hbo hMo hT hM hbx hw hne ho hQ x0 x1 hc3 htk
          go_wp2_with fail
          refine htk5.out.mono ?_
          rintro e w6 ⟨rfl, h6⟩
          have hT6 := hT5.out.kept (h6.block _ hT5.out.lt) h6.size
          have hM6 := hM5.out.block (h6.block _ hM5.out.lt)
          have hbx6 := (h6.block _ (block_lt hbx5.out)).trans hbx5.out
          have hw6 := below_up hw5.out h6
          have hown6 := ownsRow_block hown5'.out (fun i hi => h6.block i (hown5'.out.lt i hi).2)
          have hz6 := h6.size
          have htr := htr.out
          obtain ⟨⟨v, ok⟩, lk⟩ := R
          dsimp only at htr hr3 ⊢
          cases ok with
          | true =>
            have hr4 := hr3.out
            rw [if_pos rfl] at hr4
            have hc1 : c < maxLen := by unfold maxLen; omega
            replace hT6 := Lib.hid hT6
            replace hM6 := Lib.hid hM6
            replace hbx6 := Lib.hid hbx6
            replace hw6 := Lib.hid hw6
            replace hown6 := Lib.hid hown6
            replace hr4 := Lib.hid hr4
            replace htr := Lib.hid htr
            clear hT5 hM5 hbx5 hw5 hown5' h6 y0 y1 hr3 htk5
            go_wp2_with (with_reducible refine wpList_vput (by rfl) (.tmp 78) (.tmp 79) (.tmp 80) 99 (by rfl) intMapTy w3.heap.size c (knV kn) (by with_unfolding_all rfl) hM6.out hc1 kq (.int .i64 v) (by with_unfolding_all rfl) (by with_unfolding_all rfl) hkw ?_)
            intro w7 hM7 hg7
            have hcp : putC (knV kn) (kq : Int) c = c + 1 := by unfold putC; rw [hg1]; rfl
            rw [hcp, knV_upd] at hM7
            have hz7 := hg7.size
            have hT7 := hT6.out.kept (hg7.block _ hT6.out.lt (fun e => by simp at e; exact hT6.out.ne e)) hz7
            have hM6l := hM6.out.lt
            have hbx7 := (hg7.block _ (block_lt hbx6.out) (fun e => by simp at e; omega)).trans hbx6.out
            have hw7 : Below w.heap.size w w7 := hw6.out.grown hg7 (Nat.le_trans hw6.out.size (Nat.le_refl _)) (fun k hk => by simp at hk; omega)
            have hown7 := ownsRow_block hown6.out (fun i hi => hg7.block i (hown6.out.lt i hi).2 (fun e => by simp at e; have := (hown6.out.lt i hi).1; omega))
            have hkn7 : KnOk S (upd kn kq v) := ⟨fun j u hu => by
              simp only [upd] at hu
              split at hu
              · cases hu; exact ⟨htr.out.1, htr.out.2.1⟩
              · exact hkn.out.val j u hu, fun j u hu => by
              simp only [upd] at hu
              split at hu
              · rename_i e; rw [e]; omega
              · exact hkn.out.key j u hu⟩
            have hcc7 : c + 1 = cntN (fun k => (upd kn kq v k).isSome) S.made.length := by
              rw [hcc.out, ← cntN_set (X := fun k => (kn k).isSome) hkq (by simp [hkk.out])]
              congr 1
              funext j
              simp only [setX, upd]
              split <;> simp
            have hc17 : c + 1 ≤ 10 := by rw [hcc7]; exact Nat.le_trans (cntN_le _ _) hten
            have hs7 : w3.heap.size < w7.heap.size := by omega
            replace hM7 := Lib.hid hM7
            replace hT7 := Lib.hid hT7
            replace hbx7 := Lib.hid hbx7
            replace hw7 := Lib.hid hw7
            replace hown7 := Lib.hid hown7
            replace hkn7 := Lib.hid hkn7
            replace hcc7 := Lib.hid hcc7
            clear hg7 hT6 hM6 hbx6 hw6 hown6 hcp
            go_wp2_with fail
            go_roundg n
            case rel => exact ⟨⟨upd kn kq v, out ++ [(kq : Int)], q⟩, qb, c + 1, hgn2, hr4, hkn7, hc17, hcc7, hown7, hT7, hne5, hM7, hqr2, hw7, hs7, hbx7⟩
            case measure => omega
          | false =>
            have hr4 := hr3.out
            rw [if_neg (by simp)] at hr4
            obtain ⟨Aq2, cq2, e3, -, -⟩ := hT6.val
            simp only [Value.slice.injEq] at e3
            obtain ⟨rfl, -, rfl⟩ := e3
            have hqi := hT6.ints
            have hlr := htr.2.2 rfl
            have hz8 : w6.heap.size < (w6.alloc (.cells #[.int .i64 lk, .int .i64 kq] 3 (0, 0))).heap.size := by simp
            have hown8 : (w6.alloc (.cells #[.int .i64 lk, .int .i64 kq] 3 (0, 0))).ownsRow w6.heap.size 3 1 (.slice (some ⟨w6.heap.size, 0, none⟩) 2 2) 2 (ints [lk, (kq : Int)]) := by
              exact RowBlk.owns (f := fun n : Int => Value.int .i64 n) (xs := [lk, (kq : Int)]) (heap_alloc_new w6 _) (Nat.le_refl _) (by simp [maxLen])
            replace hT6 := Lib.hid hT6
            replace hM6 := Lib.hid hM6
            replace hbx6 := Lib.hid hbx6
            replace hw6 := Lib.hid hw6
            replace hown6 := Lib.hid hown6
            replace hr4 := Lib.hid hr4
            replace htr := Lib.hid htr
            replace hqi := Lib.hid hqi
            replace hown8 := Lib.hid hown8
            clear hT5 hM5 hbx5 hw5 hown5' h6 y0 y1 hr3 htk5
            go_wp2_with (at_builtin; go_loud (with_reducible refine wpList_appI (by rfl) (.tmp 75) (.tmp 76) (by rfl) intTy (base := w6.heap.size) (v := .slice (some ⟨w6.heap.size, 0, none⟩) 2 2) (n := 2) (xs := ints [lk, (kq : Int)]) (ys := q) (by with_unfolding_all rfl) hown8.out (by with_unfolding_all rfl) hqi.out (below_al (Below.refl _ _) _) (Nat.le_of_lt hz8) ?_ ?_ (Nat.le_of_lt hz8) ?_))
            · unfold maxLen; omega
            · omega
            intro v9 w9 hown9 hgrow9 hat9
            have hz9 := hgrow9.size
            simp only [World.size_alloc] at hz9
            have hk9 : ∀ i, i < w6.heap.size → w9.heap[i]? = w6.heap[i]? := fun i hi => (hgrow9.block i (by simp; omega) (fun e => by simp [Value.ownBlock] at e; omega)).trans (heap_old hi)
            have hown9' : w9.ownsRow w6.heap.size 3 1 v9 (lk :: (kq : Int) :: q).length (ints (lk :: (kq : Int) :: q)) := by
              have e1 : (lk :: (kq : Int) :: q).length = 2 + q.length := by simp; omega
              rw [e1]; exact hown9
            have hM6l := hM6.out.lt
            have hwz6 := hw6.out.size
            obtain ⟨qb9, hQ9, hq9⟩ := QAt.own hown9' (M := w3.heap.size) (b := w.heap.size) hM6l (by omega) (by omega)
            have hqlo : w6.heap.size ≤ qb9 := by
              rcases hq9 with h | ⟨_, h⟩
              · exact (hown9'.lt qb9 h).1
              · cases h
            have hM9 := hM6.out.block (hk9 _ hM6l)
            have hbx9 := (hk9 _ (block_lt hbx6.out)).trans hbx6.out
            have hw9 : Below w.heap.size w w9 := hw6.out.trans ⟨hgrow9.os, hgrow9.tape, hgrow9.output, by omega, fun i hi => hk9 i (by omega)⟩
            have hown10 := ownsRow_block hown6.out (fun i hi => hk9 i (hown6.out.lt i hi).2)
            have hne9 : (Value.slice (some ⟨g5, 0, none⟩) (out.length + 1) cap5).ownBlock ≠ some qb9 := fun e => by
              have := (hown6.out.lt qb9 e).2; omega
            have hs9 : w3.heap.size < w9.heap.size := by omega
            have hqr9 : ∀ k ∈ lk :: (kq : Int) :: q, 0 ≤ k ∧ k < S.made.length := fun k hk => by
              rcases List.mem_cons.1 hk with rfl | hk
              · exact hlr
              · rcases List.mem_cons.1 hk with rfl | hk
                · omega
                · exact hqr2.out k hk
            replace hM9 := Lib.hid hM9
            replace hbx9 := Lib.hid hbx9
            replace hw9 := Lib.hid hw9
            replace hown10 := Lib.hid hown10
            replace hQ9 := Lib.hid hQ9
            replace hne9 := Lib.hid hne9
            replace hqr9 := Lib.hid hqr9
            clear hown9 hgrow9 hat9 hown9' hk9 hq9 hT6 hM6 hbx6 hw6 hown6
            go_wp2_with fail
            go_roundg n
            case rel => exact ⟨⟨kn, out ++ [(kq : Int)], lk :: (kq : Int) :: q⟩, qb9, c, hgn2, hr4, hkn, hc10, hcc, hown10, hQ9, hne9, hM9, hqr9, hw9, hs9, hbx9⟩
            case measure => omega
end Go.Proofs.Ytpccgdkidnkppaa
