/- alive and turned, walked. -/
import Derived.Test.YtnjdbohhmjolgaaVl
set_option linter.unusedSimpArgs false
set_option linter.unusedVariables false
namespace Go.Proofs.Ytnjdbohhmjolgaa
open Go.RowKit Go.Proofs.Rt

theorem rd_lit (w : World) (xs : List Int) (hl : xs.length ≤ 17592186044416) (hx : ∀ k : Nat, k < xs.length → -9223372036854775808 ≤ nth xs k ∧ nth xs k ≤ 9223372036854775807) :
    RdI (w.alloc (.cells (xs.map (Value.int .i64)).toArray 3)) (some ⟨w.heap.size, 0, none⟩) xs := by
  have ho := World.ownsRow_lit (base := 0) (e := 3) (size := 1) w (xs.map (Value.int .i64)).toArray xs.length (Nat.zero_le _) (by simp only [maxLen]; omega) (by simp)
  simp only [List.toList_toArray] at ho
  obtain ⟨A, c, hv, _, hr⟩ := own_rdI ho hl hx
  injection hv with h1 h2 h3
  rw [h1]
  exact hr

theorem rg3 (a b c : Int) (ha : -100 ≤ a ∧ a ≤ 100) (hb : -100 ≤ b ∧ b ≤ 100) (hc : -100 ≤ c ∧ c ≤ 100) : ∀ k : Nat, k < [a, b, c].length → -9223372036854775808 ≤ nth [a, b, c] k ∧ nth [a, b, c] k ≤ 9223372036854775807 := fun k hk => by
  have : k = 0 ∨ k = 1 ∨ k = 2 := by simp at hk; omega
  rcases this with rfl | rfl | rfl <;> simp [nth] <;> omega
theorem maj_lit : majS [1, 2, 1] = (1, true) := by
  unfold majS
  rw [plural_eq]
  decide
theorem med_lit : medS [5, 1, 9] = (5, true) := Prod.ext ((med_eq [5, 1, 9] (by simp)).trans (by decide)) (by unfold medS; rw [if_neg (by simp)])

set_option maxHeartbeats 1000000 in
set_option maxRecDepth 100000 in
theorem alive_any (w : World) : Calls Try.prog 21 #[] w fun e w' => e = .returned (.bool true) ∧ Below w.heap.size w w' := by
  have H1 := Lib.hid maj_lit
  have H2 := Lib.hid med_lit
  go_enter Try.func21, Try.ntmps21
  go_wp2_with (first
    | (go_at_call 18; refine (Majority_any (some ⟨w.heap.size, 0, none⟩) 3 [1, 2, 1] _ (rd_lit w [1, 2, 1] (by simp) (rg3 1 2 1 (by omega) (by omega) (by omega)))).mono ?_; rw [H1.out]; rintro e w2 ⟨rfl, hb2⟩)
    | (go_at_call 9; refine (Median_any (some ⟨w2.heap.size, 0, none⟩) 3 [5, 1, 9] _ (rd_lit w2 [5, 1, 9] (by simp) (rg3 5 1 9 (by omega) (by omega) (by omega)))).mono ?_; rw [H2.out]; rintro e w3 ⟨rfl, hb3⟩))
  go_ret
  have h1 := bl_next ((Below.refl w.heap.size w).alloc (Nat.le_refl _) _) hb2
  exact ⟨rfl, bl_next h1 (bl_next ((Below.refl w2.heap.size w2).alloc (Nat.le_refl _) _) hb3)⟩
end Go.Proofs.Ytnjdbohhmjolgaa
