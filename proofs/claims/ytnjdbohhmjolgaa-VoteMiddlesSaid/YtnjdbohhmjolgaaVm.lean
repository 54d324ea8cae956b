/- The law VoteMiddles, walked. -/
import Derived.Test.YtnjdbohhmjolgaaVl
set_option linter.unusedSimpArgs false
set_option linter.unusedVariables false
namespace Go.Proofs.Ytnjdbohhmjolgaa
open Go.RowKit Go.Proofs.Rt

set_option maxHeartbeats 1000000 in
theorem VoteMiddles_long (A : Option Addr) (n c : Nat) (f : Int) (w : World) (hl : 200 < n) :
    Calls Try.prog 3 #[.slice A n c, .int .i64 f] w fun e w' => e = .returned (.bool true) ∧ Below w.heap.size w w' := by
  go_enter Try.func3, Try.ntmps3
  go_wp2
  go_ret
  exact ⟨rfl, Below.refl _ _⟩

set_option maxHeartbeats 1000000 in
set_option maxRecDepth 100000 in
theorem VoteMiddles_walk (A : Option Addr) (c : Nat) (xs : List Int) (f : Int) (w : World) (hr : RdI w A xs) (hA : A = none → c = 0) (hl : xs.length ≤ 200) (ht1 : -9223372036854775808 ≤ f) (ht2 : f ≤ 9223372036854775807) :
    Calls Try.prog 3 #[.slice A xs.length c, .int .i64 f] w fun e w' => e = .returned (.bool true) ∧ Below w.heap.size w w' := by
  have HR := Lib.hid hr
  have HA := Lib.hid hA
  have HI := Lib.hid hr.2.2
  clear hr hA
  obtain ⟨lo, hi, ok, hT⟩ : ∃ lo hi ok, trimS xs f = (lo, hi, ok) := ⟨_, _, _, rfl⟩
  have HT := Lib.hid hT
  have HTG := Lib.hid (show trimG xs f = (lo, hi, ok) by rw [trim_eq, hT])
  obtain ⟨md, mb, hM⟩ : ∃ md mb, middleS xs f = (md, mb) := ⟨_, _, rfl⟩
  have HM := Lib.hid hM
  have HMG : Hid ((((trimG xs f).1 + (trimG xs f).2.1) / 2) = md ∧ (trimG xs f).2.2 = mb) := by
    have := middle_eq xs f
    rw [hM] at this
    exact Prod.mk.inj this
  clear hT hM
  by_cases h0 : xs.length = 0
  · have HD := Lib.hid (show medS xs = (0, false) by unfold medS; rw [if_pos (List.eq_nil_of_length_eq_zero h0)])
    have e0 : decide (0 < (xs.length : Int)) = false := decide_eq_false (by omega)
    have h0' : ¬ (0 < (xs.length : Int)) := by omega
    clear h0
    go_enter Try.func3, Try.ntmps3
    go_wp2_with (first
      | (at_builtin; refine appAll w.heap.size rfl _ _ 22 3 rfl Try.underlying22 Try.info3 _ 0 [] A c xs rfl rfl HA.out (HR.out.below ((Below.refl _ w).alloc (Nat.le_refl _) _)) (World.ownsRow_lit w #[] 0 (Nat.le_refl _) (by simp [maxLen]) rfl) (by simp) (by omega) ?_
         intro v1 w1 hown hg
         have hown' : w1.ownsRow w.heap.size 3 1 v1 xs.length (xs.map (Value.int .i64)) := by simpa using hown
         obtain ⟨B, d, rfl, hd, hrb⟩ := own_rdI hown' HR.out.1 HI.out
         have HRB := Lib.hid hrb
         have HW1 := Lib.hid (show Below w.heap.size w w1 from ((Below.refl _ w).alloc (Nat.le_refl _) (.cells #[] 3)).grown hg (by simp) (fun k hk => by cases hk; exact Nat.le_refl _))
         clear hown hown' hg hrb)
      | (go_at_call 9; refine (Median_any B d xs w1 HRB.out).mono ?_; rw [HD.out]; rintro e w2 ⟨rfl, hb2⟩)
      | (go_at_call 10; refine (Trim_any B d xs f w2 (HRB.out.below hb2) ht1 ht2).mono ?_; rw [HTG.out]; rintro e w3 ⟨rfl, hb3⟩)
      | (go_at_call 11; refine (TrimR_any A c xs f w3 (HR.out.below (bl_next (bl_next HW1.out hb2) hb3))).mono ?_; rw [HT.out]; rintro e w' ⟨rfl, rfl⟩)
      | (go_at_call 12; refine (Middle_any B d xs f _ ((HRB.out.below hb2).below hb3) ht1 ht2).mono ?_; rw [HMG.out.1, HMG.out.2]; rintro e w4 ⟨rfl, hb4⟩)
      | (go_at_call 13; refine (MiddleR_any A c xs f w4 (HR.out.below (bl_next (bl_next (bl_next HW1.out hb2) hb3) hb4))).mono ?_; rw [HM.out]; rintro e w' ⟨rfl, rfl⟩)
      | (go_at_call 15; refine (ints_same2 B A d c 0 xs _ (((HRB.out.below hb2).below hb3).below hb4) (HR.out.below (bl_next (bl_next (bl_next HW1.out hb2) hb3) hb4)) (by omega)).mono ?_; rintro e w5 ⟨rfl, hb5⟩))
    · go_ret
      exact ⟨rfl, bl_next (bl_next (bl_next (bl_next HW1.out hb2) hb3) hb4) hb5⟩
    · exact absurd (List.eq_nil_of_length_eq_zero (by omega)) ‹¬ xs = []›
  · have hne : xs ≠ [] := by rintro rfl; exact h0 rfl
    obtain ⟨a, ha⟩ : ∃ a, atS xs ((xs.length - 1) / 2 : Nat) = a := ⟨_, rfl⟩
    have HD := Lib.hid (show medS xs = (a, true) from Prod.ext ((med_eq xs hne).trans ha) (by unfold medS; rw [if_neg hne]))
    have HAt := Lib.hid ha
    have e0 : decide (0 < (xs.length : Int)) = true := decide_eq_true (by omega)
    have h0' : (0 < (xs.length : Int)) := by omega
    have HX := Lib.hid (show ((xs.length : Int) - 1) / 2 = ((xs.length - 1) / 2 : Nat) by omega)
    clear h0 hne ha
    go_enter Try.func3, Try.ntmps3
    go_wp2_with (first
      | (at_builtin; refine appAll w.heap.size rfl _ _ 22 3 rfl Try.underlying22 Try.info3 _ 0 [] A c xs rfl rfl HA.out (HR.out.below ((Below.refl _ w).alloc (Nat.le_refl _) _)) (World.ownsRow_lit w #[] 0 (Nat.le_refl _) (by simp [maxLen]) rfl) (by simp) (by omega) ?_
         intro v1 w1 hown hg
         have hown' : w1.ownsRow w.heap.size 3 1 v1 xs.length (xs.map (Value.int .i64)) := by simpa using hown
         obtain ⟨B, d, rfl, hd, hrb⟩ := own_rdI hown' HR.out.1 HI.out
         have HRB := Lib.hid hrb
         have HW1 := Lib.hid (show Below w.heap.size w w1 from ((Below.refl _ w).alloc (Nat.le_refl _) (.cells #[] 3)).grown hg (by simp) (fun k hk => by cases hk; exact Nat.le_refl _))
         clear hown hown' hg hrb)
      | (go_at_call 9; refine (Median_any B d xs w1 HRB.out).mono ?_; rw [HD.out]; rintro e w2 ⟨rfl, hb2⟩)
      | (go_at_call 10; refine (Trim_any B d xs f w2 (HRB.out.below hb2) ht1 ht2).mono ?_; rw [HTG.out]; rintro e w3 ⟨rfl, hb3⟩)
      | (go_at_call 11; refine (TrimR_any A c xs f w3 (HR.out.below (bl_next (bl_next HW1.out hb2) hb3))).mono ?_; rw [HT.out]; rintro e w' ⟨rfl, rfl⟩)
      | (go_at_call 12; refine (Middle_any B d xs f _ ((HRB.out.below hb2).below hb3) ht1 ht2).mono ?_; rw [HMG.out.1, HMG.out.2]; rintro e w4 ⟨rfl, hb4⟩)
      | (go_at_call 13; refine (MiddleR_any A c xs f w4 (HR.out.below (bl_next (bl_next (bl_next HW1.out hb2) hb3) hb4))).mono ?_; rw [HM.out]; rintro e w' ⟨rfl, rfl⟩)
      | (go_at_call 14; refine (At_any A c xs _ _ (HR.out.below (bl_next (bl_next (bl_next HW1.out hb2) hb3) hb4))).mono ?_; rw [HX.out, HAt.out]; rintro e w' ⟨rfl, rfl⟩)
      | (go_at_call 15; refine (ints_same B A d c xs _ (((HRB.out.below hb2).below hb3).below hb4) (HR.out.below (bl_next (bl_next (bl_next HW1.out hb2) hb3) hb4))).mono ?_; rintro e w5 ⟨rfl, hb5⟩))
    go_ret
    exact ⟨rfl, bl_next (bl_next (bl_next (bl_next HW1.out hb2) hb3) hb4) hb5⟩
end Go.Proofs.Ytnjdbohhmjolgaa
