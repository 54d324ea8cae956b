/- The laws VoteCounts, VoteMiddles, VoteAgrees, walked. -/
import Derived.Test.YtnjdbohhmjolgaaVq
set_option linter.unusedSimpArgs false
set_option linter.unusedVariables false
namespace Go.Proofs.Ytnjdbohhmjolgaa
open Go.RowKit Go.Proofs.Rt

theorem ints_same (A B : Option Addr) (c d : Nat) (xs : List Int) (w : World) (hx : RdI w A xs) (hy : RdI w B xs) :
    Calls Try.prog 15 #[.slice A xs.length c, .slice B xs.length d] w fun e w' => e = .returned (.bool true) ∧ Below w.heap.size w w' := by
  refine (Ints_any A B c d xs xs w hx hy).mono ?_
  rintro e w' ⟨rfl, hd⟩
  exact ⟨by simp, hd.below⟩

set_option maxHeartbeats 1000000 in
set_option maxRecDepth 100000 in
theorem VoteCounts_walk (A : Option Addr) (c : Nat) (xs : List Int) (w : World) (hr : RdI w A xs) (hA : A = none → c = 0) (hl : xs.length ≤ 200) :
    Calls Try.prog 4 #[.slice A xs.length c] w fun e w' => e = .returned (.bool true) ∧ Below w.heap.size w w' := by
  have HR := Lib.hid hr
  have HA := Lib.hid hA
  clear hr hA
  obtain ⟨v, m, hp⟩ : ∃ v m, plS xs xs = (v, m) := ⟨_, _, rfl⟩
  have HG := Lib.hid (show plG (runsOf (srt xs)) = (v, m) by rw [plural_eq, hp])
  have hb := plS_le xs xs
  rw [hp] at hb
  dsimp only at hb
  have HP := Lib.hid hp
  clear hp
  cases e1 : decide (2 * m ≤ xs.length)
  · have HM := Lib.hid (show majS xs = (v, true) by unfold majS; rw [HG.out]; dsimp only; rw [e1]; rfl)
    have E := Lib.hid e1
    have e2 : decide ((xs.length : Int) < 2 * m) = !decide (2 * m ≤ xs.length) := by rw [Bool.eq_iff_iff]; simp; omega
    rw [e1] at e2
    simp only [Bool.not_false, Bool.not_true] at e2
    have hi := HR.out.2.2
    have HI := Lib.hid hi
    clear hi e1
    go_enter Try.func4, Try.ntmps4
    go_wp2_with (first
      | (at_builtin; refine appAll w.heap.size rfl _ _ 22 3 rfl Try.underlying22 Try.info3 _ 0 [] A c xs rfl rfl HA.out (HR.out.below ((Below.refl _ w).alloc (Nat.le_refl _) _)) (World.ownsRow_lit w #[] 0 (Nat.le_refl _) (by simp [maxLen]) rfl) (by simp) (by omega) ?_
         intro v1 w1 hown hg
         have hown' : w1.ownsRow w.heap.size 3 1 v1 xs.length (xs.map (Value.int .i64)) := by simpa using hown
         obtain ⟨B, d, rfl, hd, hrb⟩ := own_rdI hown' HR.out.1 HI.out
         have HRB := Lib.hid hrb
         have HW1 := Lib.hid (show Below w.heap.size w w1 from ((Below.refl _ w).alloc (Nat.le_refl _) (.cells #[] 3)).grown hg (by simp) (fun k hk => by cases hk; exact Nat.le_refl _))
         clear hown hown' hg hrb)
      | (go_at_call 16; refine (Plural_any B d xs w1 HRB.out).mono ?_; rw [HG.out]; rintro e w2 ⟨rfl, hb2⟩)
      | (go_at_call 17; refine (PluralR_any A c xs w2 (HR.out.below (bl_next HW1.out hb2))).mono ?_; rw [HP.out]; rintro e w' ⟨rfl, rfl⟩)
      | (go_at_call 18; refine (Majority_any B d xs _ (HRB.out.below hb2)).mono ?_; rw [HM.out]; rintro e w4 ⟨rfl, hb4⟩)
      | (go_at_call 15; refine (ints_same B A d c xs w4 ((HRB.out.below hb2).below hb4) (HR.out.below (bl_next (bl_next HW1.out hb2) hb4))).mono ?_; rintro e w5 ⟨rfl, hb5⟩))
    go_ret
    exact ⟨rfl, bl_next (bl_next (bl_next HW1.out hb2) hb4) hb5⟩
  · have HM := Lib.hid (show majS xs = (0, false) by unfold majS; rw [HG.out]; dsimp only; rw [e1]; rfl)
    have E := Lib.hid e1
    have e2 : decide ((xs.length : Int) < 2 * m) = !decide (2 * m ≤ xs.length) := by rw [Bool.eq_iff_iff]; simp; omega
    rw [e1] at e2
    simp only [Bool.not_false, Bool.not_true] at e2
    have hi := HR.out.2.2
    have HI := Lib.hid hi
    clear hi e1
    go_enter Try.func4, Try.ntmps4
    go_wp2_with (first
      | (at_builtin; refine appAll w.heap.size rfl _ _ 22 3 rfl Try.underlying22 Try.info3 _ 0 [] A c xs rfl rfl HA.out (HR.out.below ((Below.refl _ w).alloc (Nat.le_refl _) _)) (World.ownsRow_lit w #[] 0 (Nat.le_refl _) (by simp [maxLen]) rfl) (by simp) (by omega) ?_
         intro v1 w1 hown hg
         have hown' : w1.ownsRow w.heap.size 3 1 v1 xs.length (xs.map (Value.int .i64)) := by simpa using hown
         obtain ⟨B, d, rfl, hd, hrb⟩ := own_rdI hown' HR.out.1 HI.out
         have HRB := Lib.hid hrb
         have HW1 := Lib.hid (show Below w.heap.size w w1 from ((Below.refl _ w).alloc (Nat.le_refl _) (.cells #[] 3)).grown hg (by simp) (fun k hk => by cases hk; exact Nat.le_refl _))
         clear hown hown' hg hrb)
      | (go_at_call 16; refine (Plural_any B d xs w1 HRB.out).mono ?_; rw [HG.out]; rintro e w2 ⟨rfl, hb2⟩)
      | (go_at_call 17; refine (PluralR_any A c xs w2 (HR.out.below (bl_next HW1.out hb2))).mono ?_; rw [HP.out]; rintro e w' ⟨rfl, rfl⟩)
      | (go_at_call 18; refine (Majority_any B d xs _ (HRB.out.below hb2)).mono ?_; rw [HM.out]; rintro e w4 ⟨rfl, hb4⟩)
      | (go_at_call 15; refine (ints_same B A d c xs w4 ((HRB.out.below hb2).below hb4) (HR.out.below (bl_next (bl_next HW1.out hb2) hb4))).mono ?_; rintro e w5 ⟨rfl, hb5⟩))
    go_ret
    exact ⟨rfl, bl_next (bl_next (bl_next HW1.out hb2) hb4) hb5⟩

set_option maxHeartbeats 1000000 in
theorem VoteCounts_long (A : Option Addr) (n c : Nat) (w : World) (hl : 200 < n) :
    Calls Try.prog 4 #[.slice A n c] w fun e w' => e = .returned (.bool true) ∧ Below w.heap.size w w' := by
  go_enter Try.func4, Try.ntmps4
  go_wp2
  go_ret
  exact ⟨rfl, Below.refl _ _⟩
end Go.Proofs.Ytnjdbohhmjolgaa
