/- The laws VoteCounts, VoteMiddles, VoteAgrees, walked. -/
import Derived.Test.YtnjdbohhmjolgaaVq
set_option linter.unusedSimpArgs false
set_option linter.unusedVariables false
namespace Go.Proofs.Ytnjdbohhmjolgaa
open Go.RowKit Go.Proofs.Rt

theorem ints_same (A B : Option Addr) (c d : Nat) (xs : List Int) (w : World) (hx : RdI w A xs) (hy : RdI w B xs) :
    Calls Try.prog 15 #[.slice A xs.length c, .slice B xs.length d] w fun e w' => e = .returned (.bool true) ∧ Below w.heap.size w w' := by
  refine (Ints_any A B c d xs xs w hx hy).mono ?_
  rintro e w' ⟨rfl, hd⟩
  exact ⟨by simp, hd.below⟩

set_option maxHeartbeats 1000000 in
set_option maxRecDepth 100000 in
theorem VoteCounts_walk (A : Option Addr) (c : Nat) (xs : List Int) (w : World) (hr : RdI w A xs) (hA : A = none → c = 0) (hl : xs.length ≤ 200) :
    Calls Try.prog 4 #[.slice A xs.length c] w fun e w' => e = .returned (.bool true) ∧ Below w.heap.size w w' := by
  have HR := Lib.hid hr
  have HA := Lib.hid hA
  clear hr hA
  obtain ⟨v, m, hp⟩ : ∃ v m, plS xs xs = (v, m) := ⟨_, _, rfl⟩
  have HG := Lib.hid (show plG (runsOf (srt xs)) = (v, m) by rw [plural_eq, hp])
  have hb := plS_le xs xs
  rw [hp] at hb
  dsimp only at hb
  have HP := Lib.hid hp
  clear hp
  cases e1 : decide (2 * m ≤ xs.length)
  · have HM := Lib.hid (show majS xs = (v, true) by unfold majS; rw [HG.out]; dsimp only; rw [e1]; rfl)
    have E := Lib.hid e1
    have e2 : decide ((xs.length : Int) < 2 * m) = !decide (2 * m ≤ xs.length) := by rw [Bool.eq_iff_iff]; simp; omega
    rw [e1] at e2
    simp only [Bool.not_false, Bool.not_true] at e2
    have hi := HR.out.2.2
    have HI := Lib.hid hi
    clear hi e1
    go_enter Try.func4, Try.ntmps4
    go_wp2_with (first
      | (at_builtin; refine appAll w.heap.size rfl _ _ 22 3 rfl Try.underlying22 Try.info3 _ 0 [] A c xs rfl rfl HA.out (HR.out.below ((Below.refl _ w).alloc (Nat.le_refl _) _)) (World.ownsRow_lit w #[] 0 (Nat.le_refl _) (by simp [maxLen]) rfl) (by simp) (by omega) ?_
         intro v1 w1 hown hg
         have hown' : w1.ownsRow w.heap.size 3 1 v1 xs.length (xs.map (Value.int .i64)) := by simpa using hown
         obtain ⟨B, d, rfl, hd, hrb⟩ := own_rdI hown' HR.out.1 HI.out
         have HRB := Lib.hid hrb
         have HW1 := Lib.hid (show Below w.heap.size w w1 from ((Below.refl _ w).alloc (Nat.le_refl _) (.cells #[] 3)).grown hg (by simp) (fun k hk => by cases hk; exact Nat.le_refl _))
         clear hown hown' hg hrb)
      | (go_at_call 16; refine (Plural_any B d xs w1 HRB.out).mono ?_; rw [HG.out]; rintro e w2 ⟨rfl, hb2⟩)
      | (go_at_call 17; refine (PluralR_any A c xs w2 (HR.out.below (bl_next HW1.out hb2))).mono ?_; rw [HP.out]; rintro e w' ⟨rfl, rfl⟩)
      | (go_at_call 18; refine (Majority_any B d xs _ (HRB.out.below hb2)).mono ?_; rw [HM.out]; rintro e w4 ⟨rfl, hb4⟩)
      | (go_at_call 15; refine (ints_same B A d c xs w4 ((HRB.out.below hb2).below hb4) (HR.out.below (bl_next (bl_next HW1.out hb2) hb4))).mono ?_; rintro e w5 ⟨rfl, hb5⟩))
    go_ret
    exact ⟨rfl, bl_next (bl_next (bl_next HW1.out hb2) hb4) hb5⟩
  · have HM := Lib.hid (show majS xs = (0, false) by unfold majS; rw [HG.out]; dsimp only; rw [e1]; rfl)
    have E := Lib.hid e1
    have e2 : decide ((xs.length : Int) < 2 * m) = !decide (2 * m ≤ xs.length) := by rw [Bool.eq_iff_iff]; simp; omega
    rw [e1] at e2
    simp only [Bool.not_false, Bool.not_true] at e2
    have hi := HR.out.2.2
    have HI := Lib.hid hi
    clear hi e1
    go_enter Try.func4, Try.ntmps4
    go_wp2_with (first
      | (at_builtin; refine appAll w.heap.size rfl _ _ 22 3 rfl Try.underlying22 Try.info3 _ 0 [] A c xs rfl rfl HA.out (HR.out.below ((Below.refl _ w).alloc (Nat.le_refl _) _)) (World.ownsRow_lit w #[] 0 (Nat.le_refl _) (by simp [maxLen]) rfl) (by simp) (by omega) ?_
         intro v1 w1 hown hg
         have hown' : w1.ownsRow w.heap.size 3 1 v1 xs.length (xs.map (Value.int .i64)) := by simpa using hown
         obtain ⟨B, d, rfl, hd, hrb⟩ := own_rdI hown' HR.out.1 HI.out
         have HRB := Lib.hid hrb
         have HW1 := Lib.hid (show Below w.heap.size w w1 from ((Below.refl _ w).alloc (Nat.le_refl _) (.cells #[] 3)).grown hg (by simp) (fun k hk => by cases hk; exact Nat.le_refl _))
         clear hown hown' hg hrb)
      | (go_at_call 16; refine (Plural_any B d xs w1 HRB.out).mono ?_; rw [HG.out]; rintro e w2 ⟨rfl, hb2⟩)
      | (go_at_call 17; refine (PluralR_any A c xs w2 (HR.out.below (bl_next HW1.out hb2))).mono ?_; rw [HP.out]; rintro e w' ⟨rfl, rfl⟩)
      | (go_at_call 18; refine (Majority_any B d xs _ (HRB.out.below hb2)).mono ?_; rw [HM.out]; rintro e w4 ⟨rfl, hb4⟩)
      | (go_at_call 15; refine (ints_same B A d c xs w4 ((HRB.out.below hb2).below hb4) (HR.out.below (bl_next (bl_next HW1.out hb2) hb4))).mono ?_; rintro e w5 ⟨rfl, hb5⟩))
    go_ret
    exact ⟨rfl, bl_next (bl_next (bl_next HW1.out hb2) hb4) hb5⟩

set_option maxHeartbeats 1000000 in
theorem VoteCounts_long (A : Option Addr) (n c : Nat) (w : World) (hl : 200 < n) :
    Calls Try.prog 4 #[.slice A n c] w fun e w' => e = .returned (.bool true) ∧ Below w.heap.size w w' := by
  go_enter Try.func4, Try.ntmps4
  go_wp2
  go_ret
  exact ⟨rfl, Below.refl _ _⟩

theorem nth_map (l : List Nat) (k : Nat) (h : k < l.length) : nth (l.map fun j : Nat => (j : Int)) k = (l[k] : Int) := by simp [nth, h]
theorem ints_map (l : List Nat) : ints l = (l.map fun j : Nat => (j : Int)).map (Value.int .i64) := by simp [ints, Function.comp_def]
theorem partS_small (xs : List Int) (least tol : Int) (k : Nat) : ∀ j ∈ partS xs least tol k, j < k := fun j hj => by
  unfold partS at hj
  exact List.mem_range.1 (List.mem_filter.1 hj).1
theorem agS_small (xs : List Int) (tol : Int) (ys : List Int) : ∀ j ∈ (agS xs tol ys).1, j < xs.length := by
  unfold agS
  suffices g : ∀ s : List Nat × Int, (∀ j ∈ s.1, j < xs.length) → ∀ j ∈ (ys.foldl (agStep xs tol) s).1, j < xs.length from g _ (fun j hj => by cases hj)
  induction ys with
  | nil => exact fun _ h => h
  | cons y ys ih =>
    intro s h
    refine ih _ ?_
    unfold agStep
    split
    · exact partS_small _ _ _ _
    · exact h
theorem own_ints {w : World} {base : Nat} {v : Value} {l : List Nat} {m : Nat} (h : w.ownsRow base 3 1 v l.length (ints l)) (hl : l.length ≤ 17592186044416) (hm : m ≤ 17592186044416) (hs : ∀ j ∈ l, j < m) :
    ∃ A c, v = .slice A l.length c ∧ RdI w A (l.map fun j : Nat => (j : Int)) := by
  rw [ints_map] at h
  obtain ⟨A, c, hv, _, hr⟩ := own_rdI (xs := l.map fun j : Nat => (j : Int)) (by rw [List.length_map]; exact h) (by simpa using hl) (fun k hk => by
    have hk' : k < l.length := by simpa using hk
    rw [nth_map l k hk']
    have := hs _ (List.getElem_mem hk')
    omega)
  exact ⟨A, c, by rw [hv, List.length_map], hr⟩
theorem ints_same2 (A B : Option Addr) (c d n : Nat) (xs : List Int) (w : World) (hx : RdI w A xs) (hy : RdI w B xs) (hn : xs.length = n) :
    Calls Try.prog 15 #[.slice A n c, .slice B n d] w fun e w' => e = .returned (.bool true) ∧ Below w.heap.size w w' := by
  rw [← hn]; exact ints_same A B c d xs w hx hy
theorem agS_len (xs : List Int) (tol : Int) (h : 0 ≤ tol) : (agS xs tol xs).1.length ≤ xs.length := by rw [← agree_eq xs tol h]; exact agG_le _ _ _

set_option maxHeartbeats 1000000 in
theorem VoteAgrees_long (A : Option Addr) (n c : Nat) (tol : Int) (w : World) (hl : 100 < n) :
    Calls Try.prog 5 #[.slice A n c, .int .i64 tol] w fun e w' => e = .returned (.bool true) ∧ Below w.heap.size w w' := by
  go_enter Try.func5, Try.ntmps5
  go_wp2
  go_ret
  exact ⟨rfl, Below.refl _ _⟩

theorem RdI_nil (w : World) (A : Option Addr) : RdI w A [] := ⟨by simp, fun k hk => by simp at hk, fun k hk => by simp at hk⟩

set_option maxHeartbeats 1000000 in
set_option maxRecDepth 100000 in
theorem VoteAgrees_walk (A : Option Addr) (c : Nat) (xs : List Int) (tol : Int) (w : World) (hr : RdI w A xs) (hA : A = none → c = 0) (hl : xs.length ≤ 100) (ht1 : -9223372036854775808 ≤ tol) (ht2 : tol ≤ 9223372036854775807) :
    Calls Try.prog 5 #[.slice A xs.length c, .int .i64 tol] w fun e w' => e = .returned (.bool true) ∧ Below w.heap.size w w' := by
  have HR := Lib.hid hr
  have HA := Lib.hid hA
  have HI := Lib.hid hr.2.2
  clear hr hA
  by_cases ht : tol < 0
  · go_enter Try.func5, Try.ntmps5
    go_wp2_with (first
      | (at_builtin; refine appAll w.heap.size rfl _ _ 22 3 rfl Try.underlying22 Try.info3 _ 0 [] A c xs rfl rfl HA.out (HR.out.below ((Below.refl _ w).alloc (Nat.le_refl _) _)) (World.ownsRow_lit w #[] 0 (Nat.le_refl _) (by simp [maxLen]) rfl) (by simp) (by omega) ?_
         intro v1 w1 hown hg
         have hown' : w1.ownsRow w.heap.size 3 1 v1 xs.length (xs.map (Value.int .i64)) := by simpa using hown
         obtain ⟨B, d, rfl, hd, hrb⟩ := own_rdI hown' HR.out.1 HI.out
         have HRB := Lib.hid hrb
         have HW1 := Lib.hid (show Below w.heap.size w w1 from ((Below.refl _ w).alloc (Nat.le_refl _) (.cells #[] 3)).grown hg (by simp) (fun k hk => by cases hk; exact Nat.le_refl _))
         clear hown hown' hg hrb)
      | (go_at_call 19; refine (Agree_none B d xs tol w1 ht).mono ?_; rintro e w2 ⟨rfl, hb2⟩)
      | (go_at_call 20; refine (AgreeR_none A c xs tol _ ht).mono ?_; rintro e w' ⟨rfl, rfl⟩; have TOK : True := trivial)
      | (go_at_call 15; refine ((fun _ => ints_same none none 0 0 [] _ (RdI_nil _ _) (RdI_nil _ _)) TOK).mono ?_; clear TOK; rintro e w5 ⟨rfl, hb5⟩)
      | (go_at_call 15; refine (ints_same B A d c xs w5 ((HRB.out.below hb2).below hb5) (HR.out.below (bl_next (bl_next HW1.out hb2) hb5))).mono ?_; rintro e w6 ⟨rfl, hb6⟩))
    go_ret
    exact ⟨rfl, bl_next (bl_next (bl_next HW1.out hb2) hb5) hb6⟩
  · have HE := Lib.hid (agree_eq xs tol (by omega))
    have hpl := agS_len xs tol (by omega)
    have HSm := Lib.hid (agS_small xs tol xs)
    obtain ⟨L, hL⟩ : ∃ L, (agS xs tol xs).1 = L := ⟨_, rfl⟩
    rw [hL] at hpl
    have HL := Lib.hid hL
    clear hL
    go_enter Try.func5, Try.ntmps5
    go_wp2_with (first
      | (at_builtin; refine appAll w.heap.size rfl _ _ 22 3 rfl Try.underlying22 Try.info3 _ 0 [] A c xs rfl rfl HA.out (HR.out.below ((Below.refl _ w).alloc (Nat.le_refl _) _)) (World.ownsRow_lit w #[] 0 (Nat.le_refl _) (by simp [maxLen]) rfl) (by simp) (by omega) ?_
         intro v1 w1 hown hg
         have hown' : w1.ownsRow w.heap.size 3 1 v1 xs.length (xs.map (Value.int .i64)) := by simpa using hown
         obtain ⟨B, d, rfl, hd, hrb⟩ := own_rdI hown' HR.out.1 HI.out
         have HRB := Lib.hid hrb
         have HW1 := Lib.hid (show Below w.heap.size w w1 from ((Below.refl _ w).alloc (Nat.le_refl _) (.cells #[] 3)).grown hg (by simp) (fun k hk => by cases hk; exact Nat.le_refl _))
         clear hown hown' hg hrb)
      | (go_at_call 19; refine (Agree_any B d xs tol w1 HRB.out (by omega) ht2).mono ?_; rw [HE.out, HL.out]; rintro e w2 ⟨p, rfl, hop, hb2⟩
         obtain ⟨Pa, pc, rfl, hpr⟩ := own_ints (m := xs.length) hop (by omega) (by omega) (by rw [← HL.out]; exact HSm.out)
         have HPR := Lib.hid hpr
         clear hop hpr)
      | (go_at_call 20; refine (AgreeR_any A c xs tol w2 (HR.out.below (bl_next HW1.out hb2)) (by omega) ht2).mono ?_; rw [HL.out]; rintro e w3 ⟨q, rfl, hoq, hb3⟩
         obtain ⟨Qa, qc, rfl, hqr⟩ := own_ints (m := xs.length) hoq (by omega) (by omega) (by rw [← HL.out]; exact HSm.out)
         have HQR := Lib.hid hqr
         clear hoq hqr)
      | (go_at_call 15; refine (ints_same2 Pa Qa pc qc _ _ w3 (HPR.out.below hb3) HQR.out (by simp)).mono ?_; clear HPR; rintro e w5 ⟨rfl, hb5⟩)
      | (go_at_call 15; refine (ints_same B A d c xs w5 (((HRB.out.below hb2).below hb3).below hb5) (HR.out.below (bl_next (bl_next (bl_next HW1.out hb2) hb3) hb5))).mono ?_; rintro e w6 ⟨rfl, hb6⟩))
    go_ret
    exact ⟨rfl, bl_next (bl_next (bl_next (bl_next HW1.out hb2) hb3) hb5) hb6⟩
end Go.Proofs.Ytnjdbohhmjolgaa
