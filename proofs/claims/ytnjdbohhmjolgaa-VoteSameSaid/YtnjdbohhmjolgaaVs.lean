/- The law VoteSame, walked. -/
import Derived.Test.YtnjdbohhmjolgaaVw
set_option linter.unusedSimpArgs false
set_option linter.unusedVariables false
namespace Go.Proofs.Ytnjdbohhmjolgaa
open Go.RowKit Go.Proofs.Rt

set_option maxHeartbeats 2000000 in
set_option maxRecDepth 100000 in
theorem VoteSame_walk (A : Option Addr) (c : Nat) (xs : List Int) (by' tol : Int) (w : World) (hr : RdI w A xs) (hc : xs.length ≤ c)
    (hl : xs.length ≤ 200) (h0 : 0 < xs.length) (hb1 : -9223372036854775808 ≤ by') (hb2 : by' ≤ 9223372036854775807) (ht1 : -9223372036854775808 ≤ tol) (ht2 : tol ≤ 9223372036854775807) :
    Calls Try.prog 7 #[.slice A xs.length c, .int .i64 by', .int .i64 tol] w fun e w' => e = .returned (.bool true) ∧ Below w.heap.size w w' := by
  have HR := Lib.hid hr
  have HI := Lib.hid hr.2.2
  obtain ⟨T, hT⟩ : ∃ T, xs.drop (turnN xs.length by') ++ xs.take (turnN xs.length by') = T := ⟨_, rfl⟩
  have hTp : T.Perm xs := by rw [← hT]; exact List.perm_append_comm.trans (by rw [List.take_append_drop])
  have HTL := Lib.hid hTp.length_eq
  have HTI : Hid (∀ k : Nat, k < T.length → -9223372036854775808 ≤ nth T k ∧ nth T k ≤ 9223372036854775807) := Lib.hid (fun k hk => by
    have hm : nth T k ∈ xs := hTp.mem_iff.1 (nth_mem T k hk)
    obtain ⟨j, hj, e⟩ := List.getElem_of_mem hm
    have := HI.out j hj
    rw [nth_eq xs j hj, e] at this; exact this)
  have HT := Lib.hid (fun (w : World) (hr : RdI w A xs) => hT ▸ turned_any A c xs by' w hr hc h0 (by omega) hb1 hb2)
  have HP := Lib.hid (show plG (runsOf (srt T)) = plG (runsOf (srt xs)) by rw [srt_same hTp])
  have HJ := Lib.hid (maj_same hTp)
  have HM := Lib.hid (med_same hTp)
  have HA := Lib.hid (agA_len hTp tol)
  have HB := Lib.hid (maj_med xs)
  obtain ⟨v, m, hp⟩ : ∃ v m, plG (runsOf (srt xs)) = (v, m) := ⟨_, _, rfl⟩
  have HPX := Lib.hid hp
  obtain ⟨b, hb⟩ : ∃ b, (medS xs).1 = b := ⟨_, rfl⟩
  obtain ⟨bo, hbo⟩ : ∃ b, (medS xs).2 = b := ⟨_, rfl⟩
  have HMX := Lib.hid (show medS xs = (b, bo) from Prod.ext hb hbo)
  have hne : ¬ xs = [] := by rintro rfl; simp at h0
  have e1 : decide (200 < (xs.length : Int)) = false := decide_eq_false (by omega)
  have e2 : ((xs.length : Int) == 0) = false := beq_eq_false_iff_ne.2 (by omega)
  have h1 : ¬ (xs.length : Int) = 0 := by omega
  cases hmb : (majS xs).2
  · obtain ⟨a, ha⟩ : ∃ a, (majS xs).1 = a := ⟨_, rfl⟩
    have HJX := Lib.hid (show majS xs = (a, false) from Prod.ext ha hmb)
    clear hr hT hTp hp hb hbo hmb ha HB
    have TOK : True := trivial
    have TOK2 : 1 = 1 := rfl
    have TOK3 : 2 = 2 := rfl
    have TOK4 : 3 = 3 := rfl
    go_enter Try.func7, Try.ntmps7
    go_wp2_with (first
      | (go_at_call 21; refine (alive_any w).mono ?_; rintro e w1 ⟨rfl, hw1⟩)
      | (go_at_call 22; refine (HT.out w1 (HR.out.below hw1)).mono ?_; rintro e w5 ⟨⟨v, rfl, hov⟩, hb5⟩
         have hov' : w5.ownsRow w1.heap.size 3 1 v T.length (T.map (Value.int .i64)) := by rw [HTL.out]; exact hov
         obtain ⟨Q, qc, rfl, hqc, hrq⟩ := own_rdI hov' (by have := HTL.out; omega) HTI.out
         have HRQ := Lib.hid hrq
         have HW5 := Lib.hid (bl_next hw1 hb5)
         clear hov hov' hrq)
      | (go_at_call 16; refine (fun _ => Plural_any A c xs w5 (HR.out.below HW5.out)) TOK |>.mono ?_; rw [HPX.out]; rintro e w6 ⟨rfl, hb6⟩; clear TOK
         have HRQ6 := Lib.hid (HRQ.out.below hb6); have HW6 := Lib.hid (bl_next HW5.out hb6))
      | (go_at_call 16; refine (Plural_any Q qc T w6 HRQ6.out).mono ?_; rw [HP.out, HPX.out]; rintro e w7 ⟨rfl, hb7⟩
         have HRQ7 := Lib.hid (HRQ6.out.below hb7); have HW7 := Lib.hid (bl_next HW6.out hb7))
      | (go_at_call 18; refine (fun _ => Majority_any A c xs w7 (HR.out.below HW7.out)) TOK2 |>.mono ?_; rw [HJX.out]; rintro e w8 ⟨rfl, hb8⟩; clear TOK2
         have HRQ8 := Lib.hid (HRQ7.out.below hb8); have HW8 := Lib.hid (bl_next HW7.out hb8))
      | (go_at_call 18; refine (Majority_any Q qc T w8 HRQ8.out).mono ?_; rw [HJ.out, HJX.out]; rintro e w9 ⟨rfl, hb9⟩
         have HRQ9 := Lib.hid (HRQ8.out.below hb9); have HW9 := Lib.hid (bl_next HW8.out hb9))
      | (go_at_call 9; refine (fun _ => Median_any A c xs w9 (HR.out.below HW9.out)) TOK3 |>.mono ?_; rw [HMX.out]; rintro e w10 ⟨rfl, hb10⟩; clear TOK3
         have HRQ10 := Lib.hid (HRQ9.out.below hb10); have HW10 := Lib.hid (bl_next HW9.out hb10))
      | (go_at_call 9; refine (Median_any Q qc T w10 HRQ10.out).mono ?_; rw [HM.out, HMX.out]; rintro e w11 ⟨rfl, hb11⟩
         have HRQ11 := Lib.hid (HRQ10.out.below hb11); have HW11 := Lib.hid (bl_next HW10.out hb11))
      | (go_at_call 19; refine (fun _ => Agree_all A c xs tol w11 (HR.out.below HW11.out) ht2) TOK4 |>.mono ?_; rintro e w12 ⟨⟨P, pc, rfl, _⟩, hb12⟩; clear TOK4
         have HRQ12 := Lib.hid (HRQ11.out.below hb12); have HW12 := Lib.hid (bl_next HW11.out hb12))
      | (go_at_call 19; refine (Agree_all Q qc T tol w12 HRQ12.out ht2).mono ?_; rw [HA.out]; rintro e w13 ⟨⟨P1, pc1, rfl, _⟩, hb13⟩
         have HW13 := Lib.hid (bl_next HW12.out hb13)))
    go_ret
    exact ⟨rfl, HW13.out⟩
  · have hB := HB.out hmb
    rw [hp, hb] at hB
    have hbv : b = v := hB.1.symm.trans hB.2
    have HJX := Lib.hid (show majS xs = (v, true) from Prod.ext hB.2 hmb)
    have HMX : Hid (medS xs = (v, bo)) := Lib.hid (hbv ▸ HMX.out)
    clear hB hbv
    clear hr hT hTp hp hb hbo hmb HB
    have TOK : True := trivial
    have TOK2 : 1 = 1 := rfl
    have TOK3 : 2 = 2 := rfl
    have TOK4 : 3 = 3 := rfl
    go_enter Try.func7, Try.ntmps7
    go_wp2_with (first
      | (go_at_call 21; refine (alive_any w).mono ?_; rintro e w1 ⟨rfl, hw1⟩)
      | (go_at_call 22; refine (HT.out w1 (HR.out.below hw1)).mono ?_; rintro e w5 ⟨⟨v, rfl, hov⟩, hb5⟩
         have hov' : w5.ownsRow w1.heap.size 3 1 v T.length (T.map (Value.int .i64)) := by rw [HTL.out]; exact hov
         obtain ⟨Q, qc, rfl, hqc, hrq⟩ := own_rdI hov' (by have := HTL.out; omega) HTI.out
         have HRQ := Lib.hid hrq
         have HW5 := Lib.hid (bl_next hw1 hb5)
         clear hov hov' hrq)
      | (go_at_call 16; refine (fun _ => Plural_any A c xs w5 (HR.out.below HW5.out)) TOK |>.mono ?_; rw [HPX.out]; rintro e w6 ⟨rfl, hb6⟩; clear TOK
         have HRQ6 := Lib.hid (HRQ.out.below hb6); have HW6 := Lib.hid (bl_next HW5.out hb6))
      | (go_at_call 16; refine (Plural_any Q qc T w6 HRQ6.out).mono ?_; rw [HP.out, HPX.out]; rintro e w7 ⟨rfl, hb7⟩
         have HRQ7 := Lib.hid (HRQ6.out.below hb7); have HW7 := Lib.hid (bl_next HW6.out hb7))
      | (go_at_call 18; refine (fun _ => Majority_any A c xs w7 (HR.out.below HW7.out)) TOK2 |>.mono ?_; rw [HJX.out]; rintro e w8 ⟨rfl, hb8⟩; clear TOK2
         have HRQ8 := Lib.hid (HRQ7.out.below hb8); have HW8 := Lib.hid (bl_next HW7.out hb8))
      | (go_at_call 18; refine (Majority_any Q qc T w8 HRQ8.out).mono ?_; rw [HJ.out, HJX.out]; rintro e w9 ⟨rfl, hb9⟩
         have HRQ9 := Lib.hid (HRQ8.out.below hb9); have HW9 := Lib.hid (bl_next HW8.out hb9))
      | (go_at_call 9; refine (fun _ => Median_any A c xs w9 (HR.out.below HW9.out)) TOK3 |>.mono ?_; rw [HMX.out]; rintro e w10 ⟨rfl, hb10⟩; clear TOK3
         have HRQ10 := Lib.hid (HRQ9.out.below hb10); have HW10 := Lib.hid (bl_next HW9.out hb10))
      | (go_at_call 9; refine (Median_any Q qc T w10 HRQ10.out).mono ?_; rw [HM.out, HMX.out]; rintro e w11 ⟨rfl, hb11⟩
         have HRQ11 := Lib.hid (HRQ10.out.below hb11); have HW11 := Lib.hid (bl_next HW10.out hb11))
      | (go_at_call 19; refine (fun _ => Agree_all A c xs tol w11 (HR.out.below HW11.out) ht2) TOK4 |>.mono ?_; rintro e w12 ⟨⟨P, pc, rfl, _⟩, hb12⟩; clear TOK4
         have HRQ12 := Lib.hid (HRQ11.out.below hb12); have HW12 := Lib.hid (bl_next HW11.out hb12))
      | (go_at_call 19; refine (Agree_all Q qc T tol w12 HRQ12.out ht2).mono ?_; rw [HA.out]; rintro e w13 ⟨⟨P1, pc1, rfl, _⟩, hb13⟩
         have HW13 := Lib.hid (bl_next HW12.out hb13)))
    go_ret
    exact ⟨rfl, HW13.out⟩

set_option maxHeartbeats 2000000 in
theorem VoteSame_skip (A : Option Addr) (n c : Nat) (by' tol : Int) (w : World) (h : ¬ (n ≤ 200 ∧ 0 < n)) :
    Calls Try.prog 7 #[.slice A n c, .int .i64 by', .int .i64 tol] w fun e w' => e = .returned (.bool true) ∧ Below w.heap.size w w' := by
  by_cases h1 : 200 < n
  · go_enter Try.func7, Try.ntmps7
    go_wp2_with (go_at_call 21; refine (alive_any w).mono ?_; rintro e w1 ⟨rfl, hw1⟩)
    go_ret
    exact ⟨rfl, hw1⟩
  · have h2 : n = 0 := by omega
    subst h2
    go_enter Try.func7, Try.ntmps7
    go_wp2_with (go_at_call 21; refine (alive_any w).mono ?_; rintro e w1 ⟨rfl, hw1⟩)
    go_ret
    exact ⟨rfl, hw1⟩
end Go.Proofs.Ytnjdbohhmjolgaa
