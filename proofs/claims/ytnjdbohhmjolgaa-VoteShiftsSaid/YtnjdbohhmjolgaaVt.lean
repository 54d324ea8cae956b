/- The law VoteShifts, walked. -/
import Derived.Test.YtnjdbohhmjolgaaVz
set_option linter.unusedSimpArgs false
set_option linter.unusedVariables false
namespace Go.Proofs.Ytnjdbohhmjolgaa
open Go.RowKit Go.Proofs.Rt

theorem rd_of {w : World} {P : Option Addr} {xs : List Int} (h : RdI w P xs) (k : Nat) (hk : k < xs.length) : ∃ ad, P = some ad ∧ w.cell? (ad.add k) = some (.int .i64 (nth xs k)) := h.2.1 k hk

set_option maxHeartbeats 4000000 in
set_option maxRecDepth 100000 in
theorem VoteShifts_walk (A : Option Addr) (c : Nat) (xs : List Int) (t f tol : Int) (w : World) (hr : RdI w A xs)
    (hl : xs.length ≤ 100) (h0 : 0 < xs.length) (hb1 : -2147483648 ≤ t) (hb2 : t ≤ 2147483647) (hf1 : -9223372036854775808 ≤ f) (hf2 : f ≤ 9223372036854775807) (ht1 : -9223372036854775808 ≤ tol) (ht2 : tol ≤ 9223372036854775807) :
    Calls Try.prog 8 #[.slice A xs.length c, .int .i32 t, .int .i64 f, .int .i64 tol] w fun e w' => e = .returned (.bool true) ∧ Below w.heap.size w w' := by
  have HR := Lib.hid hr
  have HI := Lib.hid hr.2.2
  clear hr
  have hne : ¬ xs = [] := by rintro rfl; simp at h0
  have e1 : decide (100 < (xs.length : Int)) = false := decide_eq_false (by omega)
  have e2 : ((xs.length : Int) == 0) = false := beq_eq_false_iff_ne.2 (by omega)
  have h1 : ¬ (xs.length : Int) = 0 := by omega
  go_enter Try.func8, Try.ntmps8
  go_wp2_with (first
    | (go_at_call 21; refine (alive_any w).mono ?_; rintro e w1 ⟨rfl, hw1⟩; have HW1 := Lib.hid hw1; clear hw1))
  go_loopw [10, 11] (fun p i wr => ∃ k : Nat, k ≤ xs.length ∧ i = .int .i64 k ∧ wr.ownsRow w.heap.size 3 1 p k (((mv xs t).take k).map (Value.int .i64)) ∧ (∀ j, j < k → -1099511627776 ≤ nth xs j ∧ nth xs j ≤ 1099511627776) ∧ Below w.heap.size w wr) (fun _ i _ => xs.length - (intOf i).toNat)
  case atStart => exact ⟨0, Nat.zero_le _, rfl, World.ownsRow_nil _ _ _ _, fun j hj => by omega, HW1.out⟩
  case round =>
    obtain ⟨k, hk, rfl, hop, hall, hb⟩ := hrel
    obtain ⟨P, pc, rfl, hpc, _⟩ := own_reads hop
    have HOP := Lib.hid hop
    have HALL := Lib.hid hall
    have HWR := Lib.hid hb
    clear hop hall hb
    by_cases hlt : k < xs.length
    · obtain ⟨ad, rfl, hd0⟩ := HR.out.2.1 k hlt
      have hd := bl_cell HWR.out hd0
      have r1 := HI.out k hlt
      clear hd0
      by_cases ha : 1099511627776 < nth xs k
      · go_wp2
        go_ret
        exact ⟨rfl, HWR.out⟩
      · by_cases hb : nth xs k < -1099511627776
        · go_wp2
          go_ret
          exact ⟨rfl, HWR.out⟩
        · go_wp2_with (at_builtin; refine app1 w.heap.size rfl _ _ 22 3 (.int .i64 0) 1 8 rfl Try.underlying22 Try.info3 rfl (by decide) (by decide) (.slice P k pc) k _ [.int .i64 (nth xs k + t)] rfl rfl rfl (by simp [Value.oneCell']) HOP.out HWR.out.size (by omega) ?_; intro v1 w4 hown1 hg1 hne1; clear hne1
                       have HW4 := Lib.hid (bl_own HWR.out HOP.out hg1 (Nat.le_refl _) HWR.out.size)
                       have HO4 := Lib.hid hown1
                       clear hown1 hg1)
          go_roundw
          case rel => exact ⟨k + 1, by omega, by go_num, by
            have := HO4.out
            rw [List.take_succ_eq_append_getElem (by rw [mv_len]; exact hlt), ← nth_eq _ _ (by rw [mv_len]; exact hlt), mv_nth xs t k hlt]
            simpa using this, fun j hj => by
             rcases Nat.lt_or_ge j k with h | h
             · exact HALL.out j h
             · obtain rfl : j = k := by omega
               omega, HW4.out⟩
          case measure => simp [intOf]; omega
    · obtain rfl : k = xs.length := by omega
      have HML := Lib.hid (mv_len xs t)
      have hmem : ∀ v, v ∈ xs → -1099511627776 ≤ v ∧ v ≤ 1099511627776 := fun v hv => by
        obtain ⟨j, hj, e⟩ := List.getElem_of_mem hv
        have := HALL.out j hj
        rwa [nth_eq xs j hj, e] at this
      have ho : wr.ownsRow w.heap.size 3 1 (.slice P (mv xs t).length pc) (mv xs t).length ((mv xs t).map (Value.int .i64)) := by
        have := HOP.out
        rw [List.take_of_length_le (by rw [mv_len]; exact Nat.le_refl _)] at this
        rw [mv_len]; exact this
      obtain ⟨P', pc', hv, hpc', hrd⟩ := own_rdI ho (by rw [mv_len]; omega) (fun k hk => by
        rw [mv_len] at hk
        have := HALL.out k hk
        rw [mv_nth xs t k hk]
        omega)
      injection hv with v1 v2 v3
      subst v1
      subst v3
      have HRM := Lib.hid hrd
      have hmd := mv_med xs t h0
      obtain ⟨a, ha⟩ : ∃ a, (medS xs).1 = a := ⟨_, rfl⟩
      obtain ⟨ao, hao⟩ : ∃ b, (medS xs).2 = b := ⟨_, rfl⟩
      have HDX := Lib.hid (show medS xs = (a, ao) from Prod.ext ha hao)
      rw [ha, hao] at hmd
      have HDM := Lib.hid hmd.1
      have ra := hmem a hmd.2
      have hpl := mv_plural xs t h0
      obtain ⟨v, m, hp⟩ : ∃ v m, plG (runsOf (srt xs)) = (v, m) := ⟨_, _, rfl⟩
      rw [hp] at hpl
      have HPX := Lib.hid hp
      have HPM := Lib.hid hpl.1
      have rv := hmem v hpl.2
      have hag := mv_agree xs t tol h0
      obtain ⟨L, hL⟩ : ∃ L, agA xs tol = L := ⟨_, rfl⟩
      have hLl := agA_le xs tol
      rw [hL] at hag hLl
      have HAX := Lib.hid hL
      have HAM := Lib.hid hag
      have hlen : (mv xs t).length = xs.length := mv_len xs t
      have HTM : trimOk xs f = true → ∃ lo hi, lo ∈ xs ∧ hi ∈ xs ∧ trimG xs f = (lo, hi, true) ∧ trimG (mv xs t) f = (lo + t, hi + t, true) := mv_trim xs t f
      have HTN : trimOk xs f = false → trimG xs f = (0, 0, false) ∧ trimG (mv xs t) f = (0, 0, false) := fun h => ⟨trim_no _ _ h, trim_no _ _ (by rw [mv_ok]; exact h)⟩
      clear hmd hpl hp ha hao hL hag ho hrd
      have HOP2 : True := trivial
      clear HOP HALL
      generalize mv xs t = M at *
      have C9 : Hid (∀ w, RdI w P M → Calls Try.prog 9 #[.slice P xs.length pc] w fun e w' => e = .returned (.tuple #[.int .i64 (a + t), .bool ao]) ∧ Below w.heap.size w w') := Lib.hid (fun w h => by
        have := Median_any P pc M w h
        rw [HDM.out, hlen] at this; exact this)
      have C16 : Hid (∀ w, RdI w P M → Calls Try.prog 16 #[.slice P xs.length pc] w fun e w' => e = .returned (.tuple #[.int .i64 (v + t), .int .i64 (m : Int)]) ∧ Below w.heap.size w w') := Lib.hid (fun w h => by
        have := Plural_any P pc M w h
        rw [HPM.out, hlen] at this; exact this)
      have C19 : Hid (∀ w, RdI w P M → Calls Try.prog 19 #[.slice P xs.length pc, .int .i64 tol] w fun e w' => (∃ P pc, e = .returned (.slice P L.length pc) ∧ RdI w' P (L.map fun j : Nat => (j : Int))) ∧ Below w.heap.size w w') := Lib.hid (fun w h => by
        have := Agree_all P pc M tol w h ht2
        rw [HAM.out, hlen] at this; exact this)
      cases hok : trimOk xs f
      · have hh := HTN hok
        have HCX := Lib.hid (show ((trimG xs f).1 + (trimG xs f).2.1) / 2 = 0 ∧ (trimG xs f).2.2 = false by rw [hh.1]; exact ⟨rfl, rfl⟩)
        have HCM := Lib.hid (show ((trimG M f).1 + (trimG M f).2.1) / 2 = 0 ∧ (trimG M f).2.2 = false by rw [hh.2]; exact ⟨rfl, rfl⟩)
        have C12 : Hid (∀ w, RdI w P M → Calls Try.prog 12 #[.slice P xs.length pc, .int .i64 f] w fun e w' => e = .returned (.tuple #[.int .i64 (0), .bool false]) ∧ Below w.heap.size w w') := Lib.hid (fun w h => by
          have := Middle_any P pc M f w h hf1 hf2
          rw [HCM.out.1, HCM.out.2, hlen] at this; exact this)
        clear hh hok HTN HTM hmem hlen
        have TOK : True := trivial
        have TOK2 : 1 = 1 := rfl
        have TOK3 : 2 = 2 := rfl
        have TOK4 : 3 = 3 := rfl
        go_wp2_with (first
          | (go_at_call 9; refine (fun _ => Median_any A c xs wr (HR.out.below HWR.out)) TOK |>.mono ?_; rw [HDX.out]; rintro e w2 ⟨rfl, hb2⟩; clear TOK
             have HM2 := Lib.hid (HRM.out.below hb2); have HW2 := Lib.hid (bl_next HWR.out hb2))
          | (go_at_call 9; refine (C9.out w2 HM2.out).mono ?_; rintro e w3 ⟨rfl, hb3⟩
             have HM3 := Lib.hid (HM2.out.below hb3); have HW3 := Lib.hid (bl_next HW2.out hb3))
          | (go_at_call 12; refine (fun _ => Middle_any A c xs f w3 (HR.out.below HW3.out) hf1 hf2) TOK2 |>.mono ?_; rw [HCX.out.1, HCX.out.2]; rintro e w4 ⟨rfl, hb4⟩; clear TOK2
             have HM4 := Lib.hid (HM3.out.below hb4); have HW4 := Lib.hid (bl_next HW3.out hb4))
          | (go_at_call 12; refine (C12.out w4 HM4.out).mono ?_; rintro e w5 ⟨rfl, hb5⟩
             have HM5 := Lib.hid (HM4.out.below hb5); have HW5 := Lib.hid (bl_next HW4.out hb5))
          | (go_at_call 16; refine (fun _ => Plural_any A c xs w5 (HR.out.below HW5.out)) TOK3 |>.mono ?_; rw [HPX.out]; rintro e w6 ⟨rfl, hb6⟩; clear TOK3
             have HM6 := Lib.hid (HM5.out.below hb6); have HW6 := Lib.hid (bl_next HW5.out hb6))
          | (go_at_call 16; refine (C16.out w6 HM6.out).mono ?_; rintro e w7 ⟨rfl, hb7⟩
             have HM7 := Lib.hid (HM6.out.below hb7); have HW7 := Lib.hid (bl_next HW6.out hb7))
          | (go_at_call 19; refine (fun _ => Agree_all A c xs tol w7 (HR.out.below HW7.out) ht2) TOK4 |>.mono ?_; rw [HAX.out]; rintro e w8 ⟨⟨Q, qc, rfl, hq⟩, hb8⟩; clear TOK4
             have HM8 := Lib.hid (HM7.out.below hb8); have HW8 := Lib.hid (bl_next HW7.out hb8); have HQ8 := Lib.hid hq; clear hq)
          | (go_at_call 19; refine (C19.out w8 HM8.out).mono ?_; rintro e w9 ⟨⟨Q1, qc1, rfl, hq⟩, hb9⟩
             have HW9 := Lib.hid (bl_next HW8.out hb9); have HQ9 := Lib.hid (HQ8.out.below hb9); have HQ1 := Lib.hid hq; clear hq))
        go_loopw [26] (fun i wr => ∃ k : Nat, k ≤ L.length ∧ i = .int .i64 k ∧ Below w.heap.size w wr ∧ Drw w9 wr) (fun i _ => L.length - (intOf i).toNat)
        case atStart => exact ⟨0, Nat.zero_le _, rfl, HW9.out, Drw.refl _⟩
        case round =>
          obtain ⟨j, hj, rfl, hbj, nn, rfl⟩ := hrel
          have HBJ := Lib.hid hbj
          clear hbj
          by_cases hjl : j < L.length
          · obtain ⟨qa, rfl, hqa⟩ := rd_of HQ9.out j (by rw [List.length_map]; exact hjl)
            obtain ⟨qb, rfl, hqb⟩ := rd_of HQ1.out j (by rw [List.length_map]; exact hjl)
            rw [nth_map L j hjl] at hqa hqb
            generalize ((L[j] : Nat) : Int) = u at hqa hqb
            have hr1 : 0 ≤ (j : Int) := by omega
            have hr2 : (j : Int) < L.length := by omega
            go_wp2
            go_quiet (fail)
            go_wp2
            go_roundw
            case rel => exact ⟨j + 1, by omega, by go_num, by repeat (first | exact HW9.out | apply bl_drewN), by repeat (first | exact Drw.refl _ | apply Drw.step)⟩
            case measure => simp [intOf]; omega
          · go_wp2
            go_ret
            exact ⟨rfl, HBJ.out⟩
      · obtain ⟨lo, hi, hlo, hhi, hg1, hg2⟩ := HTM hok
        have rlo := hmem lo hlo
        have rhi := hmem hi hhi
        have HCX := Lib.hid (show ((trimG xs f).1 + (trimG xs f).2.1) / 2 = (lo + hi) / 2 ∧ (trimG xs f).2.2 = true by rw [hg1]; exact ⟨rfl, rfl⟩)
        have HCM := Lib.hid (show ((trimG M f).1 + (trimG M f).2.1) / 2 = (lo + hi) / 2 + t ∧ (trimG M f).2.2 = true by rw [hg2]; exact ⟨by dsimp only; omega, rfl⟩)
        have rc : -1099511627776 ≤ (lo + hi) / 2 ∧ (lo + hi) / 2 ≤ 1099511627776 := by omega
        generalize (lo + hi) / 2 = cc at HCX HCM rc
        have C12 : Hid (∀ w, RdI w P M → Calls Try.prog 12 #[.slice P xs.length pc, .int .i64 f] w fun e w' => e = .returned (.tuple #[.int .i64 (cc + t), .bool true]) ∧ Below w.heap.size w w') := Lib.hid (fun w h => by
          have := Middle_any P pc M f w h hf1 hf2
          rw [HCM.out.1, HCM.out.2, hlen] at this; exact this)
        clear hg1 hg2 hlo hhi rlo rhi hok HTN HTM hmem hlen
        have TOK : True := trivial
        have TOK2 : 1 = 1 := rfl
        have TOK3 : 2 = 2 := rfl
        have TOK4 : 3 = 3 := rfl
        go_wp2_with (first
          | (go_at_call 9; refine (fun _ => Median_any A c xs wr (HR.out.below HWR.out)) TOK |>.mono ?_; rw [HDX.out]; rintro e w2 ⟨rfl, hb2⟩; clear TOK
             have HM2 := Lib.hid (HRM.out.below hb2); have HW2 := Lib.hid (bl_next HWR.out hb2))
          | (go_at_call 9; refine (C9.out w2 HM2.out).mono ?_; rintro e w3 ⟨rfl, hb3⟩
             have HM3 := Lib.hid (HM2.out.below hb3); have HW3 := Lib.hid (bl_next HW2.out hb3))
          | (go_at_call 12; refine (fun _ => Middle_any A c xs f w3 (HR.out.below HW3.out) hf1 hf2) TOK2 |>.mono ?_; rw [HCX.out.1, HCX.out.2]; rintro e w4 ⟨rfl, hb4⟩; clear TOK2
             have HM4 := Lib.hid (HM3.out.below hb4); have HW4 := Lib.hid (bl_next HW3.out hb4))
          | (go_at_call 12; refine (C12.out w4 HM4.out).mono ?_; rintro e w5 ⟨rfl, hb5⟩
             have HM5 := Lib.hid (HM4.out.below hb5); have HW5 := Lib.hid (bl_next HW4.out hb5))
          | (go_at_call 16; refine (fun _ => Plural_any A c xs w5 (HR.out.below HW5.out)) TOK3 |>.mono ?_; rw [HPX.out]; rintro e w6 ⟨rfl, hb6⟩; clear TOK3
             have HM6 := Lib.hid (HM5.out.below hb6); have HW6 := Lib.hid (bl_next HW5.out hb6))
          | (go_at_call 16; refine (C16.out w6 HM6.out).mono ?_; rintro e w7 ⟨rfl, hb7⟩
             have HM7 := Lib.hid (HM6.out.below hb7); have HW7 := Lib.hid (bl_next HW6.out hb7))
          | (go_at_call 19; refine (fun _ => Agree_all A c xs tol w7 (HR.out.below HW7.out) ht2) TOK4 |>.mono ?_; rw [HAX.out]; rintro e w8 ⟨⟨Q, qc, rfl, hq⟩, hb8⟩; clear TOK4
             have HM8 := Lib.hid (HM7.out.below hb8); have HW8 := Lib.hid (bl_next HW7.out hb8); have HQ8 := Lib.hid hq; clear hq)
          | (go_at_call 19; refine (C19.out w8 HM8.out).mono ?_; rintro e w9 ⟨⟨Q1, qc1, rfl, hq⟩, hb9⟩
             have HW9 := Lib.hid (bl_next HW8.out hb9); have HQ9 := Lib.hid (HQ8.out.below hb9); have HQ1 := Lib.hid hq; clear hq))
        go_loopw [26] (fun i wr => ∃ k : Nat, k ≤ L.length ∧ i = .int .i64 k ∧ Below w.heap.size w wr ∧ Drw w9 wr) (fun i _ => L.length - (intOf i).toNat)
        case atStart => exact ⟨0, Nat.zero_le _, rfl, HW9.out, Drw.refl _⟩
        case round =>
          obtain ⟨j, hj, rfl, hbj, nn, rfl⟩ := hrel
          have HBJ := Lib.hid hbj
          clear hbj
          by_cases hjl : j < L.length
          · obtain ⟨qa, rfl, hqa⟩ := rd_of HQ9.out j (by rw [List.length_map]; exact hjl)
            obtain ⟨qb, rfl, hqb⟩ := rd_of HQ1.out j (by rw [List.length_map]; exact hjl)
            rw [nth_map L j hjl] at hqa hqb
            generalize ((L[j] : Nat) : Int) = u at hqa hqb
            have hr1 : 0 ≤ (j : Int) := by omega
            have hr2 : (j : Int) < L.length := by omega
            go_wp2
            go_quiet (fail)
            go_wp2
            go_roundw
            case rel => exact ⟨j + 1, by omega, by go_num, by repeat (first | exact HW9.out | apply bl_drewN), by repeat (first | exact Drw.refl _ | apply Drw.step)⟩
            case measure => simp [intOf]; omega
          · go_wp2
            go_ret
            exact ⟨rfl, HBJ.out⟩

set_option maxHeartbeats 2000000 in
set_option maxRecDepth 100000 in
theorem VoteShifts_skip (A : Option Addr) (n c : Nat) (t f tol : Int) (w : World) (h : ¬ (n ≤ 100 ∧ 0 < n)) :
    Calls Try.prog 8 #[.slice A n c, .int .i32 t, .int .i64 f, .int .i64 tol] w fun e w' => e = .returned (.bool true) ∧ Below w.heap.size w w' := by
  by_cases h1 : 100 < n
  · go_enter Try.func8, Try.ntmps8
    go_wp2_with (go_at_call 21; refine (alive_any w).mono ?_; rintro e w1 ⟨rfl, hw1⟩)
    go_ret
    exact ⟨rfl, hw1⟩
  · have h2 : n = 0 := by omega
    subst h2
    go_enter Try.func8, Try.ntmps8
    go_wp2_with (go_at_call 21; refine (alive_any w).mono ?_; rintro e w1 ⟨rfl, hw1⟩)
    go_ret
    exact ⟨rfl, hw1⟩
end Go.Proofs.Ytnjdbohhmjolgaa
