/- The reference's functions (rotaref22), walked. -/
import Derived.Test.YtnjdbohhmjolgaaProg
import Derived.Test.YtnjdbohhmjolgaaVa
set_option linter.unusedVariables false
set_option linter.unusedSimpArgs false
namespace Go.Proofs.Ytnjdbohhmjolgaa
open Go.RowKit Go.Proofs.Rt

set_option maxHeartbeats 400000 in
theorem count_any (A : Option Addr) (c : Nat) (xs : List Int) (v : Int) (w : World) (hr : RdI w A xs) :
    Calls Try.prog 26 #[.slice A xs.length c, .int .i64 v] w fun e w' => e = .returned (.tuple #[.int .i64 (sameC xs v), .int .i64 (lessC xs v)]) ∧ w' = w := by
  have hlen := hr.1
  have HR := hr.2
  clear hr
  go_enter Try.func26, Try.ntmps26
  go_wp2
  go_loop [6, 7, 8] (fun a b i => ∃ k s l : Nat, k ≤ xs.length ∧ i = .int .i64 k ∧ a = .int .i64 s ∧ b = .int .i64 l ∧ s = sameC (xs.take k) v ∧ l = lessC (xs.take k) v) (fun _ _ i => xs.length - (intOf i).toNat)
  case atStart => exact ⟨0, 0, 0, Nat.zero_le _, rfl, rfl, rfl, rfl, rfl⟩
  case round =>
    obtain ⟨k, s, l, hk, rfl, rfl, rfl, hs, hl⟩ := hrel
    have b1 : s ≤ k := by rw [hs]; exact Nat.le_trans (sameC_le _ _) (List.length_take_le _ _)
    have b2 : l ≤ k := by rw [hl]; exact Nat.le_trans (lessC_le _ _) (List.length_take_le _ _)
    have HS : Hid (s = sameC (xs.take k) v ∧ l = lessC (xs.take k) v) := ⟨hs, hl⟩
    clear hs hl
    by_cases hlt : k < xs.length
    · obtain ⟨ad, rfl, hc⟩ := HR.1 k hlt
      have HR' : Hid _ := HR
      clear HR
      have HT : Hid (xs.take (k + 1) = xs.take k ++ [nth xs k]) := take_snoc xs k hlt
      cases e1 : (nth xs k == v) <;> cases e2 : decide (nth xs k < v)
      all_goals
        have E : Hid _ := And.intro e1 e2
        go_wp2
        go_round
        case rel => exact ⟨k + 1, _, _, by omega, by go_num, by go_num, by go_num, by rw [HT.out, sameC_snoc, HS.out.1, E.out.1]; rfl, by rw [HT.out, lessC_snoc, HS.out.2, E.out.2]; rfl⟩
        case measure => simp [intOf]; omega
    · obtain rfl : k = xs.length := by omega
      go_wp2
      go_ret2
      refine ⟨ret2 ?_ ?_, rfl⟩
      · rw [HS.out.1, List.take_length]
      · rw [HS.out.2, List.take_length]

set_option maxHeartbeats 400000 in
theorem within_any (least v tol : Int) (w : World) (h1 : -9223372036854775808 ≤ least) (h2 : least ≤ 9223372036854775807) (h3 : -9223372036854775808 ≤ v) (h4 : v ≤ 9223372036854775807) (h5 : 0 ≤ tol) (h6 : tol ≤ 9223372036854775807) :
    Calls Try.prog 30 #[.int .i64 least, .int .i64 v, .int .i64 tol] w fun e w' => e = .returned (.bool (within least v tol)) ∧ w' = w := by
  by_cases a1 : v < least
  · go_enter Try.func30, Try.ntmps30
    go_wp2
    go_ret
    exact ⟨retB (by simp [within]; omega), rfl⟩
  · by_cases a2 : 0 ≤ least
    · go_enter Try.func30, Try.ntmps30
      go_wp2
      go_ret
      exact ⟨retB (by simp [within]; omega), rfl⟩
    · by_cases a3 : v < 0
      · go_enter Try.func30, Try.ntmps30
        go_wp2
        go_ret
        exact ⟨retB (by simp [within]; omega), rfl⟩
      · by_cases a4 : v ≤ tol
        · go_enter Try.func30, Try.ntmps30
          go_wp2
          go_ret
          exact ⟨retB (by rw [Bool.eq_iff_iff]; simp [within]; omega), rfl⟩
        · go_enter Try.func30, Try.ntmps30
          go_wp2
          go_ret
          exact ⟨retB (by simp [within]; omega), rfl⟩

theorem tdiv_two (a : Int) : (0 ≤ a ∧ 2 * a.tdiv 2 ≤ a ∧ a ≤ 2 * a.tdiv 2 + 1) ∨ (a < 0 ∧ 2 * a.tdiv 2 - 1 ≤ a ∧ a ≤ 2 * a.tdiv 2) := by
  have h1 := Int.mul_tdiv_add_tmod a 2
  by_cases h : a < 0
  · have h2 := Int.tmod_nonneg 2 (show 0 ≤ -a by omega)
    have h3 := Int.tmod_lt_of_pos (-a) (show (0 : Int) < 2 by omega)
    rw [Int.neg_tmod] at h2 h3
    omega
  · have h2 := Int.tmod_nonneg 2 (show 0 ≤ a by omega)
    have h3 := Int.tmod_lt_of_pos a (show (0 : Int) < 2 by omega)
    omega
set_option maxHeartbeats 400000 in
theorem halves_any (a b : Int) (w : World) (h1 : -9223372036854775808 ≤ a) (h2 : a ≤ 9223372036854775807) (h3 : -9223372036854775808 ≤ b) (h4 : b ≤ 9223372036854775807) :
    Calls Try.prog 25 #[.int .i64 a, .int .i64 b] w fun e w' => e = .returned (.int .i64 ((a + b) / 2)) ∧ w' = w := by
  have ha := tdiv_two a
  have hb := tdiv_two b
  have HR : Hid (wrap64 (wrap64 (wrap64 (a - wrap64 (2 * a.tdiv 2)) + b) - wrap64 (2 * b.tdiv 2)) = a - 2 * a.tdiv 2 + b - 2 * b.tdiv 2) := by
    show _ = _
    rw [wrap_in (2 * a.tdiv 2) (by omega) (by omega), wrap_in (2 * b.tdiv 2) (by omega) (by omega), wrap_add, wrap_sub]
    exact wrap_in _ (by omega) (by omega)
  have HS : Hid (wrap64 (a.tdiv 2 + b.tdiv 2) = a.tdiv 2 + b.tdiv 2) := wrap_in _ (by omega) (by omega)
  have HA : Hid _ := And.intro ha hb
  clear ha hb
  go_enter Try.func25, Try.ntmps25
  go_wp2
  all_goals
    rename_i g1 g2
    go_ret
    refine ⟨retI ?_, rfl⟩
    have ⟨ha, hb⟩ := HA.out
    rw [HR.out] at g1 g2
    rw [HS.out]
    simp only [beq_iff_eq, beq_eq_false_iff_ne] at g1
    try rw [wrap_in (a.tdiv 2 + b.tdiv 2 + 1) (by omega) (by omega)]
    try rw [wrap_in (a.tdiv 2 + b.tdiv 2 - 1) (by omega) (by omega)]
    omega

/-! ### At, Trim, Middle -/
set_option maxHeartbeats 400000 in
theorem At_any (A : Option Addr) (c : Nat) (xs : List Int) (p : Int) (w : World) (hr : RdI w A xs) :
    Calls Try.prog 14 #[.slice A xs.length c, .int .i64 p] w fun e w' => e = .returned (.int .i64 (atS xs p)) ∧ w' = w := by
  have hlen := hr.1
  have HR := Lib.hid hr
  clear hr
  go_enter Try.func14, Try.ntmps14
  go_wp2
  go_loop [5] (fun i => ∃ k : Nat, k ≤ xs.length ∧ i = .int .i64 k ∧ ∀ j, j < k → atOk xs p (nth xs j) = false) (fun i => xs.length - (intOf i).toNat)
  case atStart => exact ⟨0, Nat.zero_le _, rfl, fun j hj => absurd hj (Nat.not_lt_zero _)⟩
  case round =>
    obtain ⟨k, hk, rfl, hn⟩ := hrel
    have HN := Lib.hid hn
    clear hn
    by_cases hlt : k < xs.length
    · obtain ⟨ad, rfl, hc⟩ := HR.out.2.1 k hlt
      have b1 := sameC_le xs (nth xs k)
      have b2 := lessC_le xs (nth xs k)
      cases e1 : decide ((lessC xs (nth xs k) : Int) ≤ p) <;> cases e2 : decide (p < (lessC xs (nth xs k) : Int) + sameC xs (nth xs k))
      all_goals
        have E := Lib.hid (And.intro e1 e2)
        go_wp2_with (go_at_call 26; refine (count_any _ _ _ _ _ HR.out).mono ?_; rintro e w' ⟨rfl, rfl⟩)
        first
        | (go_ret
           refine ⟨retI ?_, rfl⟩
           unfold atS
           rw [find_first (atOk xs p) xs k hlt (by rw [← nth_eq xs k hlt]; unfold atOk; rw [E.out.1, E.out.2]; rfl) (fun j hj => by rw [← nth_eq xs j (by omega)]; exact HN.out j hj)]
           exact nth_eq xs k hlt)
        | (go_round
           case rel => exact ⟨k + 1, by omega, by go_num, fun j hj => by
             rcases Nat.lt_or_ge j k with h | h
             · exact HN.out j h
             · obtain rfl : j = k := by omega
               unfold atOk; rw [E.out.1, E.out.2]; rfl⟩
           case measure => simp [intOf]; omega)
    · obtain rfl : k = xs.length := by omega
      go_wp2
      go_ret
      refine ⟨retI ?_, rfl⟩
      unfold atS
      rw [List.find?_eq_none.2]
      · rfl
      · intro x hx
        obtain ⟨j, hj, rfl⟩ := List.mem_iff_getElem.1 hx
        have := HN.out j hj
        rw [nth_eq xs j hj] at this
        simp [this]

def trimOk (xs : List Int) (f : Int) : Bool := decide (0 ≤ f) && decide (f ≤ xs.length) && decide (2 * f < xs.length)
def trimS (xs : List Int) (f : Int) : Int × Int × Bool := if trimOk xs f = true then (atS xs f, atS xs (xs.length - 1 - f), true) else (0, 0, false)
set_option maxHeartbeats 400000 in
theorem TrimR_any (A : Option Addr) (c : Nat) (xs : List Int) (f : Int) (w : World) (hr : RdI w A xs) :
    Calls Try.prog 11 #[.slice A xs.length c, .int .i64 f] w fun e w' => e = .returned (.tuple #[.int .i64 (trimS xs f).1, .int .i64 (trimS xs f).2.1, .bool (trimS xs f).2.2]) ∧ w' = w := by
  have hlen := hr.1
  have HR := Lib.hid hr
  clear hr
  by_cases h1 : f < 0
  · have HF := Lib.hid (show trimS xs f = (0, 0, false) by simp [trimS, trimOk]; omega)
    go_enter Try.func11, Try.ntmps11
    go_wp2
    go_ret3
    rw [HF.out]
    exact ⟨rfl, rfl⟩
  · by_cases h2 : (xs.length : Int) < f
    · have HF := Lib.hid (show trimS xs f = (0, 0, false) by simp [trimS, trimOk]; omega)
      go_enter Try.func11, Try.ntmps11
      go_wp2
      go_ret3
      rw [HF.out]
      exact ⟨rfl, rfl⟩
    · by_cases h3 : (xs.length : Int) ≤ 2 * f
      · have HF := Lib.hid (show trimS xs f = (0, 0, false) by simp [trimS, trimOk]; omega)
        go_enter Try.func11, Try.ntmps11
        go_wp2
        go_ret3
        rw [HF.out]
        exact ⟨rfl, rfl⟩
      · have HF := Lib.hid (show trimS xs f = (atS xs f, atS xs (xs.length - 1 - f), true) by simp [trimS, trimOk]; omega)
        go_enter Try.func11, Try.ntmps11
        go_wp2_with (go_at_call 14; refine (At_any _ _ _ _ _ HR.out).mono ?_; rintro e w' ⟨rfl, rfl⟩)
        go_ret3
        rw [HF.out]
        exact ⟨rfl, rfl⟩

theorem atS_range (w : World) (A : Option Addr) (xs : List Int) (p : Int) (hr : RdI w A xs) : -9223372036854775808 ≤ atS xs p ∧ atS xs p ≤ 9223372036854775807 := by
  unfold atS
  cases h : xs.find? (atOk xs p) with
  | none => simp
  | some x =>
    have hm := List.mem_of_find?_eq_some h
    obtain ⟨j, hj, rfl⟩ := List.mem_iff_getElem.1 hm
    have := hr.2.2 j hj
    rw [nth_eq xs j hj] at this
    simpa using this
def middleS (xs : List Int) (f : Int) : Int × Bool := if trimOk xs f = true then ((atS xs f + atS xs (xs.length - 1 - f)) / 2, true) else (0, false)
set_option maxHeartbeats 400000 in
theorem MiddleR_any (A : Option Addr) (c : Nat) (xs : List Int) (f : Int) (w : World) (hr : RdI w A xs) :
    Calls Try.prog 13 #[.slice A xs.length c, .int .i64 f] w fun e w' => e = .returned (.tuple #[.int .i64 (middleS xs f).1, .bool (middleS xs f).2]) ∧ w' = w := by
  have r1 := atS_range w A xs f hr
  have r2 := atS_range w A xs (xs.length - 1 - f) hr
  have HR := Lib.hid hr
  clear hr
  cases ht : trimOk xs f
  · have HT := Lib.hid (show trimS xs f = (0, 0, false) by simp [trimS, ht])
    have HF := Lib.hid (show middleS xs f = (0, false) by simp [middleS, ht])
    clear ht
    go_enter Try.func13, Try.ntmps13
    go_wp2_with (go_at_call 11; refine (TrimR_any _ _ _ _ _ HR.out).mono ?_; rw [HT.out]; rintro e w' ⟨rfl, rfl⟩)
    go_ret2
    rw [HF.out]
    exact ⟨rfl, rfl⟩
  · have HT := Lib.hid (show trimS xs f = (atS xs f, atS xs (xs.length - 1 - f), true) by simp [trimS, ht])
    have HF := Lib.hid (show middleS xs f = ((atS xs f + atS xs (xs.length - 1 - f)) / 2, true) by simp [middleS, ht])
    clear ht
    go_enter Try.func13, Try.ntmps13
    go_wp2_with (first | (go_at_call 11; refine (TrimR_any _ _ _ _ _ HR.out).mono ?_; rw [HT.out]; rintro e w' ⟨rfl, rfl⟩) | (go_at_call 25; refine (halves_any _ _ _ r1.1 r1.2 r2.1 r2.2).mono ?_; rintro e w' ⟨rfl, rfl⟩))
    go_ret2
    rw [HF.out]
    exact ⟨rfl, rfl⟩

set_option maxHeartbeats 400000 in
theorem Ints_any (A B : Option Addr) (c d : Nat) (xs ys : List Int) (w : World) (hx : RdI w A xs) (hy : RdI w B ys) :
    Calls Try.prog 15 #[.slice A xs.length c, .slice B ys.length d] w fun e w' => e = .returned (.bool (decide (xs = ys))) ∧ Drw w w' := by
  have hlen := hx.1
  have hlen2 := hy.1
  have HX := Lib.hid hx
  have HY := Lib.hid hy
  clear hx hy
  by_cases hne : xs.length = ys.length
  · have HL := Lib.hid hne
    have e0 : ((xs.length : Int) != ys.length) = false := by simp [hne]
    clear hne
    go_enter Try.func15, Try.ntmps15
    go_wp2
    go_loopw [5] (fun i wr => ∃ k : Nat, k ≤ xs.length ∧ i = .int .i64 k ∧ (∀ j, j < k → nth xs j = nth ys j) ∧ Drw w wr) (fun i wr => xs.length - (intOf i).toNat)
    case atStart => exact ⟨0, Nat.zero_le _, rfl, fun j hj => absurd hj (Nat.not_lt_zero _), Drw.refl _⟩
    case round =>
      obtain ⟨k, hk, rfl, hn, n, rfl⟩ := hrel
      have HN := Lib.hid hn
      clear hn
      by_cases hlt : k < xs.length
      · obtain ⟨ad, rfl, hc⟩ := HX.out.2.1 k hlt
        have hlt2 : k < ys.length := by rw [← HL.out]; exact hlt
        obtain ⟨bd, rfl, hd⟩ := HY.out.2.1 k hlt2
        have hr1 : 0 ≤ (k : Int) := by omega
        have hr2 : (k : Int) < xs.length := by omega
        have hr3 : (k : Int) < ys.length := by omega
        cases e1 : (nth xs k != nth ys k)
        · have E := Lib.hid e1
          go_wp2
          go_quiet (fail)
          go_wp2
          go_roundw
          case rel => exact ⟨k + 1, by omega, by go_num, fun j hj => by
             rcases Nat.lt_or_ge j k with h | h
             · exact HN.out j h
             · obtain rfl : j = k := by omega
               simpa using E.out, by repeat (first | exact Drw.refl _ | apply Drw.step)⟩
          case measure => simp [intOf]; omega
        · have E := Lib.hid e1
          go_wp2
          go_quiet (fail)
          go_wp2
          go_ret
          refine ⟨retB ?_, by repeat (first | exact Drw.refl _ | apply Drw.step)⟩
          symm
          rw [decide_eq_false_iff_not]
          intro he
          have := E.out
          simp [he] at this
      · obtain rfl : k = xs.length := by omega
        go_wp2
        go_ret
        refine ⟨retB ?_, by repeat (first | exact Drw.refl _ | apply Drw.step)⟩
        symm
        rw [decide_eq_true_iff]
        refine List.ext_getElem HL.out fun j h1 h2 => ?_
        have := HN.out j h1
        rwa [nth_eq _ _ h1, nth_eq _ _ h2] at this
  · have HL := Lib.hid hne
    have e0 : ((xs.length : Int) != ys.length) = true := by simp; omega
    clear hne
    go_enter Try.func15, Try.ntmps15
    go_wp2
    go_ret
    exact ⟨retB (by symm; rw [decide_eq_false_iff_not]; intro h; exact HL.out (by rw [h])), Drw.refl _⟩
end Go.Proofs.Ytnjdbohhmjolgaa
