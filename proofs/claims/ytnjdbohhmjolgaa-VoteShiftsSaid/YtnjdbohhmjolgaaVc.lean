/- The reference's Plural and Agree (rotaref22), walked. -/
import Derived.Test.YtnjdbohhmjolgaaVb
set_option linter.unusedVariables false
set_option linter.unusedSimpArgs false
namespace Go.Proofs.Ytnjdbohhmjolgaa
open Go.RowKit Go.Proofs.Rt

theorem plS_le (xs ys : List Int) : (plS xs ys).2 ≤ xs.length := by
  unfold plS
  suffices h : ∀ s : Int × Nat, s.2 ≤ xs.length → (ys.foldl (plStep xs) s).2 ≤ xs.length from h (0, 0) (Nat.zero_le _)
  induction ys with
  | nil => exact fun s h => h
  | cons y ys ih =>
    intro s h
    refine ih _ ?_
    unfold plStep
    split
    · exact sameC_le _ _
    · exact h

set_option maxHeartbeats 400000 in
theorem PluralR_any (A : Option Addr) (c : Nat) (xs : List Int) (w : World) (hr : RdI w A xs) :
    Calls Try.prog 17 #[.slice A xs.length c] w fun e w' => e = .returned (.tuple #[.int .i64 (plS xs xs).1, .int .i64 (plS xs xs).2]) ∧ w' = w := by
  have hlen := hr.1
  have HR := Lib.hid hr
  clear hr
  go_enter Try.func17, Try.ntmps17
  go_wp2
  go_loop [4, 5, 6] (fun a b i => ∃ (k : Nat) (v : Int) (m : Nat), k ≤ xs.length ∧ i = .int .i64 k ∧ a = .int .i64 v ∧ b = .int .i64 m ∧ plS xs (xs.take k) = (v, m)) (fun _ _ i => xs.length - (intOf i).toNat)
  case atStart => exact ⟨0, 0, 0, Nat.zero_le _, rfl, rfl, rfl, rfl⟩
  case round =>
    obtain ⟨k, v, m, hk, rfl, rfl, rfl, hs⟩ := hrel
    have b1 : m ≤ xs.length := by have := plS_le xs (xs.take k); rw [hs] at this; exact this
    have HS := Lib.hid hs
    clear hs
    by_cases hlt : k < xs.length
    · obtain ⟨ad, rfl, hc⟩ := HR.out.2.1 k hlt
      have b2 := sameC_le xs (nth xs k)
      have HT := Lib.hid (take_snoc xs k hlt)
      cases e1 : decide (m < sameC xs (nth xs k)) <;> cases e2 : (sameC xs (nth xs k) == m) <;> cases e3 : decide (nth xs k < v)
      all_goals
        have E := Lib.hid (And.intro e1 (And.intro e2 e3))
        have e4 : ((sameC xs (nth xs k) : Int) == (m : Int)) = (sameC xs (nth xs k) == m) := natbeq _ _
        rw [e2] at e4
        go_wp2_with (go_at_call 26; refine (count_any _ _ _ _ _ HR.out).mono ?_; rintro e w' ⟨rfl, rfl⟩)
        go_round
        case rel => exact ⟨k + 1, _, _, by omega, by go_num, by go_num, by go_num, by rw [HT.out, plS_snoc, HS.out]; unfold plStep; dsimp only; rw [E.out.1, E.out.2.1, E.out.2.2]; rfl⟩
        case measure => simp [intOf]; omega
    · obtain rfl : k = xs.length := by omega
      go_wp2
      go_ret2
      have := HS.out
      rw [List.take_length] at this
      rw [this]
      exact ⟨rfl, rfl⟩

theorem Try.info3 : (Try.prog.info? 3).map (fun i => (i.zero, i.size, i.bytes)) = some (some (.int .i64 0), 1, 8) := by kernel_rfl
def ints (l : List Nat) : List Value := l.map fun j : Nat => .int .i64 (j : Int)
theorem ints_len (l : List Nat) : (ints l).length = l.length := by simp [ints]

set_option maxHeartbeats 1000000 in
theorem AgreeR_none (A : Option Addr) (c : Nat) (xs : List Int) (tol : Int) (w : World) (ht : tol < 0) :
    Calls Try.prog 20 #[.slice A xs.length c, .int .i64 tol] w fun e w' => e = .returned (.slice none 0 0) ∧ w' = w := by
  go_enter Try.func20, Try.ntmps20
  go_wp2
  go_ret
  exact ⟨rfl, rfl⟩

set_option maxHeartbeats 1000000 in
theorem AgreeR_any (A : Option Addr) (c : Nat) (xs : List Int) (tol : Int) (w : World) (hr : RdI w A xs) (ht : 0 ≤ tol) (ht2 : tol ≤ 9223372036854775807) :
    Calls Try.prog 20 #[.slice A xs.length c, .int .i64 tol] w fun e w' => ∃ v, e = .returned v ∧ w'.ownsRow w.heap.size 3 1 v (agS xs tol xs).1.length (ints (agS xs tol xs).1) ∧ Below w.heap.size w w' := by
  have hlen := hr.1
  have HR := Lib.hid hr
  clear hr
  go_enter Try.func20, Try.ntmps20
  go_wp2
  go_loopw [5, 6, 7] (fun a b i wr => ∃ (k : Nat) (bs : List Nat) (ls : Int), k ≤ xs.length ∧ i = .int .i64 k ∧ b = .int .i64 ls ∧ bs.length ≤ xs.length ∧ wr.ownsRow w.heap.size 3 1 a bs.length (ints bs) ∧ agS xs tol (xs.take k) = (bs, ls) ∧ Below w.heap.size w wr) (fun _ _ i _ => xs.length - (intOf i).toNat)
  case atStart => exact ⟨0, [], 0, Nat.zero_le _, rfl, rfl, Nat.zero_le _, World.ownsRow_nil w w.heap.size 3 1, rfl, Below.refl _ _⟩
  case round =>
    obtain ⟨k, bs, ls, hk, rfl, rfl, hbl, hob, hs, hb⟩ := hrel
    rename_i bv _ _ wr
    have HS := Lib.hid hs
    clear hs
    obtain ⟨Ab, cb, rfl, hcb, _⟩ := own_reads hob
    have HOB := Lib.hid hob
    have HB := Lib.hid hb
    clear hob
    by_cases hlt : k < xs.length
    · obtain ⟨ad, rfl, hc0⟩ := HR.out.2.1 k hlt
      have hc := bl_cell hb hc0
      have HC0 := Lib.hid hc0
      clear hc0
      go_wp2
      obtain ⟨wo, rfl⟩ : ∃ wo : World, wo = wr := ⟨_, rfl⟩
      go_loopw [8, 9] (fun p i w2 => ∃ (j : Nat), j ≤ xs.length ∧ i = .int .i64 j ∧ w2.ownsRow wo.heap.size 3 1 p (partS xs (nth xs k) tol j).length (ints (partS xs (nth xs k) tol j)) ∧ Below wo.heap.size wo w2) (fun _ i _ => xs.length - (intOf i).toNat)
      case atStart => exact ⟨0, Nat.zero_le _, rfl, World.ownsRow_nil wo wo.heap.size 3 1, Below.refl _ _⟩
      case round =>
        obtain ⟨j, hj, rfl, hop, hb2⟩ := hrel
        rename_i pv _ w2
        have hpl := partS_le xs (nth xs k) tol j
        by_cases hjl : j < xs.length
        · obtain ⟨ad', e', hd0⟩ := (HR.out.below HB.out).2.1 j hjl
          cases e'
          have hd := bl_cell hb2 hd0
          have hc2 := bl_cell hb2 hc
          have hx := HR.out.2.2
          have r1 := hx k hlt
          have r2 := hx j hjl
          clear hx hd0 hc
          have HP := Lib.hid (partS_succ xs (nth xs k) tol j)
          have HOP := Lib.hid hop
          have HB2 := Lib.hid hb2
          clear hop hb2
          have g1 : 0 ≤ (k : Int) := by omega
          have g2 : (k : Int) < xs.length := by omega
          have g3 : 0 ≤ (j : Int) := by omega
          have g4 : (j : Int) < xs.length := by omega
          have hw := fun W => within_any (nth xs k) (nth xs j) tol W r1.1 r1.2 r2.1 r2.2 ht ht2
          cases e1 : within (nth xs k) (nth xs j) tol
          · have E := Lib.hid e1
            rw [e1] at hw
            have HW := Lib.hid hw
            clear e1 hw
            go_wp2
            go_quiet ((go_at_call 30; exact Calls.quiet_of_same (HW.out _)))
            go_wp2
            go_roundw
            case rel => exact ⟨j + 1, by omega, by go_num, by rw [HP.out, E.out]; simpa using own_drewN HOP.out _, bl_drewN HB2.out _⟩
            case measure => simp [intOf]; omega
          · have E := Lib.hid e1
            rw [e1] at hw
            have HW := Lib.hid hw
            clear e1 hw
            go_wp2
            go_quiet ((go_at_call 30; exact Calls.quiet_of_same (HW.out _)))
            go_wp2_with (at_builtin; refine app1 wo.heap.size rfl _ _ 22 3 (.int .i64 0) 1 8 rfl Try.underlying22 Try.info3 rfl (by decide) (by decide) _ _ _ [.int .i64 j] rfl rfl rfl (by simp [Value.oneCell']) (own_drewN HOP.out _) HB2.out.size (by omega) ?_; intro v1 w1 hown1 hg1 hne1; clear hne1)
            have HOP1 := Lib.hid hown1
            have HB3 := Lib.hid (bl_own (bl_drewN HB2.out _) HOP.out hg1 (Nat.le_refl _) HB2.out.size)
            clear hown1 hg1
            go_wp2
            go_roundw
            case rel => exact ⟨j + 1, by omega, by go_num, by rw [HP.out, E.out]; simpa [ints] using HOP1.out, HB3.out⟩
            case measure => simp [intOf]; omega
        · obtain rfl : j = xs.length := by omega
          clear hjl hj
          obtain ⟨Ap, cp, rfl, hcp, _⟩ := own_reads hop
          have HOP := Lib.hid hop
          have HBI := Lib.hid hb2
          have hc2 := bl_cell hb2 hc
          clear hop hb2 hc
          have HT := Lib.hid (take_snoc xs k hlt)
          have HOB2 := Lib.hid (own_below HOB.out HBI.out)
          have HB2 := Lib.hid (bl_next HB.out HBI.out)
          have hpl := partS_le xs (nth xs k) tol xs.length
          have e4 := natbeq (partS xs (nth xs k) tol xs.length).length bs.length
          cases e1 : decide (bs.length < (partS xs (nth xs k) tol xs.length).length) <;> cases e2 : ((partS xs (nth xs k) tol xs.length).length == bs.length) <;> cases e3 : decide (nth xs k < ls)
          all_goals
            rw [e2] at e4
            have E := Lib.hid (And.intro e1 (And.intro e2 e3))
            have HF := Lib.hid (agS_snoc xs (xs.take k) tol (nth xs k))
            go_wp2
            go_roundw
            case rel => first
              | exact ⟨k + 1, partS xs (nth xs k) tol xs.length, nth xs k, by omega, by go_num, rfl, hpl, own_lower HOP.out HB.out.size, by rw [HT.out, HF.out, HS.out]; unfold agStep; dsimp only; rw [E.out.1, E.out.2.1, E.out.2.2]; rfl, HB2.out⟩
              | exact ⟨k + 1, bs, ls, by omega, by go_num, rfl, hbl, HOB2.out, by rw [HT.out, HF.out, HS.out]; unfold agStep; dsimp only; rw [E.out.1, E.out.2.1, E.out.2.2]; rfl, HB2.out⟩
            case measure => simp [intOf]; omega
    · obtain rfl : k = xs.length := by omega
      go_wp2
      go_ret
      have := HS.out
      rw [List.take_length] at this
      rw [this]
      exact ⟨_, rfl, HOB.out, HB.out⟩
end Go.Proofs.Ytnjdbohhmjolgaa
