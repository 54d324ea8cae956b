/- vote.Middle, Agree, walked. -/
import Derived.Test.YtnjdbohhmjolgaaVf
set_option linter.unusedVariables false
set_option linter.unusedSimpArgs false
namespace Go.Proofs.Ytnjdbohhmjolgaa
open Go.RowKit Go.Proofs.Rt Go.Shelf

theorem nat_and_mod2 (a b : Nat) : (a &&& b) % 2 = (a % 2) * (b % 2) := by
  rw [← Nat.and_one_is_mod, Nat.and_assoc, Nat.and_one_is_mod b]
  rcases Nat.mod_two_eq_zero_or_one b with h | h <;> simp [h, Nat.and_one_is_mod]
theorem and64 (x y : Int) : bits BinOp.and IntKind.i64 x y = IntKind.i64.wrap (((x % 18446744073709551616).toNat &&& (y % 18446744073709551616).toNat : Nat) : Int) := by
  have e : (2 : Int) ^ IntKind.i64.bits = 18446744073709551616 := rfl
  simp [bits, e]
theorem one_big : ((1 : Int) % 18446744073709551616).toNat = 1 := by omega
theorem low_bit (x : Int) : (((x % 18446744073709551616).toNat : Int)) % 2 = x % 2 := by omega
theorem and_one64 (x : Int) : bits BinOp.and IntKind.i64 x 1 = x % 2 := by
  rw [and64, one_big, Nat.and_one_is_mod]
  have h := low_bit x
  generalize (x % 18446744073709551616).toNat = a at h ⊢
  rw [IntKind.wrap_i64]
  omega
theorem wrap_odd (m : Int) : (IntKind.i64.wrap m) % 2 = m % 2 := by
  rw [IntKind.wrap_i64]; omega
theorem and_odd1 (lo hi : Int) (a b : Nat) (h2 : (a : Int) % 2 = lo % 2) (h3 : (b : Int) % 2 = hi % 2) : (IntKind.i64.wrap ((a &&& b : Nat) : Int)) % 2 = (lo % 2) * (hi % 2) := by
  rw [wrap_odd, ← h2, ← h3]
  have h1 := nat_and_mod2 a b
  generalize a &&& b = m at h1 ⊢
  rcases Nat.mod_two_eq_zero_or_one a with e | e <;> rcases Nat.mod_two_eq_zero_or_one b with f | f
  all_goals
    rw [e, f] at h1
    have e' : (a : Int) % 2 = ((a % 2 : Nat) : Int) := by omega
    have f' : (b : Int) % 2 = ((b % 2 : Nat) : Int) := by omega
    rw [e', f', e, f]
    simp at h1 ⊢
    omega
theorem and_odd (lo hi : Int) : (bits BinOp.and IntKind.i64 lo hi) % 2 = (lo % 2) * (hi % 2) := by
  rw [and64]
  exact and_odd1 lo hi _ _ (low_bit lo) (low_bit hi)
theorem and_both (lo hi : Int) : bits BinOp.and IntKind.i64 (bits BinOp.and IntKind.i64 lo hi) 1 = (lo % 2) * (hi % 2) := by
  rw [and_one64, and_odd]

theorem srt_range {w : World} {A : Option Addr} {xs : List Int} (hr : RdI w A xs) (k : Nat) : -9223372036854775808 ≤ nth (srt xs) k ∧ nth (srt xs) k ≤ 9223372036854775807 := by
  by_cases hk : k < (srt xs).length
  · have := (srt_perm xs).mem_iff.1 (nth_mem _ k hk)
    obtain ⟨j, hj, he⟩ := List.mem_iff_getElem.1 this
    have := hr.2.2 j hj
    rw [nth_eq xs j hj, he] at this
    exact this
  · simp [nth, List.getElem?_eq_none (by omega : (srt xs).length ≤ k)]

set_option maxHeartbeats 1000000 in
theorem Middle_any (A : Option Addr) (c : Nat) (xs : List Int) (f : Int) (w : World) (hr : RdI w A xs) (hf1 : -9223372036854775808 ≤ f) (hf2 : f ≤ 9223372036854775807) :
    Calls Try.prog 12 #[.slice A xs.length c, .int .i64 f] w fun e w' => e = .returned (.tuple #[.int .i64 (((trimG xs f).1 + (trimG xs f).2.1) / 2), .bool (trimG xs f).2.2]) ∧ Below w.heap.size w w' := by
  have HT := Trim_any A c xs f w hr hf1 hf2
  obtain ⟨lo, hi, b, ht⟩ : ∃ lo hi b, trimG xs f = (lo, hi, b) := ⟨_, _, _, rfl⟩
  rw [ht] at HT ⊢
  dsimp only at HT ⊢
  have hlo : -9223372036854775808 ≤ lo ∧ lo ≤ 9223372036854775807 := by
    unfold trimG at ht; split at ht <;> cases ht
    · exact srt_range hr _
    · omega
  have hhi : -9223372036854775808 ≤ hi ∧ hi ≤ 9223372036854775807 := by
    unfold trimG at ht; split at ht <;> cases ht
    · exact srt_range hr _
    · omega
  have HT' := Lib.hid HT
  clear HT ht hr
  obtain ⟨l1, l2⟩ := hlo
  obtain ⟨h1, h2⟩ := hhi
  go_enter Try.func12, Try.ntmps12
  go_wp2_with (go_at_call 10; refine HT'.out.mono ?_; rintro e w' ⟨rfl, hb⟩)
  go_ret2
  refine ⟨ret2b ?_ rfl, hb⟩
  rw [and_both]
  rcases Int.emod_two_eq lo with e1 | e1 <;> rcases Int.emod_two_eq hi with e2 | e2 <;> rw [e1, e2] <;> unfold wrap64 <;> omega

set_option maxHeartbeats 400000 in
theorem apart_any (lo v : Int) (w : World) (h1 : -9223372036854775808 ≤ lo) (h2 : lo ≤ 9223372036854775807) (h3 : -9223372036854775808 ≤ v) (h4 : v ≤ 9223372036854775807) (h5 : lo ≤ v) :
    Calls Try.prog 29 #[.int .i64 lo, .int .i64 v] w fun e w' => e = .returned (.int .u64 (v - lo)) ∧ w' = w := by
  go_enter Try.func29, Try.ntmps29
  go_wp2
  go_ret
  refine ⟨retI ?_, rfl⟩
  simp only [IntKind.wrap, IntKind.bits, IntKind.signed, Bool.false_and, Bool.false_eq_true, if_false]
  omega
end Go.Proofs.Ytnjdbohhmjolgaa
