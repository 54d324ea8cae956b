/- turned, walked. -/
import Derived.Test.YtnjdbohhmjolgaaVu
set_option linter.unusedSimpArgs false
set_option linter.unusedVariables false
namespace Go.Proofs.Ytnjdbohhmjolgaa
open Go.RowKit Go.Proofs.Rt

def turnN (n : Nat) (b : Int) : Nat := (b.tmod n % n).toNat
theorem turn_lt {n : Nat} (h : 0 < n) (b : Int) : turnN n b < n := by
  unfold turnN
  have h3 := Int.emod_lt_of_pos (b.tmod n) (show (0 : Int) < n by omega)
  omega
theorem rd_part {w : World} {ad : Addr} {xs : List Int} (h : RdI w (some ad) xs) (n m : Nat) (hn : n + m ≤ xs.length) : RdI w (some (ad.add n)) ((xs.drop n).take m) := by
  refine ⟨by have := h.1; simp; omega, fun k hk => ?_, fun k hk => ?_⟩
  · have hk' : k < m ∧ n + k < xs.length := by simp at hk; omega
    obtain ⟨ad', e, hc⟩ := h.2.1 (n + k) hk'.2
    injection e with e
    subst e
    refine ⟨_, rfl, ?_⟩
    rw [Addr.add_add]
    rw [hc]
    congr 2
    simp [nth, List.getElem?_take, hk'.1]
  · have hk' : k < m ∧ n + k < xs.length := by simp at hk; omega
    have := h.2.2 (n + k) hk'.2
    have e : nth ((xs.drop n).take m) k = nth xs (n + k) := by simp [nth, List.getElem?_take, hk'.1]
    rw [e]; exact this

set_option maxHeartbeats 1000000 in
set_option maxRecDepth 100000 in
theorem turned_any (A : Option Addr) (c : Nat) (xs : List Int) (by' : Int) (w : World) (hr : RdI w A xs) (hc : xs.length ≤ c) (h0 : 0 < xs.length) (hl : xs.length ≤ 100000) (hb1 : -9223372036854775808 ≤ by') (hb2 : by' ≤ 9223372036854775807) :
    Calls Try.prog 22 #[.slice A xs.length c, .int .i64 by'] w fun e w' => (∃ v, e = .returned v ∧ w'.ownsRow w.heap.size 3 1 v xs.length ((xs.drop (turnN xs.length by') ++ xs.take (turnN xs.length by')).map (Value.int .i64))) ∧ Below w.heap.size w w' := by
  obtain ⟨ad, rfl, _⟩ := hr.2.1 0 h0
  have HR := Lib.hid hr
  clear hr
  have hn := turn_lt h0 by'
  have q1 := Int.tmod_lt_of_pos by' (show (0 : Int) < xs.length by omega)
  have q2 := Int.lt_tmod_of_pos by' (show (0 : Int) < xs.length by omega)
  have r1 := Int.emod_nonneg (by'.tmod xs.length) (show (xs.length : Int) ≠ 0 by omega)
  have r2 := Int.emod_lt_of_pos (by'.tmod xs.length) (show (0 : Int) < xs.length by omega)
  have r3 : 0 ≤ by'.tmod xs.length % xs.length ∧ by'.tmod xs.length % xs.length ≤ xs.length := by omega
  have r4 : ¬ c = (by'.tmod xs.length % xs.length).toNat := by unfold turnN at hn; omega
  have r5 : ¬ c = 0 := by omega
  obtain ⟨ys, hys⟩ : ∃ ys, (xs.drop (turnN xs.length by')).take (xs.length - turnN xs.length by') = ys := ⟨_, rfl⟩
  have HY := Lib.hid (show ys.length = xs.length - (by'.tmod xs.length % xs.length).toNat by rw [← hys]; simp [turnN])
  have HYR := Lib.hid (show RdI w (some (ad.add (by'.tmod xs.length % xs.length).toNat)) ys by rw [← hys]; exact rd_part HR.out (turnN xs.length by') (xs.length - turnN xs.length by') (by omega))
  obtain ⟨zs, hzs⟩ : ∃ zs, (xs.drop 0).take (turnN xs.length by') = zs := ⟨_, rfl⟩
  have HZ := Lib.hid (show zs.length = (by'.tmod xs.length % xs.length).toNat by rw [← hzs, List.drop_zero, List.length_take]; unfold turnN at hn ⊢; omega)
  have HZR := Lib.hid (show RdI w (some (ad.add 0)) zs by rw [← hzs]; exact rd_part HR.out 0 _ (by omega))
  have HX := Lib.hid (show ys ++ zs = xs.drop (turnN xs.length by') ++ xs.take (turnN xs.length by') by rw [← hys, ← hzs]; simp [List.take_of_length_le])
  clear hys hzs
  have TOK : True := trivial
  go_enter Try.func22, Try.ntmps22
  go_wp2_with (first
    | (at_builtin; refine (fun _ => appAll w.heap.size rfl _ _ 22 3 rfl Try.underlying22 Try.info3 _ 0 [] (some (ad.add (by'.tmod xs.length % xs.length).toNat)) (c - (by'.tmod xs.length % xs.length).toNat) ys rfl (by rw [HY.out]; rfl) (by simp) HYR.out (World.ownsRow_nil _ _ _ _) (Nat.le_refl _) (by rw [HY.out]; omega) ?_) TOK
       clear TOK
       intro v1 w1 hown hg
       have HO := Lib.hid (show w1.ownsRow w.heap.size 3 1 v1 ys.length (ys.map (Value.int .i64)) by simpa using hown)
       have HW1 := Lib.hid (show Below w.heap.size w w1 from (Below.refl _ w).grown hg (Nat.le_refl _) (fun k hk => by cases hk))
       clear hown hg)
    | (at_builtin; refine appAll w.heap.size rfl _ _ 22 3 rfl Try.underlying22 Try.info3 _ ys.length (ys.map (Value.int .i64)) (some (ad.add 0)) c zs rfl (by rw [HZ.out]; rfl) (by simp) (HZR.out.below HW1.out) HO.out HW1.out.size (by rw [HY.out, HZ.out]; omega) ?_
       intro v2 w2 hown hg
       have HO2 := Lib.hid (show w2.ownsRow w.heap.size 3 1 v2 (ys.length + zs.length) ((ys ++ zs).map (Value.int .i64)) by simpa using hown)
       have HW2 := Lib.hid (show Below w.heap.size w w2 from bl_own HW1.out HO.out hg (Nat.le_refl _) HW1.out.size)
       clear hown hg))
  go_ret
  refine ⟨⟨_, rfl, ?_⟩, HW2.out⟩
  rw [← HX.out, show xs.length = ys.length + zs.length by rw [HY.out, HZ.out]; omega]
  exact HO2.out
end Go.Proofs.Ytnjdbohhmjolgaa
