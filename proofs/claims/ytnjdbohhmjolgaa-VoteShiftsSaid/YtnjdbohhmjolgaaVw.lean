/- Plain laws: the order makes no difference; Agree in one. -/
import Derived.Test.YtnjdbohhmjolgaaVv
set_option linter.unusedSimpArgs false
set_option linter.unusedVariables false
namespace Go.Proofs.Ytnjdbohhmjolgaa
open Go.RowKit Go.Proofs.Rt

theorem nth_ext {l m : List Int} (hl : l.length = m.length) (h : ∀ k, k < l.length → nth l k = nth m k) : l = m := by
  refine List.ext_getElem hl (fun k h1 h2 => ?_)
  have := h k h1
  rwa [nth_eq l k h1, nth_eq m k h2] at this

theorem srt_same {xs ys : List Int} (hp : xs.Perm ys) : srt xs = srt ys := by
  have hl := hp.length_eq
  refine nth_ext (by rw [srt_len, srt_len, hl]) (fun k hk => ?_)
  rw [srt_len] at hk
  have a := srt_at xs k hk
  have b := srt_at ys k (by omega)
  refine place_unique xs k a ?_
  rw [lessC_perm hp, sameC_perm hp]
  exact b

theorem maj_same {xs ys : List Int} (hp : xs.Perm ys) : majS xs = majS ys := by unfold majS; rw [srt_same hp, hp.length_eq]
theorem med_same {xs ys : List Int} (hp : xs.Perm ys) : medS xs = medS ys := by
  unfold medS
  rw [srt_same hp, hp.length_eq]
  by_cases h : ys = []
  · subst h; rw [if_pos rfl, if_pos (List.Perm.eq_nil hp)]
  · rw [if_neg h, if_neg (by rintro rfl; exact h (List.Perm.eq_nil hp.symm))]

theorem map_range (xs : List Int) : (List.range xs.length).map (nth xs) = xs := by
  refine nth_ext (by simp) (fun k hk => ?_)
  simp at hk
  rw [nth_eq _ k (by simpa using hk)]
  simp
theorem partF_count (xs : List Int) (tol x : Int) : partF xs tol x = xs.countP (fun y => within x y tol) := by
  unfold partF partS
  rw [← List.countP_eq_length_filter]
  conv => rhs; rw [← map_range xs]
  rw [List.countP_map]
  rfl
theorem partF_same {xs ys : List Int} (hp : xs.Perm ys) (tol : Int) : partF xs tol = partF ys tol := funext fun x => by rw [partF_count, partF_count, hp.countP_eq]

/-- The places that Agree tells. -/
def agA (xs : List Int) (tol : Int) : List Nat := if tol < 0 then [] else agG xs tol (runsOf (srt xs))
theorem agA_len {xs ys : List Int} (hp : xs.Perm ys) (tol : Int) : (agA xs tol).length = (agA ys tol).length := by
  unfold agA
  split
  · rfl
  · have a := (agG_rel xs tol (runsOf (srt xs))).1
    have b := (agG_rel ys tol (runsOf (srt ys))).1
    rw [a, b, srt_same hp, partF_same hp]
theorem agA_le (xs : List Int) (tol : Int) : (agA xs tol).length ≤ xs.length := by
  unfold agA
  split
  · simp
  · exact agG_le _ _ _

theorem maj_med (xs : List Int) (h : (majS xs).2 = true) : (majS xs).1 = (medS xs).1 ∧ (majS xs).1 = (plG (runsOf (srt xs))).1 := by
  have hp := plural_best xs
  unfold majS at h ⊢
  generalize plG (runsOf (srt xs)) = s at hp h ⊢
  by_cases hm : decide (2 * s.2 ≤ xs.length) = true
  · rw [if_pos hm] at h; cases h
  · rw [if_neg hm]
    refine ⟨?_, rfl⟩
    have hm' : xs.length < 2 * s.2 := by simpa using hm
    rcases hp with ⟨h1, h2⟩ | ⟨h1, h2, _⟩
    · rw [h2] at hm'; simp at hm'
    · have hl : 0 < xs.length := List.length_pos_of_mem h1
      have hne : xs ≠ [] := by rintro rfl; simp at hl
      unfold medS
      rw [if_neg hne]
      have a := srt_at xs ((xs.length - 1) / 2) (by omega)
      refine place_unique xs _ ?_ a
      have c : lessC xs s.1 + sameC xs s.1 ≤ xs.length := by rw [less_same]; exact List.countP_le_length
      dsimp only
      omega

theorem Agree_all (A : Option Addr) (c : Nat) (xs : List Int) (tol : Int) (w : World) (hr : RdI w A xs) (ht2 : tol ≤ 9223372036854775807) :
    Calls Try.prog 19 #[.slice A xs.length c, .int .i64 tol] w fun e w' => (∃ P pc, e = .returned (.slice P (agA xs tol).length pc) ∧ RdI w' P ((agA xs tol).map fun j : Nat => (j : Int))) ∧ Below w.heap.size w w' := by
  by_cases ht : tol < 0
  · refine (Agree_none A c xs tol w ht).mono ?_
    rintro e w' ⟨rfl, hb⟩
    refine ⟨⟨none, 0, ?_, ?_⟩, hb⟩
    · simp [agA, ht]
    · rw [show agA xs tol = [] from if_pos ht]; exact RdI_nil _ _
  · refine (Agree_any A c xs tol w hr (by omega) ht2).mono ?_
    rintro e w' ⟨v, rfl, ho, hb⟩
    have e : agG xs tol (runsOf (srt xs)) = agA xs tol := (if_neg ht).symm
    rw [e] at ho
    have hl := agA_le xs tol
    have hx := hr.1
    obtain ⟨P, pc, rfl, h⟩ := own_ints (m := xs.length) ho (by omega) (by omega) (by rw [← e, agree_eq xs tol (by omega)]; exact agS_small xs tol xs)
    exact ⟨⟨P, pc, rfl, h⟩, hb⟩
end Go.Proofs.Ytnjdbohhmjolgaa
