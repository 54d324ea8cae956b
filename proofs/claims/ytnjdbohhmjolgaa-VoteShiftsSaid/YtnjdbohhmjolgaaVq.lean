/- The plain laws of vote, joined: what the program's words and the reference's come to is the same. -/
import Derived.Test.YtnjdbohhmjolgaaVp
set_option linter.unusedSimpArgs false
set_option linter.unusedVariables false
namespace Go.Proofs.Ytnjdbohhmjolgaa
open Go.RowKit Go.Proofs.Rt

theorem sameC_pos {xs : List Int} {x : Int} (h : x ∈ xs) : 0 < sameC xs x := by
  unfold sameC
  rw [List.countP_pos_iff]
  exact ⟨x, h, by simp⟩
theorem plG_bestG (f : Int → Nat) (rs : List (Int × Nat)) (h : ∀ r ∈ rs, r.2 = f r.1) : plG rs = (rs.map (·.1)).foldl (bestG f) (0, 0) := by
  unfold plG
  suffices g : ∀ s, rs.foldl plGStep s = (rs.map (·.1)).foldl (bestG f) s from g _
  induction rs with
  | nil => exact fun _ => rfl
  | cons r rs ih =>
    intro s
    have hr := h r (List.mem_cons_self ..)
    simp only [List.foldl_cons, List.map_cons]
    rw [ih (fun r' h' => h r' (List.mem_cons_of_mem _ h'))]
    congr 1
    unfold plGStep bestG
    rw [← hr]
theorem srt_mem (xs : List Int) (x : Int) : x ∈ (runsOf (srt xs)).map (·.1) ↔ x ∈ xs := by
  obtain ⟨_, h2, h3⟩ := runs_facts _ (srt xs) (Nat.le_refl _) (srt_sorted xs)
  rw [← (srt_perm xs).mem_iff]
  constructor
  · intro h
    obtain ⟨r, hr, rfl⟩ := List.mem_map.1 h
    exact (h2 r hr).1
  · exact h3 x
theorem runs_count (xs : List Int) : ∀ r ∈ runsOf (srt xs), r.2 = sameC xs r.1 := fun r hr => by
  rw [((runs_facts _ (srt xs) (Nat.le_refl _) (srt_sorted xs)).2.1 r hr).2, sameC_perm (srt_perm xs)]
theorem runs_up (xs : List Int) : ((runsOf (srt xs)).map (·.1)).Pairwise (· < ·) := (runs_facts _ (srt xs) (Nat.le_refl _) (srt_sorted xs)).1
/-- Plural: by runs, and by counting. -/
theorem plural_eq (xs : List Int) : plG (runsOf (srt xs)) = plS xs xs := by
  rw [plG_bestG (sameC xs) _ (runs_count xs)]
  refine isBest_unique (f := sameC xs) (srt_mem xs) (foldG_best _ (runs_up xs) (fun x hx => sameC_pos ((srt_mem xs x).1 hx))) ?_
  exact foldS_best xs (fun x hx => sameC_pos hx)
theorem plural_best (xs : List Int) : IsBest (sameC xs) xs (plG (runsOf (srt xs))) := by
  rw [plural_eq]; exact foldS_best xs (fun x hx => sameC_pos hx)

/-! ### who agrees -/
def partF (xs : List Int) (tol x : Int) : Nat := (partS xs x tol xs.length).length
def RelA (xs : List Int) (tol : Int) (b : List Nat) (s : Int × Nat) : Prop := b.length = s.2 ∧ (b = [] ∨ b = partS xs s.1 tol xs.length)
theorem relA_unique {xs : List Int} {tol : Int} {b b' : List Nat} {s : Int × Nat} (h : RelA xs tol b s) (k : RelA xs tol b' s) : b = b' := by
  rcases h with ⟨h1, rfl | rfl⟩ <;> rcases k with ⟨k1, rfl | rfl⟩
  · rfl
  · rw [← h1] at k1; exact (List.eq_nil_of_length_eq_zero k1).symm
  · rw [← k1] at h1; exact List.eq_nil_of_length_eq_zero h1
  · rfl
theorem agG_rel (xs : List Int) (tol : Int) (rs : List (Int × Nat)) : RelA xs tol (agG xs tol rs) ((rs.map (·.1)).foldl (bestG (partF xs tol)) (0, 0)) := by
  unfold agG
  suffices g : ∀ b s, RelA xs tol b s → RelA xs tol (rs.foldl (agGStep xs tol) b) ((rs.map (·.1)).foldl (bestG (partF xs tol)) s) from g _ _ ⟨rfl, .inl rfl⟩
  induction rs with
  | nil => exact fun _ _ h => h
  | cons r rs ih =>
    intro b s h
    simp only [List.foldl_cons, List.map_cons]
    refine ih _ _ ?_
    unfold agGStep bestG partF
    rw [← h.1]
    by_cases hc : (partS xs r.1 tol xs.length).length ≤ b.length
    · rw [if_pos (by simpa using hc), if_neg (by simp; omega)]; exact h
    · rw [if_neg (by simpa using hc), if_pos (by simp; omega)]; exact ⟨rfl, .inr rfl⟩
theorem agS_rel (xs : List Int) (tol : Int) (ys : List Int) : ∃ s, s = ys.foldl (bestS (partF xs tol)) (0, 0) ∧ RelA xs tol (agS xs tol ys).1 s ∧ (agS xs tol ys).2 = s.1 := by
  unfold agS
  suffices g : ∀ (b : List Nat × Int) (s : Int × Nat), RelA xs tol b.1 s → b.2 = s.1 → RelA xs tol (ys.foldl (agStep xs tol) b).1 (ys.foldl (bestS (partF xs tol)) s) ∧ (ys.foldl (agStep xs tol) b).2 = (ys.foldl (bestS (partF xs tol)) s).1 from
    ⟨_, rfl, g _ _ ⟨rfl, .inl rfl⟩ rfl⟩
  induction ys with
  | nil => exact fun _ _ h k => ⟨h, k⟩
  | cons x ys ih =>
    intro b s h k
    simp only [List.foldl_cons]
    refine ih _ _ ?_ ?_
    · unfold agStep bestS partF
      rw [← h.1, k]
      split
      · exact ⟨rfl, .inr rfl⟩
      · exact h
    · unfold agStep bestS partF
      rw [← h.1, k]
      split
      · rfl
      · exact k
theorem within_self (x tol : Int) (h : 0 ≤ tol) : within x x tol = true := by simp [within, h]
theorem partF_pos {xs : List Int} {tol x : Int} (h : 0 ≤ tol) (hx : x ∈ xs) : 0 < partF xs tol x := by
  obtain ⟨j, hj, rfl⟩ := List.mem_iff_getElem.1 hx
  unfold partF partS
  rw [List.length_pos_iff_exists_mem]
  exact ⟨j, List.mem_filter.2 ⟨List.mem_range.2 hj, by rw [nth_eq xs j hj]; exact within_self _ _ h⟩⟩
/-- Agree: by runs, and by trying each. -/
theorem agree_eq (xs : List Int) (tol : Int) (h : 0 ≤ tol) : agG xs tol (runsOf (srt xs)) = (agS xs tol xs).1 := by
  have h1 := agG_rel xs tol (runsOf (srt xs))
  obtain ⟨s, hs, h2, _⟩ := agS_rel xs tol xs
  have e : ((runsOf (srt xs)).map (·.1)).foldl (bestG (partF xs tol)) (0, 0) = s := by
    rw [hs]
    exact isBest_unique (f := partF xs tol) (srt_mem xs) (foldG_best _ (runs_up xs) (fun x hx => partF_pos h ((srt_mem xs x).1 hx))) (foldS_best xs (fun x hx => partF_pos h hx))
  rw [e] at h1
  exact relA_unique h1 h2
/-- Trim, Median. -/
theorem trim_eq (xs : List Int) (f : Int) : trimG xs f = trimS xs f := by
  unfold trimG trimS
  split
  · rename_i h
    simp [trimOk] at h
    have e1 : atS xs f = nth (srt xs) f.toNat := by
      rw [← at_eq xs f.toNat (by omega)]
      congr 1; omega
    have e2 : atS xs (xs.length - 1 - f) = nth (srt xs) (xs.length - 1 - f).toNat := by
      rw [← at_eq xs (xs.length - 1 - f).toNat (by omega)]
      congr 1; omega
    rw [e1, e2]
  · rfl
theorem middle_eq (xs : List Int) (f : Int) : (((trimG xs f).1 + (trimG xs f).2.1) / 2, (trimG xs f).2.2) = middleS xs f := by
  rw [trim_eq]
  unfold trimS middleS
  split <;> rfl
theorem med_eq (xs : List Int) (h : xs ≠ []) : (medS xs).1 = atS xs ((xs.length - 1) / 2 : Nat) := by
  have : 0 < xs.length := List.length_pos_iff.2 h
  unfold medS
  rw [if_neg h, at_eq xs _ (by omega)]
end Go.Proofs.Ytnjdbohhmjolgaa
