/- Plain laws: all numbers moved on. -/
import Derived.Test.YtnjdbohhmjolgaaVw
set_option linter.unusedSimpArgs false
set_option linter.unusedVariables false
namespace Go.Proofs.Ytnjdbohhmjolgaa
open Go.RowKit Go.Proofs.Rt

def mv (xs : List Int) (t : Int) : List Int := xs.map (· + t)
theorem mv_len (xs : List Int) (t : Int) : (mv xs t).length = xs.length := by simp [mv]
theorem mv_nth (xs : List Int) (t : Int) (k : Nat) (h : k < xs.length) : nth (mv xs t) k = nth xs k + t := by simp [mv, nth, h]
theorem mv_same (xs : List Int) (t v : Int) : sameC (mv xs t) (v + t) = sameC xs v := by
  unfold sameC mv
  rw [List.countP_map]
  refine List.countP_congr (fun x _ => ?_)
  simp
theorem mv_less (xs : List Int) (t v : Int) : lessC (mv xs t) (v + t) = lessC xs v := by
  unfold lessC mv
  rw [List.countP_map]
  refine List.countP_congr (fun x _ => ?_)
  simp
theorem mv_srt (xs : List Int) (t : Int) (k : Nat) (h : k < xs.length) : nth (srt (mv xs t)) k = nth (srt xs) k + t := by
  have a := srt_at xs k h
  have b := srt_at (mv xs t) k (by rw [mv_len]; exact h)
  refine place_unique (mv xs t) k b ?_
  rw [mv_less, mv_same]
  exact a
theorem srt_memb (xs : List Int) (k : Nat) (h : k < xs.length) : nth (srt xs) k ∈ xs := (srt_perm xs).mem_iff.1 (nth_mem _ k (by rw [srt_len]; exact h))
theorem mv_med (xs : List Int) (t : Int) (h : 0 < xs.length) : medS (mv xs t) = ((medS xs).1 + t, (medS xs).2) ∧ (medS xs).1 ∈ xs := by
  have h1 : xs ≠ [] := by rintro rfl; simp at h
  have h2 : mv xs t ≠ [] := by intro e; have := mv_len xs t; rw [e] at this; simp at this; omega
  unfold medS
  rw [if_neg h1, if_neg h2, mv_len, mv_srt _ _ _ (by omega)]
  exact ⟨rfl, srt_memb _ _ (by omega)⟩
theorem mv_ok (xs : List Int) (t f : Int) : trimOk (mv xs t) f = trimOk xs f := by unfold trimOk; rw [mv_len]
theorem trim_no (xs : List Int) (f : Int) (h : trimOk xs f = false) : trimG xs f = (0, 0, false) := by unfold trimG; rw [h]; rfl
theorem trim_yes (xs : List Int) (f : Int) (h : trimOk xs f = true) : trimG xs f = (nth (srt xs) f.toNat, nth (srt xs) (xs.length - 1 - f).toNat, true) := by unfold trimG; rw [if_pos h]
theorem mv_trim (xs : List Int) (t f : Int) (h : trimOk xs f = true) : ∃ lo hi, lo ∈ xs ∧ hi ∈ xs ∧ trimG xs f = (lo, hi, true) ∧ trimG (mv xs t) f = (lo + t, hi + t, true) := by
  have g : 0 ≤ f ∧ f ≤ xs.length ∧ 2 * f < xs.length := by simpa [trimOk, and_assoc] using h
  refine ⟨_, _, srt_memb xs f.toNat (by omega), srt_memb xs (xs.length - 1 - f).toNat (by omega), trim_yes xs f h, ?_⟩
  rw [trim_yes _ f (by rw [mv_ok]; exact h), mv_len, mv_srt _ _ _ (by omega), mv_srt _ _ _ (by omega)]

theorem mv_best {f g : Int → Nat} {xs ys : List Int} {s : Int × Nat} (t : Int) (h : IsBest f xs s) (hne : xs ≠ []) (hfg : ∀ x, g (x + t) = f x) (hm : ∀ y, y ∈ ys ↔ y - t ∈ xs) : IsBest g ys (s.1 + t, s.2) := by
  rcases h with ⟨h1, _⟩ | ⟨h1, h2, h3⟩
  · exact absurd h1 hne
  · refine .inr ⟨(hm _).2 (by simpa using h1), by rw [hfg]; exact h2, fun y hy => ?_⟩
    have := h3 _ ((hm y).1 hy)
    have e : g y = f (y - t) := by rw [← hfg, Int.sub_add_cancel]
    rw [e]
    refine ⟨this.1, fun q => ?_⟩
    have := this.2 q
    dsimp only
    omega
theorem mv_mem (xs : List Int) (t y : Int) : y ∈ mv xs t ↔ y - t ∈ xs := by
  unfold mv
  rw [List.mem_map]
  constructor
  · rintro ⟨x, hx, rfl⟩; simpa using hx
  · intro h; exact ⟨_, h, by omega⟩
theorem mv_plural (xs : List Int) (t : Int) (h : 0 < xs.length) : plG (runsOf (srt (mv xs t))) = ((plG (runsOf (srt xs))).1 + t, (plG (runsOf (srt xs))).2) ∧ (plG (runsOf (srt xs))).1 ∈ xs := by
  have h1 : xs ≠ [] := by rintro rfl; simp at h
  have b := plural_best xs
  refine ⟨isBest_unique (fun _ => Iff.rfl) (plural_best (mv xs t)) (mv_best t b h1 (mv_same xs t) (mv_mem xs t)), ?_⟩
  rcases b with ⟨e, _⟩ | ⟨e, _⟩
  · exact absurd e h1
  · exact e

theorem mv_part (xs : List Int) (t x tol : Int) : partS (mv xs t) (x + t) tol xs.length = partS xs x tol xs.length := by
  unfold partS
  refine List.filter_congr (fun j hj => ?_)
  rw [mv_nth xs t j (List.mem_range.1 hj)]
  unfold within
  rw [show nth xs j + t - (x + t) = nth xs j - x by omega, show decide (x + t ≤ nth xs j + t) = decide (x ≤ nth xs j) by rw [Bool.eq_iff_iff]; simp]
theorem mv_partF (xs : List Int) (t x tol : Int) : partF (mv xs t) tol (x + t) = partF xs tol x := by unfold partF; rw [mv_len, mv_part]
theorem mv_agree (xs : List Int) (t tol : Int) (h : 0 < xs.length) : agA (mv xs t) tol = agA xs tol := by
  unfold agA
  by_cases ht : tol < 0
  · rw [if_pos ht, if_pos ht]
  · rw [if_neg ht, if_neg ht]
    have ht' : 0 ≤ tol := by omega
    have pos : ∀ ys : List Int, ∀ x ∈ (runsOf (srt ys)).map (·.1), 0 < partF ys tol x := fun ys x hx => partF_pos ht' ((srt_mem ys x).1 hx)
    have b := foldG_best ((runsOf (srt xs)).map (·.1)) (runs_up xs) (pos xs)
    have b' := foldG_best ((runsOf (srt (mv xs t))).map (·.1)) (runs_up (mv xs t)) (pos (mv xs t))
    have r := agG_rel xs tol (runsOf (srt xs))
    have r' := agG_rel (mv xs t) tol (runsOf (srt (mv xs t)))
    have hne : (runsOf (srt xs)).map (·.1) ≠ [] := by
      intro e
      have := (srt_mem xs (nth xs 0)).2 (nth_mem xs 0 h)
      rw [e] at this
      cases this
    have e := isBest_unique (fun _ => Iff.rfl) b' (mv_best t b hne (fun x => mv_partF xs t x tol) (fun y => by rw [srt_mem, srt_mem, mv_mem]))
    rw [e] at r'
    refine relA_unique (xs := xs) (tol := tol) (s := ((runsOf (srt xs)).map (·.1)).foldl (bestG (partF xs tol)) (0, 0)) ⟨r'.1, ?_⟩ r
    rcases r'.2 with q | q
    · exact .inl q
    · exact .inr (by rw [q, mv_len, mv_part])
end Go.Proofs.Ytnjdbohhmjolgaa
