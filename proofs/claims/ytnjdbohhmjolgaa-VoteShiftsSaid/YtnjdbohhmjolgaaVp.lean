/- The plain laws of vote: no program in sight. -/
import Derived.Test.YtnjdbohhmjolgaaVh
set_option linter.unusedSimpArgs false
set_option linter.unusedVariables false
namespace Go.Proofs.Ytnjdbohhmjolgaa
open Go.RowKit Go.Proofs.Rt

/-! ### places in order, by counting -/
theorem sameC_perm {xs ys : List Int} (h : xs.Perm ys) (v : Int) : sameC xs v = sameC ys v := h.countP_eq _
theorem lessC_perm {xs ys : List Int} (h : xs.Perm ys) (v : Int) : lessC xs v = lessC ys v := h.countP_eq _
theorem less_same (xs : List Int) (v : Int) : lessC xs v + sameC xs v = xs.countP (fun x => decide (x ≤ v)) := by
  unfold lessC sameC
  induction xs with
  | nil => rfl
  | cons x l ih =>
    simp only [List.countP_cons]
    by_cases h1 : x < v <;> by_cases h2 : x = v <;> by_cases h3 : x ≤ v <;> simp [h1, h2, h3] <;> omega
theorem less_mono (xs : List Int) {u v : Int} (h : u < v) : lessC xs u + sameC xs u ≤ lessC xs v := by
  rw [less_same]
  unfold lessC
  refine List.countP_mono_left ?_
  intro x _ hx
  simp at hx ⊢
  omega
theorem sorted_le {S : List Int} (hs : S.Pairwise (· ≤ ·)) {i j : Nat} (hij : i ≤ j) (hj : j < S.length) : S[i] ≤ S[j] := by
  rcases Nat.lt_or_ge i j with h | h
  · exact List.pairwise_iff_getElem.1 hs i j (by omega) hj h
  · obtain rfl : i = j := by omega
    exact Int.le_refl _
theorem lessC_append (a b : List Int) (v : Int) : lessC (a ++ b) v = lessC a v + lessC b v := List.countP_append ..
theorem sorted_at {S : List Int} (hs : S.Pairwise (· ≤ ·)) (k : Nat) (hk : k < S.length) : lessC S S[k] ≤ k ∧ k < lessC S S[k] + sameC S S[k] := by
  constructor
  · have h1 : lessC S S[k] = lessC (S.take k) S[k] + lessC (S.drop k) S[k] := by
      have e := lessC_append (S.take k) (S.drop k) S[k]
      rwa [List.take_append_drop] at e
    have h2 : lessC (S.drop k) S[k] = 0 := by
      unfold lessC
      rw [List.countP_eq_zero]
      intro x hx
      obtain ⟨j, hj, rfl⟩ := List.mem_iff_getElem.1 hx
      simp at hj ⊢
      exact sorted_le hs (by omega) (by omega)
    have h3 := lessC_le (S.take k) S[k]
    simp at h3
    omega
  · rw [less_same]
    have h1 : (S.take (k + 1)).countP (fun x => decide (x ≤ S[k])) = (S.take (k + 1)).length := by
      rw [List.countP_eq_length]
      intro x hx
      obtain ⟨j, hj, rfl⟩ := List.mem_iff_getElem.1 hx
      simp at hj ⊢
      exact sorted_le hs (by omega) hk
    have h2 := (List.take_sublist (k + 1) S).countP_le (p := fun x => decide (x ≤ S[k]))
    rw [h1] at h2
    simp at h2
    omega
theorem place_unique (xs : List Int) (k : Nat) {u v : Int} (hu : lessC xs u ≤ k ∧ k < lessC xs u + sameC xs u) (hv : lessC xs v ≤ k ∧ k < lessC xs v + sameC xs v) : u = v := by
  rcases Int.lt_trichotomy u v with h | h | h
  · have := less_mono xs h; omega
  · exact h
  · have := less_mono xs h; omega
theorem srt_at (xs : List Int) (k : Nat) (hk : k < xs.length) : lessC xs (nth (srt xs) k) ≤ k ∧ k < lessC xs (nth (srt xs) k) + sameC xs (nth (srt xs) k) := by
  have hk' : k < (srt xs).length := by rw [srt_len]; exact hk
  have := sorted_at (srt_sorted xs) k hk'
  rw [lessC_perm (srt_perm xs), sameC_perm (srt_perm xs)] at this
  rw [nth_eq _ _ hk']
  exact this
/-- The number at a place in order: by sorting, and by counting. -/
theorem at_eq (xs : List Int) (k : Nat) (hk : k < xs.length) : atS xs (k : Int) = nth (srt xs) k := by
  have h := srt_at xs k hk
  have hm : nth (srt xs) k ∈ xs := (srt_perm xs).mem_iff.1 (nth_mem _ k (by rw [srt_len]; exact hk))
  unfold atS
  cases hf : xs.find? (atOk xs (k : Int)) with
  | none =>
    rw [List.find?_eq_none] at hf
    have := hf _ hm
    simp [atOk] at this
    omega
  | some y =>
    have hy := List.find?_some hf
    simp [atOk] at hy
    show y = _
    exact place_unique xs k ⟨by omega, by omega⟩ h

/-! ### the greatest score; of several the least number -/
def bestS (f : Int → Nat) (s : Int × Nat) (x : Int) : Int × Nat := if (decide (s.2 < f x) || (f x == s.2 && decide (x < s.1))) = true then (x, f x) else s
def bestG (f : Int → Nat) (s : Int × Nat) (x : Int) : Int × Nat := if decide (s.2 < f x) = true then (x, f x) else s
/-- What both come to. -/
def IsBest (f : Int → Nat) (xs : List Int) (s : Int × Nat) : Prop := (xs = [] ∧ s = (0, 0)) ∨ (s.1 ∈ xs ∧ s.2 = f s.1 ∧ ∀ y ∈ xs, f y ≤ s.2 ∧ (f y = s.2 → s.1 ≤ y))
theorem isBest_unique {f : Int → Nat} {xs ys : List Int} {s t : Int × Nat} (hm : ∀ x, x ∈ xs ↔ x ∈ ys) (h : IsBest f xs s) (k : IsBest f ys t) : s = t := by
  rcases h with ⟨rfl, rfl⟩ | ⟨h1, h2, h3⟩
  · rcases k with ⟨_, rfl⟩ | ⟨k1, _⟩
    · rfl
    · exact absurd ((hm _).2 k1) (by simp)
  · rcases k with ⟨rfl, _⟩ | ⟨k1, k2, k3⟩
    · exact absurd ((hm _).1 h1) (by simp)
    · have a := h3 _ ((hm _).2 k1)
      have b := k3 _ ((hm _).1 h1)
      rw [← k2] at a
      rw [← h2] at b
      have e : s.2 = t.2 := by omega
      have e1 := a.2 e.symm
      have e2 := b.2 e
      exact Prod.ext (by omega) e
theorem foldS_best {f : Int → Nat} (xs : List Int) (hf : ∀ x ∈ xs, 0 < f x) : IsBest f xs (xs.foldl (bestS f) (0, 0)) := by
  suffices h : ∀ (ys pre : List Int) (s : Int × Nat), (∀ x ∈ ys, 0 < f x) → IsBest f pre s → IsBest f (pre ++ ys) (ys.foldl (bestS f) s) from by
    simpa using h xs [] (0, 0) hf (.inl ⟨rfl, rfl⟩)
  intro ys
  induction ys with
  | nil => intro pre s _ h; simpa using h
  | cons y ys ih =>
    intro pre s hpos h
    have := ih (pre ++ [y]) (bestS f s y) (fun x hx => hpos x (List.mem_cons_of_mem _ hx)) ?_
    · simpa using this
    · have hy := hpos y (List.mem_cons_self ..)
      unfold bestS
      rcases h with ⟨rfl, rfl⟩ | ⟨h1, h2, h3⟩
      · right; simp [hy]
      · right
        split
        · rename_i hc
          simp at hc
          refine ⟨by simp, rfl, fun z hz => ?_⟩
          rcases List.mem_append.1 hz with hz | hz
          · have := h3 z hz
            dsimp only
            rcases hc with hc | ⟨hc, hd⟩
            · exact ⟨by omega, fun e => by omega⟩
            · exact ⟨by omega, fun e => by have := this.2 (by omega); omega⟩
          · simp at hz; subst hz; simp
        · rename_i hc
          simp at hc
          refine ⟨by simp [h1], h2, fun z hz => ?_⟩
          rcases List.mem_append.1 hz with hz | hz
          · exact h3 z hz
          · simp at hz; subst hz; exact ⟨hc.1, hc.2⟩
theorem foldG_best {f : Int → Nat} (xs : List Int) (hs : xs.Pairwise (· < ·)) (hf : ∀ x ∈ xs, 0 < f x) : IsBest f xs (xs.foldl (bestG f) (0, 0)) := by
  suffices h : ∀ (ys pre : List Int) (s : Int × Nat), (pre ++ ys).Pairwise (· < ·) → (∀ x ∈ ys, 0 < f x) → IsBest f pre s → IsBest f (pre ++ ys) (ys.foldl (bestG f) s) from by
    simpa using h xs [] (0, 0) (by simpa using hs) hf (.inl ⟨rfl, rfl⟩)
  intro ys
  induction ys with
  | nil => intro pre s _ _ h; simpa using h
  | cons y ys ih =>
    intro pre s hsort hpos h
    have := ih (pre ++ [y]) (bestG f s y) (by simpa using hsort) (fun x hx => hpos x (List.mem_cons_of_mem _ hx)) ?_
    · simpa using this
    · have hy := hpos y (List.mem_cons_self ..)
      have hlt : ∀ z ∈ pre, z < y := fun z hz => (List.pairwise_append.1 hsort).2.2 z hz y (List.mem_cons_self ..)
      unfold bestG
      rcases h with ⟨rfl, rfl⟩ | ⟨h1, h2, h3⟩
      · right; simp [hy]
      · right
        split
        · rename_i hc
          simp at hc
          refine ⟨by simp, rfl, fun z hz => ?_⟩
          rcases List.mem_append.1 hz with hz | hz
          · have := h3 z hz
            dsimp only
            exact ⟨by omega, fun e => by omega⟩
          · simp at hz; subst hz; simp
        · rename_i hc
          simp at hc
          refine ⟨by simp [h1], h2, fun z hz => ?_⟩
          rcases List.mem_append.1 hz with hz | hz
          · exact h3 z hz
          · simp at hz; subst hz; exact ⟨hc, fun _ => by have := hlt _ h1; omega⟩

/-! ### runs of numbers in order -/
theorem drop_while (p : Int → Bool) : ∀ l : List Int, l.drop (l.takeWhile p).length = l.dropWhile p
  | [] => rfl
  | x :: l => by
    cases h : p x
    · simp [List.takeWhile_cons, List.dropWhile_cons, h]
    · simp [List.takeWhile_cons, List.dropWhile_cons, h, drop_while p l]
theorem of_takeWhile (p : Int → Bool) (l : List Int) (y : Int) (h : y ∈ l.takeWhile p) : p y = true := by
  have := List.all_takeWhile (p := p) (l := l)
  rw [List.all_eq_true] at this
  exact this y h

theorem runs_facts : ∀ (m : Nat) (S : List Int), S.length ≤ m → S.Pairwise (· ≤ ·) →
    ((runsOf S).map (·.1)).Pairwise (· < ·) ∧ (∀ r ∈ runsOf S, r.1 ∈ S ∧ r.2 = sameC S r.1) ∧ ∀ y ∈ S, y ∈ (runsOf S).map (·.1) := by
  intro m
  induction m with
  | zero =>
    intro S h _
    have : S = [] := List.eq_nil_of_length_eq_zero (by omega)
    subst this
    rw [runsOf_nil]; simp
  | succ m ih =>
    intro S h hs
    cases S with
    | nil => rw [runsOf_nil]; simp
    | cons x l =>
      rw [runsOf_cons]
      have hsplit := List.takeWhile_append_dropWhile (p := (· == x)) (l := l)
      have hdrop := drop_while (· == x) l
      rw [hdrop]
      have hle : (l.dropWhile (· == x)).length ≤ m := by
        have := (List.dropWhile_sublist (p := (· == x)) (l := l)).length_le
        simp at h; omega
      have hs' := List.pairwise_cons.1 hs
      have hds : (l.dropWhile (· == x)).Pairwise (· ≤ ·) := hs'.2.sublist (List.dropWhile_sublist _)
      obtain ⟨i1, i2, i3⟩ := ih _ hle hds
      have hgt : ∀ y ∈ l.dropWhile (· == x), x < y := by
        intro y hy
        cases hd : l.dropWhile (· == x) with
        | nil => rw [hd] at hy; cases hy
        | cons z t =>
          have hz : (z == x) = false := by
            have := List.head?_dropWhile_not (p := (· == x)) (l := l)
            rw [hd] at this
            simpa using this
          rw [hd] at hy hds
          have hxz : x ≤ z := hs'.1 z ((List.dropWhile_sublist (· == x)).subset (by rw [hd]; exact List.mem_cons_self ..))
          have hne : z ≠ x := by simpa using hz
          rcases List.mem_cons.1 hy with rfl | hy
          · omega
          · have := (List.pairwise_cons.1 hds).1 y hy
            omega
      have htw : ∀ y ∈ l.takeWhile (· == x), y = x := by
        intro y hy
        have := of_takeWhile _ _ _ hy
        simpa using this
      have hcount : ∀ v, sameC (x :: l) v = (if x = v then (l.takeWhile (· == x)).length + 1 else 0) + sameC (l.dropWhile (· == x)) v := by
        intro v
        unfold sameC
        conv => lhs; rw [← hsplit]
        rw [List.countP_cons, List.countP_append]
        by_cases hv : x = v
        · subst hv
          rw [List.countP_eq_length.2 (fun y hy => by simp [htw y hy])]
          simp; omega
        · rw [List.countP_eq_zero.2 (fun y hy => by simp [htw y hy, hv])]
          simp [hv]
      refine ⟨?_, ?_, ?_⟩
      · rw [List.map_cons, List.pairwise_cons]
        refine ⟨fun y hy => ?_, i1⟩
        obtain ⟨r, hr, rfl⟩ := List.mem_map.1 hy
        exact hgt _ (i2 r hr).1
      · intro r hr
        rcases List.mem_cons.1 hr with rfl | hr
        · refine ⟨List.mem_cons_self .., ?_⟩
          dsimp only
          rw [hcount, if_pos rfl]
          have : sameC (l.dropWhile (· == x)) x = 0 := by
            unfold sameC
            rw [List.countP_eq_zero]
            intro y hy
            have := hgt y hy
            simp; omega
          omega
        · obtain ⟨j1, j2⟩ := i2 r hr
          refine ⟨List.mem_cons_of_mem _ ((List.dropWhile_sublist _).subset j1), ?_⟩
          rw [hcount, if_neg (by have := hgt _ j1; omega), ← j2]; omega
      · intro y hy
        rw [List.map_cons]
        rcases List.mem_cons.1 hy with rfl | hy
        · exact List.mem_cons_self ..
        · rw [← hsplit] at hy
          rcases List.mem_append.1 hy with hy | hy
          · rw [htw y hy]; exact List.mem_cons_self ..
          · exact List.mem_cons_of_mem _ (i3 y hy)
end Go.Proofs.Ytnjdbohhmjolgaa
