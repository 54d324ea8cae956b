/- Plain words on lists of numbers for the vote statements: no program in it. -/
import Derived.Test.YtnjdbohhmjolgaaLb
namespace Go.Proofs.Ytnjdbohhmjolgaa
open Go.RowKit Go.Proofs.Rt

def sameC (xs : List Int) (v : Int) : Nat := xs.countP (fun x => x == v)
def lessC (xs : List Int) (v : Int) : Nat := xs.countP (fun x => decide (x < v))
theorem sameC_snoc (xs : List Int) (x v : Int) : sameC (xs ++ [x]) v = sameC xs v + (x == v).toNat := by
  cases h : (x == v) <;> simp [sameC, List.countP_append, h]
theorem lessC_snoc (xs : List Int) (x v : Int) : lessC (xs ++ [x]) v = lessC xs v + (decide (x < v)).toNat := by
  cases h : decide (x < v) <;> simp [lessC, List.countP_append, h]
theorem sameC_le (xs : List Int) (v : Int) : sameC xs v ≤ xs.length := List.countP_le_length
theorem lessC_le (xs : List Int) (v : Int) : lessC xs v ≤ xs.length := List.countP_le_length

/-- The reference's search: the first number whose places in order hold a place. -/
def atOk (xs : List Int) (p : Int) (x : Int) : Bool := decide ((lessC xs x : Int) ≤ p) && decide (p < (lessC xs x : Int) + sameC xs x)
def atS (xs : List Int) (p : Int) : Int := (xs.find? (atOk xs p)).getD 0
/-- The reference's Plural, number by number. -/
def plStep (xs : List Int) (s : Int × Nat) (x : Int) : Int × Nat := if (decide (s.2 < sameC xs x) || (sameC xs x == s.2 && decide (x < s.1))) = true then (x, sameC xs x) else s
def plS (xs ys : List Int) : Int × Nat := ys.foldl (plStep xs) (0, 0)
theorem plS_snoc (xs ys : List Int) (x : Int) : plS xs (ys ++ [x]) = plStep xs (plS xs ys) x := by simp [plS]

def within (least v tol : Int) : Bool := decide (least ≤ v) && decide (v - least ≤ tol)
/-- The places that agree with a least number, of the first k. -/
def partS (xs : List Int) (least tol : Int) (k : Nat) : List Nat := (List.range k).filter fun j => within least (nth xs j) tol
theorem partS_succ (xs : List Int) (least tol : Int) (k : Nat) : partS xs least tol (k + 1) = partS xs least tol k ++ if within least (nth xs k) tol = true then [k] else [] := by
  simp [partS, List.range_succ, List.filter_append, List.filter_cons]
theorem partS_le (xs : List Int) (least tol : Int) (k : Nat) : (partS xs least tol k).length ≤ k := by
  have := List.length_filter_le (fun j => within least (nth xs j) tol) (List.range k)
  simpa [partS] using this
def agStep (xs : List Int) (tol : Int) (s : List Nat × Int) (x : Int) : List Nat × Int :=
  if (decide (s.1.length < (partS xs x tol xs.length).length) || ((partS xs x tol xs.length).length == s.1.length && decide (x < s.2))) = true then (partS xs x tol xs.length, x) else s
def agS (xs : List Int) (tol : Int) (ys : List Int) : List Nat × Int := ys.foldl (agStep xs tol) ([], 0)
theorem agS_snoc (xs ys : List Int) (tol x : Int) : agS xs tol (ys ++ [x]) = agStep xs tol (agS xs tol ys) x := by simp [agS]


/-! ### in order; runs -/
def srt (xs : List Int) : List Int := xs.mergeSort fun x y => decide (x ≤ y)
theorem srt_perm (xs : List Int) : (srt xs).Perm xs := List.mergeSort_perm ..
theorem srt_len (xs : List Int) : (srt xs).length = xs.length := (srt_perm xs).length_eq
theorem srt_sorted (xs : List Int) : (srt xs).Pairwise (· ≤ ·) := by
  have := List.pairwise_mergeSort (le := fun x y : Int => decide (x ≤ y)) (fun a b c => by simp; omega) (fun a b => by simp; omega) xs
  refine this.imp ?_
  intro a b h
  simpa using h
/-- The numbers of a list and how many follow one another. -/
def runsOf : List Int → List (Int × Nat)
  | [] => []
  | x :: l => (x, (l.takeWhile (· == x)).length + 1) :: runsOf (l.drop (l.takeWhile (· == x)).length)
  termination_by l => l.length
  decreasing_by simp; omega
theorem runsOf_cons (x : Int) (l : List Int) : runsOf (x :: l) = (x, (l.takeWhile (· == x)).length + 1) :: runsOf (l.drop (l.takeWhile (· == x)).length) := by rw [runsOf]
theorem runsOf_nil : runsOf [] = [] := by rw [runsOf]
/-- Where the run at the head ends. -/
theorem run_ends (xs : List Int) (n : Nat) (h1 : 1 ≤ n) (hn : n ≤ xs.length) (ha : ∀ j, j < n → nth xs j = nth xs 0) (hs : n = xs.length ∨ (n < xs.length ∧ nth xs n ≠ nth xs 0)) :
    runsOf xs = (nth xs 0, n) :: runsOf (xs.drop n) := by
  cases xs with
  | nil => simp at hn; omega
  | cons x l =>
    have h0 : nth (x :: l) 0 = x := rfl
    have ht : (l.takeWhile (· == x)).length = n - 1 := by
      have key : ∀ (l : List Int) (m : Nat), m ≤ l.length → (∀ j, j < m → nth l j = x) → (m = l.length ∨ (m < l.length ∧ nth l m ≠ x)) → (l.takeWhile (· == x)).length = m := by
        intro l
        induction l with
        | nil => intro m hm _ _; simp at hm; simp [hm]
        | cons y l ih =>
          intro m hm hj he
          cases m with
          | zero =>
            rcases he with he | ⟨_, he⟩
            · simp at he
            · have : y ≠ x := he
              simp [this]
          | succ m =>
            have hy : y = x := hj 0 (by omega)
            have := ih m (by simpa using hm) (fun j h => hj (j + 1) (by omega)) (by
              rcases he with he | ⟨h1, he⟩
              · left; simpa using he
              · right; exact ⟨by simpa using h1, he⟩)
            simp [hy, this]
      refine key l (n - 1) (by simp at hn; omega) (fun j hj => ?_) ?_
      · have := ha (j + 1) (by omega)
        rw [h0] at this
        exact this
      · rcases hs with hs | ⟨h2, h3⟩
        · left; simp at hs; omega
        · right
          refine ⟨by simp at h2; omega, ?_⟩
          obtain ⟨m, rfl⟩ : ∃ m, n = m + 1 := ⟨n - 1, by omega⟩
          exact h3
    rw [runsOf_cons, ht, h0]
    obtain ⟨m, rfl⟩ : ∃ m, n = m + 1 := ⟨n - 1, by omega⟩
    simp
theorem nth_drop (xs : List Int) (k j : Nat) : nth (xs.drop k) j = nth xs (k + j) := by simp [nth]
theorem nth_mem (xs : List Int) (j : Nat) (h : j < xs.length) : nth xs j ∈ xs := by rw [nth_eq xs j h]; exact List.getElem_mem h

end Go.Proofs.Ytnjdbohhmjolgaa
