/- vote.Plural, Majority, walked. -/
import Derived.RegionIn
import Derived.Test.YtnjdbohhmjolgaaVe
set_option linter.unusedVariables false
set_option linter.unusedSimpArgs false
namespace Go.Proofs.Ytnjdbohhmjolgaa
open Go.RowKit Go.Proofs.Rt Go.Shelf
attribute [local go_sem] Oper.semAt_some

def plGStep (s r : Int × Nat) : Int × Nat := if decide (s.2 < r.2) = true then r else s
def plG (rs : List (Int × Nat)) : Int × Nat := rs.foldl plGStep (0, 0)
theorem plG_snoc (rs : List (Int × Nat)) (r : Int × Nat) : plG (rs ++ [r]) = plGStep (plG rs) r := by simp [plG]

set_option maxRecDepth 100000 in
set_option maxHeartbeats 4000000 in
theorem Plural_any (A : Option Addr) (c : Nat) (xs : List Int) (w : World) (hr : RdI w A xs) :
    Calls Try.prog 16 #[.slice A xs.length c] w fun e w' => e = .returned (.tuple #[.int .i64 (plG (runsOf (srt xs))).1, .int .i64 ((plG (runsOf (srt xs))).2 : Int)]) ∧ Below w.heap.size w w' := by
  have HCL := Lib.hid (runs_clip _ (srt xs) (Nat.le_refl _) (srt_clip hr))
  refine (callsIn_wide (n := 20)).1 ?_
  refine callsIn_of_wp_marks Try.func16 rfl trivial ?_ rfl
  simp only [Try.ntmps16, List.size_toArray, List.length_cons, List.length_nil, Nat.reduceAdd, Nat.reduceSub, Array.replicate_succ, Array.replicate_zero, List.push_toArray, List.append_toArray, List.nil_append, List.cons_append]
  gi_wp2_with (refine ⟨trivial, ?_⟩; gi_at_call 27; refine (callsIn_wide.2 (runs_any _ _ _ _)).mono ?_; rintro e w' ⟨rfl, rfl⟩)
  have b0 := Boxed.new w 3 (.int .i64 0)
  have b1 := Boxed.new (w.alloc (.cells #[.int .i64 0] 3)) 3 (.int .i64 0)
  have b2 := Boxed.new ((w.alloc (.cells #[.int .i64 0] 3)).alloc (.cells #[.int .i64 0] 3)) 22 (.slice A xs.length c)
  simp only [World.size_alloc] at b1 b2
  have hB0 : Below w.heap.size w (((w.alloc (.cells #[.int .i64 0] 3)).alloc (.cells #[.int .i64 0] 3)).alloc (.cells #[.slice A xs.length c] 22)) := (((Below.refl _ w).alloc (Nat.le_refl _) _).alloc (by simp) _).alloc (by simp; omega) _
  refine wpIn_rangeFunc_ownF (n := 20) rfl (by omega) (gf := 34) (lb := #[.pointer (some ⟨w.heap.size + 2, 0, none⟩)]) rfl trivial (enters_of Try.func34 (by kernel_rfl) rfl)
    (runs_stops 19 (by omega) (w.heap.size + 2) A c xs w _ (fun b => b = w.heap.size ∨ b = w.heap.size + 1) (by intro b hb; simp; omega) (by simp) hB0 b2.cell hr) KeepT.trans keepT_b (Below.refl _ _) (fun _ => rfl)
    (fun pre W => (Boxed W w.heap.size 3 (.int .i64 (plG (pre.map clipR)).1) ∧ Boxed W (w.heap.size + 1) 3 (.int .i64 ((plG (pre.map clipR)).2 : Int))) ∧ Below w.heap.size w W)
    (fun _ _ _ => False)
    (OwnFrom.and (OwnFrom.and (Own.from (boxed_own _ _ _) _) (Own.from (boxed_own _ _ _) _)) (ownFrom_below (Nat.le_refl _) (by simp; omega)))
    (fun _ _ _ _ _ hs _ _ => hs)
    ⟨⟨(b0.alloc _).alloc _, b1.alloc _⟩, hB0⟩
    (fun x => { tmps := #[.slice A xs.length c, undef, .pointer (some ⟨w.heap.size, 0, none⟩), .pointer (some ⟨w.heap.size + 1, 0, none⟩), .int .i64 (clip x.1), .int .i64 x.2, .slice A xs.length c, .func (.func 34) #[] #[.pointer (some ⟨w.heap.size + 2, 0, none⟩)], .int .i64 (clip x.1), .int .i64 x.2, undef, undef, undef, undef, undef, undef, undef], defers := [] }) ?assign ?body ?done ?stop
  case assign =>
    intro l x W K hK
    gi_wp2
    exact hK
  case body =>
    rintro l pre x W ⟨⟨hv, hm⟩, hB⟩ hlt
    have hs := plG_snoc (pre.map clipR) (clipR x)
    obtain ⟨v, m, hp⟩ : ∃ v m, plG (pre.map clipR) = (v, m) := ⟨_, _, rfl⟩
    obtain ⟨x1, x2⟩ := x
    rw [hp] at hv hm hs
    dsimp only at hv hm
    have HS := Lib.hid hs
    clear hs hp
    have c0 := hv.cell
    have f0 := hv.frozen
    have c1 := hm.cell
    have f1 := hm.frozen
    cases e1 : decide (m < x2)
    · have E := Lib.hid e1
      gi_wp2
      refine ⟨KeepsOthers.refl _, KeepT.refl _ _, ⟨?_, ?_⟩, hB⟩
      · rw [List.map_append, List.map_singleton, HS.out]; unfold plGStep clipR; dsimp only; rw [E.out]; exact hv
      · rw [List.map_append, List.map_singleton, HS.out]; unfold plGStep clipR; dsimp only; rw [E.out]; exact hm
    · have E := Lib.hid e1
      gi_wp2
      refine ⟨(KeepsOthers.setCell _ _ _).trans (KeepsOthers.setCell _ _ _), ((KeepT.refl _ _).setCell _ _ (.inl rfl)).setCell _ _ (.inr rfl), ⟨?_, ?_⟩, ?_⟩
      · rw [List.map_append, List.map_singleton, HS.out]; unfold plGStep clipR; dsimp only; rw [E.out]; exact (hv.set _).other (by omega) _
      · rw [List.map_append, List.map_singleton, HS.out]; unfold plGStep clipR; dsimp only; rw [E.out]; exact (hm.other (by omega) _).set _
      · exact (hB.setCell (p := ⟨w.heap.size, 0, none⟩) (Nat.le_refl _) _).setCell (p := ⟨w.heap.size + 1, 0, none⟩) (by simp) _
  case done =>
    rintro D ys W hD rfl ⟨⟨hv, hm⟩, hB⟩ hK
    rw [HCL.out] at hv hm
    have c0 := hv.cell
    have f0 := hv.frozen
    have c1 := hm.cell
    have f1 := hm.frozen
    gi_wp2
    gi_region
    all_goals gi_wp2
    obtain ⟨W3, hW3⟩ : ∃ W3, ((W.setCell ⟨w.heap.size, 0, none⟩ (.int .i64 (plG (runsOf (srt xs))).1)).setCell ⟨w.heap.size + 1, 0, none⟩ (.int .i64 ((plG (runsOf (srt xs))).2 : Int))).drew = W3 := ⟨_, rfl⟩
    have h0 : Boxed W3 w.heap.size 3 (.int .i64 (plG (runsOf (srt xs))).1) := by rw [← hW3]; exact (hv.set (.int .i64 (plG (runsOf (srt xs))).1)).other (B' := w.heap.size + 1) (by omega) (.int .i64 ((plG (runsOf (srt xs))).2 : Int))
    have h1 : Boxed W3 (w.heap.size + 1) 3 (.int .i64 ((plG (runsOf (srt xs))).2 : Int)) := by rw [← hW3]; exact (hm.other (B' := w.heap.size) (by omega) (.int .i64 (plG (runsOf (srt xs))).1)).set (.int .i64 ((plG (runsOf (srt xs))).2 : Int))
    have hK' : W3.heap[D]? = some (.deferred (some [])) := by rw [← hW3]; exact (((KeepsOthers.setCell W ⟨w.heap.size, 0, none⟩ _).trans (KeepsOthers.setCell _ ⟨w.heap.size + 1, 0, none⟩ _)).same D _ hK rfl)
    have hB2 : Below w.heap.size w W3 := by rw [← hW3]; exact ((hB.setCell (p := ⟨w.heap.size, 0, none⟩) (Nat.le_refl _) _).setCell (p := ⟨w.heap.size + 1, 0, none⟩) (by simp) _).drew
    refine ⟨by simp, .inl ⟨_, _, rfl, run_takeDeferred (by rw [hW3]; exact hK'), ?_⟩⟩
    rw [hW3]
    have k0 := cell_kept h0.cell (grownBy_putObj' _ D (.deferred none)) (fun r e => by cases e; exact ⟨_, hK', rfl⟩)
    have k1 := cell_kept h1.cell (grownBy_putObj' _ D (.deferred none)) (fun r e => by cases e; exact ⟨_, hK', rfl⟩)
    refine ⟨_, by simp [results, Try.results16, go_sem, k0, k1], rfl, ?_⟩
    exact hB2.trans (belowK_b (w := w) (Nat.le_refl _) _ D _ _ (by simp at hD; omega) hK' rfl rfl)
  case stop =>
    rintro D c pre W _ _ h _
    exact h.elim

theorem plG_le (xs : List Int) : ∀ rs : List (Int × Nat), (∀ r ∈ rs, r.2 ≤ xs.length) → (plG rs).2 ≤ xs.length := by
  intro rs
  unfold plG
  suffices h : ∀ s : Int × Nat, s.2 ≤ xs.length → (∀ r ∈ rs, r.2 ≤ xs.length) → (rs.foldl plGStep s).2 ≤ xs.length from h (0, 0) (Nat.zero_le _)
  induction rs with
  | nil => exact fun s h _ => h
  | cons y ys ih =>
    intro s h hr
    refine ih _ ?_ (fun r hm => hr r (List.mem_cons_of_mem _ hm))
    unfold plGStep
    split
    · exact hr y (List.mem_cons_self ..)
    · exact h
theorem runsOf_le : ∀ (m : Nat) (xs : List Int), xs.length ≤ m → ∀ r ∈ runsOf xs, r.2 ≤ m := by
  intro m
  induction m with
  | zero =>
    intro xs h r hr
    have : xs = [] := List.eq_nil_of_length_eq_zero (by omega)
    subst this
    rw [runsOf_nil] at hr
    cases hr
  | succ m ih =>
    intro xs h r hr
    cases xs with
    | nil => rw [runsOf_nil] at hr; cases hr
    | cons x l =>
      rw [runsOf_cons] at hr
      have hl : (l.takeWhile (· == x)).length ≤ l.length := (List.takeWhile_prefix _).length_le
      simp at h
      rcases List.mem_cons.1 hr with rfl | hr
      · dsimp only; omega
      · have := ih _ (by simp; omega) r hr
        omega
theorem plG_bound (xs : List Int) : (plG (runsOf (srt xs))).2 ≤ xs.length := plG_le xs _ (by rw [← srt_len xs]; exact runsOf_le _ _ (Nat.le_refl _))

def majS (xs : List Int) : Int × Bool := if decide (2 * (plG (runsOf (srt xs))).2 ≤ xs.length) = true then (0, false) else ((plG (runsOf (srt xs))).1, true)
set_option maxHeartbeats 1000000 in
theorem Majority_any (A : Option Addr) (c : Nat) (xs : List Int) (w : World) (hr : RdI w A xs) :
    Calls Try.prog 18 #[.slice A xs.length c] w fun e w' => e = .returned (.tuple #[.int .i64 (majS xs).1, .bool (majS xs).2]) ∧ Below w.heap.size w w' := by
  have hlen := hr.1
  have hb := plG_bound xs
  have HP := Plural_any A c xs w hr
  obtain ⟨v, m, hp⟩ : ∃ v m, plG (runsOf (srt xs)) = (v, m) := ⟨_, _, rfl⟩
  rw [hp] at HP hb
  have HM := Lib.hid (show majS xs = if decide (2 * m ≤ xs.length) = true then (0, false) else (v, true) by unfold majS; rw [hp])
  have HP' := Lib.hid HP
  clear HP hp hr
  dsimp only at hb
  cases e1 : decide (2 * m ≤ xs.length)
  · have E := Lib.hid e1
    have e2 : ¬ ((m : Int) ≤ xs.length - m) := by simp at e1; omega
    clear e1
    go_enter Try.func18, Try.ntmps18
    go_wp2_with (go_at_call 16; refine HP'.out.mono ?_; rintro e w' ⟨rfl, hb1⟩)
    go_ret2
    rw [HM.out, E.out]
    exact ⟨rfl, hb1⟩
  · have E := Lib.hid e1
    have e2 : ((m : Int) ≤ xs.length - m) := by simp at e1; omega
    clear e1
    go_enter Try.func18, Try.ntmps18
    go_wp2_with (go_at_call 16; refine HP'.out.mono ?_; rintro e w' ⟨rfl, hb1⟩)
    go_ret2
    rw [HM.out, E.out]
    exact ⟨rfl, hb1⟩

/-- slices.Sorted(slices.Values(l)) in a plain walk. -/
theorem sortedV_any (A : Option Addr) (c : Nat) (xs : List Int) (w : World) (hr : RdI w A xs) :
    Calls Try.prog 23 #[.func (.func 33) #[] #[.pointer (some ⟨w.heap.size, 0, none⟩)]] (w.alloc (.cells #[.slice A xs.length c] 22)) fun e W' => ∃ v, e = .returned v ∧ W'.ownsRow w.heap.size 3 1 v xs.length ((srt xs).map (Value.int .i64)) ∧ Below w.heap.size w W' := by
  refine ((callsIn_wide (n := 20)).1 (sortedV_in 20 (by omega) A c xs w.heap.size w _ (by simp) ((Below.refl _ w).alloc (Nat.le_refl _) _) (by simp) hr)).mono ?_
  rintro e w' ⟨v, he, ho, hb⟩
  exact ⟨v, he, own_lower ho (by simp), ((Below.refl _ w).alloc (Nat.le_refl _) _).trans (hb.mono (by simp))⟩

def medS (xs : List Int) : Int × Bool := if xs = [] then (0, false) else (nth (srt xs) ((xs.length - 1) / 2), true)
set_option maxHeartbeats 1000000 in
theorem Median_any (A : Option Addr) (c : Nat) (xs : List Int) (w : World) (hr : RdI w A xs) :
    Calls Try.prog 9 #[.slice A xs.length c] w fun e w' => e = .returned (.tuple #[.int .i64 (medS xs).1, .bool (medS xs).2]) ∧ Below w.heap.size w w' := by
  have hlen := hr.1
  have HS := Lib.hid (sortedV_any A c xs w hr)
  have hsl := srt_len xs
  by_cases h0 : xs.length = 0
  · have HM := Lib.hid (show medS xs = (0, false) by unfold medS; rw [if_pos (List.eq_nil_of_length_eq_zero h0)])
    have e0 : ((xs.length : Int) == 0) = true := beq_iff_eq.2 (by omega)
    clear h0 hr hsl
    go_enter Try.func9, Try.ntmps9
    go_wp2
    go_ret2
    rw [HM.out]
    exact ⟨rfl, Below.refl _ _⟩
  · have HM := Lib.hid (show medS xs = (nth (srt xs) ((xs.length - 1) / 2), true) by unfold medS; rw [if_neg (by rintro rfl; exact h0 rfl)])
    have e0 : ((xs.length : Int) == 0) = false := beq_eq_false_iff_ne.2 (by omega)
    have hp : 0 < xs.length := by omega
    have HL := Lib.hid hsl
    clear h0 hr hsl
    go_enter Try.func9, Try.ntmps9
    go_wp2_with (first
      | (go_at_call 24; refine (values_any _ _ _ _).mono ?_; rintro e w' ⟨rfl, rfl⟩)
      | (go_at_call 23; refine HS.out.mono ?_; rintro e W2 ⟨v, rfl, hown, hb2⟩
         obtain ⟨A2, c2, rfl, hc2, hrd⟩ := own_rd2 hown
         obtain ⟨ad, rfl, _, hcell⟩ := hrd ((xs.length - 1) / 2) (by rw [HL.out]; omega)
         clear hrd hown))
    go_ret2
    rw [HM.out]
    exact ⟨rfl, hb2⟩

def trimG (xs : List Int) (f : Int) : Int × Int × Bool := if trimOk xs f = true then (nth (srt xs) f.toNat, nth (srt xs) (xs.length - 1 - f).toNat, true) else (0, 0, false)
set_option maxHeartbeats 1000000 in
theorem Trim_any (A : Option Addr) (c : Nat) (xs : List Int) (f : Int) (w : World) (hr : RdI w A xs) (hf1 : -9223372036854775808 ≤ f) (hf2 : f ≤ 9223372036854775807) :
    Calls Try.prog 10 #[.slice A xs.length c, .int .i64 f] w fun e w' => e = .returned (.tuple #[.int .i64 (trimG xs f).1, .int .i64 (trimG xs f).2.1, .bool (trimG xs f).2.2]) ∧ Below w.heap.size w w' := by
  have hlen := hr.1
  have HS := Lib.hid (sortedV_any A c xs w hr)
  have HL := Lib.hid (srt_len xs)
  clear hr
  by_cases h1 : f < 0
  · have HF := Lib.hid (show trimG xs f = (0, 0, false) by simp [trimG, trimOk]; omega)
    go_enter Try.func10, Try.ntmps10
    go_wp2
    go_ret3
    rw [HF.out]
    exact ⟨rfl, Below.refl _ _⟩
  · by_cases h2 : (xs.length : Int) < f
    · have HF := Lib.hid (show trimG xs f = (0, 0, false) by simp [trimG, trimOk]; omega)
      go_enter Try.func10, Try.ntmps10
      go_wp2
      go_ret3
      rw [HF.out]
      exact ⟨rfl, Below.refl _ _⟩
    · by_cases h3 : (xs.length : Int) - f ≤ f
      · have HF := Lib.hid (show trimG xs f = (0, 0, false) by simp [trimG, trimOk]; omega)
        go_enter Try.func10, Try.ntmps10
        go_wp2
        go_ret3
        rw [HF.out]
        exact ⟨rfl, Below.refl _ _⟩
      · have HF := Lib.hid (show trimG xs f = (nth (srt xs) f.toNat, nth (srt xs) (xs.length - 1 - f).toNat, true) by simp [trimG, trimOk]; omega)
        go_enter Try.func10, Try.ntmps10
        go_wp2_with (first
          | (go_at_call 24; refine (values_any _ _ _ _).mono ?_; rintro e w' ⟨rfl, rfl⟩)
          | (go_at_call 23; refine HS.out.mono ?_; rintro e W2 ⟨v, rfl, hown, hb2⟩
             obtain ⟨A2, c2, rfl, hc2, hrd⟩ := own_rd2 hown
             obtain ⟨ad, rfl, _, hcell⟩ := hrd f.toNat (by rw [HL.out]; omega)
             obtain ⟨ad', e', _, hcell2⟩ := hrd (xs.length - 1 - f).toNat (by rw [HL.out]; omega)
             cases e'
             clear hrd hown))
        go_quiet (fail)
        go_wp2
        go_ret3
        rw [HF.out]
        exact ⟨rfl, bl_drewN hb2 _⟩
end Go.Proofs.Ytnjdbohhmjolgaa
