/- vote.Agree, walked. -/
import Derived.Laws.EntriesVeiled
import Derived.Test.YtnjdbohhmjolgaaVg
set_option linter.unusedVariables false
set_option linter.unusedSimpArgs false
namespace Go.Proofs.Ytnjdbohhmjolgaa
open Go.RowKit Go.Proofs.Rt Go.Shelf

theorem apart_no (lo v : Int) (h : ¬ lo ≤ v) (tol : Int) : within lo v tol = false := by simp [within]; omega
set_option maxHeartbeats 1000000 in
theorem part_any (B2 B3 : Nat) (A : Option Addr) (c : Nat) (xs : List Int) (tol least : Int) (w : World) (hr : RdI w A xs) (ht : 0 ≤ tol) (ht2 : tol ≤ 9223372036854775807)
    (hl1 : -9223372036854775808 ≤ least) (hl2 : least ≤ 9223372036854775807)
    (hc2 : w.cell? ⟨B2, 0, none⟩ = some (.slice A xs.length c)) (hc3 : w.cell? ⟨B3, 0, none⟩ = some (.int .i64 tol)) :
    Calls Try.prog 28 #[.int .i64 least, .pointer (some ⟨B2, 0, none⟩), .pointer (some ⟨B3, 0, none⟩)] w fun e w' => ∃ v, e = .returned v ∧ w'.ownsRow w.heap.size 3 1 v (partS xs least tol xs.length).length (ints (partS xs least tol xs.length)) ∧ Below w.heap.size w w' := by
  have hlen := hr.1
  have HR := Lib.hid hr
  have HC3 := Lib.hid hc3
  clear hr hc3
  go_enter Try.func28, Try.ntmps28
  go_wp2
  go_loopw [5, 10] (fun p i wr => ∃ j : Nat, j ≤ xs.length ∧ i = .int .i64 j ∧ wr.ownsRow w.heap.size 3 1 p (partS xs least tol j).length (ints (partS xs least tol j)) ∧ Below w.heap.size w wr) (fun _ i _ => xs.length - (intOf i).toNat)
  case atStart => exact ⟨0, Nat.zero_le _, rfl, World.ownsRow_nil w w.heap.size 3 1, Below.refl _ _⟩
  case round =>
    obtain ⟨j, hj, rfl, hop, hb⟩ := hrel
    have hpl := partS_le xs least tol j
    by_cases hjl : j < xs.length
    · obtain ⟨ad, rfl, hd0⟩ := HR.out.2.1 j hjl
      have hd := bl_cell hb hd0
      have h3 := bl_cell hb HC3.out
      have r1 := HR.out.2.2 j hjl
      clear hd0
      have HP := Lib.hid (partS_succ xs least tol j)
      have HOP := Lib.hid hop
      have HB := Lib.hid hb
      clear hop hb
      by_cases h1 : least ≤ nth xs j
      · have HA := Lib.hid (fun W => apart_any least (nth xs j) W hl1 hl2 r1.1 r1.2 h1)
        have d1 : decide (least ≤ nth xs j) = true := decide_eq_true h1
        by_cases h2 : nth xs j - least ≤ tol
        · have E := Lib.hid (show within least (nth xs j) tol = true by simp [within, h1, h2])
          go_wp2
          go_quiet ((go_at_call 29; exact Calls.quiet_of_same (HA.out _)))
          go_wp2_with (at_builtin; refine app1 w.heap.size rfl _ _ 22 3 (.int .i64 0) 1 8 rfl Try.underlying22 Try.info3 rfl (by decide) (by decide) _ _ _ [.int .i64 j] rfl rfl rfl (by simp [Value.oneCell']) (own_drewN HOP.out _) HB.out.size (by omega) ?_; intro v1 w1 hown1 hg1 hne1; clear hne1)
          have HOP1 := Lib.hid hown1
          have HB3 := Lib.hid (bl_own (bl_drewN HB.out _) HOP.out hg1 (Nat.le_refl _) HB.out.size)
          clear hown1 hg1
          go_wp2
          go_roundw
          case rel => exact ⟨j + 1, by omega, by go_num, by rw [HP.out, E.out]; simpa [ints] using HOP1.out, HB3.out⟩
          case measure => simp [intOf]; omega
        · have E := Lib.hid (show within least (nth xs j) tol = false by simp [within, h1, h2])
          go_wp2
          go_quiet ((go_at_call 29; exact Calls.quiet_of_same (HA.out _)))
          go_wp2
          go_roundw
          case rel => exact ⟨j + 1, by omega, by go_num, by rw [HP.out, E.out]; simpa using own_drewN HOP.out _, bl_drewN HB.out _⟩
          case measure => simp [intOf]; omega
      · have E := Lib.hid (apart_no least (nth xs j) h1 tol)
        have d1 : decide (least ≤ nth xs j) = false := decide_eq_false h1
        go_wp2
        go_quiet (fail)
        go_wp2
        go_roundw
        case rel => exact ⟨j + 1, by omega, by go_num, by rw [HP.out, E.out]; simpa using own_drewN HOP.out _, bl_drewN HB.out _⟩
        case measure => simp [intOf]; omega
    · obtain rfl : j = xs.length := by omega
      go_wp2
      go_ret
      exact ⟨_, rfl, hop, hb⟩

theorem boxed_below {W W2 : World} {B : Nat} {t : TypeId} {v : Value} (h : Boxed W B t v) (hb : Below W.heap.size W W2) : Boxed W2 B t v := (hb.block B h.lt).trans h
theorem ko_below {W W2 : World} (hb : Below W.heap.size W W2) : KeepsOthers W W2 := ⟨hb.size, fun k o h _ => (hb.block k (Array.getElem?_eq_some_iff.1 h).1).trans h⟩
def agGStep (xs : List Int) (tol : Int) (best : List Nat) (r : Int × Nat) : List Nat := if decide ((partS xs r.1 tol xs.length).length ≤ best.length) = true then best else partS xs r.1 tol xs.length
def agG (xs : List Int) (tol : Int) (rs : List (Int × Nat)) : List Nat := rs.foldl (agGStep xs tol) []
theorem agG_snoc (xs : List Int) (tol : Int) (rs : List (Int × Nat)) (r : Int × Nat) : agG xs tol (rs ++ [r]) = agGStep xs tol (agG xs tol rs) r := by simp [agG]
theorem agG_le (xs : List Int) (tol : Int) (rs : List (Int × Nat)) : (agG xs tol rs).length ≤ xs.length := by
  unfold agG
  suffices h : ∀ s : List Nat, s.length ≤ xs.length → (rs.foldl (agGStep xs tol) s).length ≤ xs.length from h [] (Nat.zero_le _)
  induction rs with
  | nil => exact fun s h => h
  | cons y ys ih =>
    intro s h
    refine ih _ ?_
    unfold agGStep
    split
    · exact h
    · exact partS_le _ _ _ _

section
attribute [local go_sem] Oper.semAt_some
set_option maxRecDepth 100000 in
set_option maxHeartbeats 4000000 in
theorem Agree_none (A : Option Addr) (c : Nat) (xs : List Int) (tol : Int) (w : World) (ht : tol < 0) :
    Calls Try.prog 19 #[.slice A xs.length c, .int .i64 tol] w fun e w' => e = .returned (.slice none 0 0) ∧ Below w.heap.size w w' := by
  refine (callsIn_wide (n := 30)).1 ?_
  refine callsIn_of_wp_marks Try.func19 rfl trivial ?_ rfl
  simp only [Try.ntmps19, List.size_toArray, List.length_cons, List.length_nil, Nat.reduceAdd, Nat.reduceSub, Array.replicate_succ, Array.replicate_zero, List.push_toArray, List.append_toArray, List.nil_append, List.cons_append]
  gi_wp2
  refine wpIn_scope ?_
  gi_wp2
  exact ⟨_, results_tmp rfl _ _ _, rfl, ((Below.refl _ w).alloc (Nat.le_refl _) _).alloc (by simp) _⟩

set_option maxRecDepth 100000 in
set_option maxHeartbeats 4000000 in
theorem Agree_any (A : Option Addr) (c : Nat) (xs : List Int) (tol : Int) (w : World) (hr : RdI w A xs) (ht : 0 ≤ tol) (ht2 : tol ≤ 9223372036854775807) :
    Calls Try.prog 19 #[.slice A xs.length c, .int .i64 tol] w fun e w' => ∃ v, e = .returned v ∧ w'.ownsRow w.heap.size 3 1 v (agG xs tol (runsOf (srt xs))).length (ints (agG xs tol (runsOf (srt xs)))) ∧ Below w.heap.size w w' := by
  have HR := Lib.hid hr
  have HCL := Lib.hid (runs_clip _ (srt xs) (Nat.le_refl _) (srt_clip hr))
  refine (callsIn_wide (n := 30)).1 ?_
  refine callsIn_of_wp_marks Try.func19 rfl trivial ?_ rfl
  simp only [Try.ntmps19, List.size_toArray, List.length_cons, List.length_nil, Nat.reduceAdd, Nat.reduceSub, Array.replicate_succ, Array.replicate_zero, List.push_toArray, List.append_toArray, List.nil_append, List.cons_append]
  gi_wp2
  refine wpIn_scope ?_
  gi_wp2
  refine wpIn_label ?_
  gi_wp2_with (refine ⟨trivial, ?_⟩; gi_at_call 27; refine (callsIn_wide.2 (runs_any _ _ _ _)).mono ?_; rintro e w' ⟨rfl, rfl⟩)
  obtain ⟨fv, hfv⟩ : ∃ fv, Value.func (Fn.func 28) #[] #[.pointer (some ⟨w.heap.size, 0, none⟩), .pointer (some ⟨w.heap.size + 1, 0, none⟩)] = fv := ⟨_, rfl⟩
  have b2 := Boxed.new w 22 (.slice A xs.length c)
  have b3 := Boxed.new (w.alloc (.cells #[.slice A xs.length c] 22)) 3 (.int .i64 tol)
  have b5 := Boxed.new ((w.alloc (.cells #[.slice A xs.length c] 22)).alloc (.cells #[.int .i64 tol] 3)) 22 (.slice none 0 0)
  have b6 := Boxed.new (((w.alloc (.cells #[.slice A xs.length c] 22)).alloc (.cells #[.int .i64 tol] 3)).alloc (.cells #[.slice none 0 0] 22)) 51 fv
  have b7 := Boxed.new ((((w.alloc (.cells #[.slice A xs.length c] 22)).alloc (.cells #[.int .i64 tol] 3)).alloc (.cells #[.slice none 0 0] 22)).alloc (.cells #[fv] 51)) 22 (.slice A xs.length c)
  have hB0 : Below w.heap.size w (((((w.alloc (.cells #[.slice A xs.length c] 22)).alloc (.cells #[.int .i64 tol] 3)).alloc (.cells #[.slice none 0 0] 22)).alloc (.cells #[fv] 51)).alloc (.cells #[.slice A xs.length c] 22)) :=
    (((((Below.refl _ w).alloc (Nat.le_refl _) _).alloc (by simp) _).alloc (by simp; omega) _).alloc (by simp; omega) _).alloc (by simp; omega) _
  simp only [World.size_alloc] at b3 b5 b6 b7
  rw [hfv]
  refine wpIn_rangeFunc_ownF (n := 30) rfl (by omega) (gf := 34) (lb := #[.pointer (some ⟨w.heap.size + 4, 0, none⟩)]) rfl trivial (enters_of Try.func34 (by kernel_rfl) rfl)
    (runs_stops 29 (by omega) (w.heap.size + 4) A c xs w _ (fun b => b = w.heap.size + 2) (by intro b hb; simp; omega) (by simp) hB0 b7.cell HR.out) KeepT.trans keepT_b (Below.refl _ _) (fun _ => rfl)
    (fun pre W => ((Boxed W w.heap.size 22 (.slice A xs.length c) ∧ Boxed W (w.heap.size + 1) 3 (.int .i64 tol)) ∧ (Boxed W (w.heap.size + 3) 51 fv ∧ ∃ v, Boxed W (w.heap.size + 2) 22 v ∧ W.ownsRow w.heap.size 3 1 v (agG xs tol (pre.map clipR)).length (ints (agG xs tol (pre.map clipR))) ∧ True)) ∧ Below w.heap.size w W)
    (fun _ _ _ => False)
    (OwnFrom.and (OwnFrom.and (OwnFrom.and (Own.from (boxed_own _ _ _) _) (Own.from (boxed_own _ _ _) _)) (OwnFrom.and (Own.from (boxed_own _ _ _) _) (Own.from (holdsRow_own w.heap.size (w.heap.size + 2) 22 3 1 (fun pre : List (Int × Nat) => (agG xs tol (pre.map clipR)).length) (fun pre : List (Int × Nat) => ints (agG xs tol (pre.map clipR))) (fun _ _ => True)) _))) (ownFrom_below (Nat.le_refl _) (by simp; omega)))
    (fun _ _ _ _ _ hs _ _ => hs)
    ⟨⟨⟨(((b2.alloc _).alloc _).alloc _).alloc _, ((b3.alloc _).alloc _).alloc _⟩, ⟨b6.alloc _, _, (b5.alloc _).alloc _, World.ownsRow_nil _ _ _ _, trivial⟩⟩, hB0⟩
    (fun x => { tmps := #[.slice A xs.length c, .int .i64 tol, .pointer (some ⟨w.heap.size, 0, none⟩), .pointer (some ⟨w.heap.size + 1, 0, none⟩), .slice none 0 0, .pointer (some ⟨w.heap.size + 2, 0, none⟩), .pointer (some ⟨w.heap.size + 3, 0, none⟩), .int .i64 (clip x.1), undef, .int .i64 tol, .bool (decide (tol < 0)), fv, .slice A xs.length c, .func (.func 34) #[] #[.pointer (some ⟨w.heap.size + 4, 0, none⟩)], .int .i64 (clip x.1), .int .i64 x.2, undef, undef, undef, undef, undef, undef, undef, undef, undef, undef], defers := [] }) ?assign ?body ?done ?stop
  case assign =>
    intro l x W K hK
    gi_wp2
    exact hK
  case body =>
    rintro l pre x W ⟨⟨⟨h2, h3⟩, h6, v, hv, hrow, _⟩, hB⟩ hlt
    have hs := agG_snoc xs tol (pre.map clipR) (clipR x)
    have hbl := agG_le xs tol (pre.map clipR)
    obtain ⟨bs, hbs⟩ : ∃ bs, agG xs tol (pre.map clipR) = bs := ⟨_, rfl⟩
    rw [hbs] at hs hrow hbl
    obtain ⟨x1, x2⟩ := x
    have hx := clip_in x1
    obtain ⟨y, hy⟩ : ∃ y, clip x1 = y := ⟨_, rfl⟩
    have hcr : clipR (x1, x2) = (y, x2) := by unfold clipR; rw [hy]
    rw [hcr] at hs
    rw [hy] at hx ⊢
    obtain ⟨A1, c1, rfl, hc1, _⟩ := own_reads hrow
    have HC := Lib.hid hcr
    have HS := Lib.hid hs
    have hpl := partS_le xs y tol xs.length
    have k2 := h2.cell
    have k3 := h3.cell
    have k6 := h6.cell
    have kv := hv.cell
    have fv5 := hv.frozen
    rw [← hfv] at k6
    have HPC := Lib.hid (part_any w.heap.size (w.heap.size + 1) A c xs tol y W (HR.out.below hB) ht ht2 hx.1 hx.2 k2 k3)
    have HF := Lib.hid hfv
    have HH := Lib.hid (And.intro h2 (And.intro h3 (And.intro h6 (And.intro hv (And.intro hrow hB)))))
    clear hcr hs hbs hy hx h2 h3 h6 hv hrow hB k2 k3 b2 b3 b5 b6 b7 hB0 hfv
    cases e1 : decide ((partS xs y tol xs.length).length ≤ bs.length)
    · have E := Lib.hid e1
      have e2 : decide (((partS xs y tol xs.length).length : Int) ≤ bs.length) = decide ((partS xs y tol xs.length).length ≤ bs.length) := by rw [Bool.eq_iff_iff]; simp
      rw [e1] at e2
      gi_wp2_with (refine ⟨trivial, ?_⟩; gi_at_call 28; refine (CallsIn.inRound l (callsIn_wide.2 HPC.out)).mono ?_; rintro e W2 ⟨p, rfl, hop, hb2⟩; have hv2 := boxed_below HH.out.2.2.2.1 hb2; have kv2 := hv2.cell; have fv2 := hv2.frozen; obtain ⟨A3, c3, rfl, hc3, _⟩ := own_reads hop)
      have HO2 := Lib.hid hop
      have HV2 := Lib.hid hv2
      have HB2 := Lib.hid hb2
      refine ⟨(ko_below HB2.out).trans (KeepsOthers.setCell _ _ _), (KeepT.below HB2.out).setCell _ _ rfl, ⟨⟨(boxed_below HH.out.1 HB2.out).other (by omega) _, (boxed_below HH.out.2.1 HB2.out).other (by omega) _⟩, (boxed_below HH.out.2.2.1 HB2.out).other (by omega) _, _, HV2.out.set _, ?_, trivial⟩, ?_⟩
      · rw [List.map_append, List.map_singleton, HC.out, HS.out]; unfold agGStep; dsimp only; rw [E.out]
        refine own_far (own_lower HO2.out HH.out.2.2.2.2.2.size) _ _ ?_
        intro g hg
        have := (HO2.out.lt g hg).1
        have := HH.out.2.2.2.1.lt
        dsimp only
        omega
      · exact (HH.out.2.2.2.2.2.trans (HB2.out.mono HH.out.2.2.2.2.2.size)).setCell (p := ⟨w.heap.size + 2, 0, none⟩) (by simp) _
    · have E := Lib.hid e1
      have e2 : decide (((partS xs y tol xs.length).length : Int) ≤ bs.length) = decide ((partS xs y tol xs.length).length ≤ bs.length) := by rw [Bool.eq_iff_iff]; simp
      rw [e1] at e2
      gi_wp2_with (refine ⟨trivial, ?_⟩; gi_at_call 28; refine (CallsIn.inRound l (callsIn_wide.2 HPC.out)).mono ?_; rintro e W2 ⟨p, rfl, hop, hb2⟩; have hv2 := boxed_below HH.out.2.2.2.1 hb2; have kv2 := hv2.cell; have fv2 := hv2.frozen; obtain ⟨A3, c3, rfl, hc3, _⟩ := own_reads hop)
      have HB2 := Lib.hid hb2
      refine ⟨ko_below HB2.out, KeepT.below HB2.out, ⟨⟨boxed_below HH.out.1 HB2.out, boxed_below HH.out.2.1 HB2.out⟩, boxed_below HH.out.2.2.1 HB2.out, _, boxed_below HH.out.2.2.2.1 HB2.out, ?_, trivial⟩, HH.out.2.2.2.2.2.trans (HB2.out.mono HH.out.2.2.2.2.2.size)⟩
      rw [List.map_append, List.map_singleton, HC.out, HS.out]; unfold agGStep; dsimp only; rw [E.out]
      exact own_below HH.out.2.2.2.2.1 HB2.out
  case done =>
    rintro D ys W hD rfl ⟨⟨_, _, v, hv, hrow, _⟩, hB⟩ hK
    rw [HCL.out] at hrow
    have hc := hv.cell
    gi_wp2
    refine ⟨by simp, .inl ⟨_, _, rfl, run_takeDeferred hK, ?_⟩⟩
    exact ⟨_, results_tmp rfl _ _ _, v, rfl, ownsRow_putObj hrow _ hK rfl, hB.trans (belowK_b (w := w) (Nat.le_refl _) W D _ _ (by simp at hD; omega) hK rfl rfl)⟩
  case stop =>
    rintro D c pre W _ _ h _
    exact h.elim
end
end Go.Proofs.Ytnjdbohhmjolgaa
