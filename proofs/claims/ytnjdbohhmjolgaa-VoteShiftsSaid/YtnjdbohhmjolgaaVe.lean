/- vote.runs, walked: an iterator over the runs of the sorted numbers. -/
import Derived.Sort.QuietIn
import Derived.Sort.BigQuietIn
import Derived.Test.YtnjdbohhmjolgaaVd
set_option linter.unusedVariables false
set_option linter.unusedSimpArgs false
namespace Go.Proofs.Ytnjdbohhmjolgaa
open Go.RowKit Go.Proofs.Rt Go.Shelf
attribute [local go_sem] Oper.semAt_some

set_option maxHeartbeats 1000000 in
theorem runs_any (A : Option Addr) (n c : Nat) (w : World) :
    Calls Try.prog 27 #[.slice A n c] w fun e w' => e = .returned (.func (.func 34) #[] #[.pointer (some ⟨w.heap.size, 0, none⟩)]) ∧ w' = w.alloc (.cells #[.slice A n c] 22) := by
  go_enter Try.func27, Try.ntmps27
  go_wp2
  go_ret
  exact ⟨rfl, rfl⟩

/-- A slice of numbers in a block from B on. -/
def Rd2 (B : Nat) (w : World) (A : Option Addr) (xs : List Int) : Prop := ∀ k : Nat, k < xs.length → ∃ ad : Addr, A = some ad ∧ B ≤ ad.block ∧ w.cell? (ad.add k) = some (.int .i64 (nth xs k))
theorem add_block (ad : Addr) (k : Nat) : (ad.add k).block = ad.block := by unfold Addr.add; split <;> rfl
theorem add_add (ad : Addr) (j k : Nat) : (ad.add j).add k = ad.add (j + k) := by
  unfold Addr.add
  by_cases h1 : j = 0 <;> by_cases h2 : k = 0 <;> simp [h1, h2, Nat.add_assoc]
theorem Rd2.keep {B : Nat} {T : Nat → Prop} {w w1 : World} {A : Option Addr} {xs : List Int} (h : Rd2 B w A xs) (hk : KeepT T w w1) (hT : ∀ b, T b → b < B) : Rd2 B w1 A xs := fun k hk' => by
  obtain ⟨ad, e, hb, hc⟩ := h k hk'
  exact ⟨ad, e, hb, hk.cell hc (fun t => by have := hT _ t; rw [add_block] at this; omega)⟩
theorem Rd2.drop {B : Nat} {w : World} {ad : Addr} {xs : List Int} (h : Rd2 B w (some ad) xs) (n : Nat) : Rd2 B w (some (ad.add n)) (xs.drop n) := fun k hk => by
  obtain ⟨ad', e, hb, hc⟩ := h (n + k) (by simp at hk; omega)
  cases e
  exact ⟨_, rfl, by rw [add_block]; exact hb, by rw [add_add, hc, nth_drop]⟩
theorem own_rd2 {w : World} {base n : Nat} {e : TypeId} {v : Value} {xs : List Int} (h : w.ownsRow base e 1 v n (xs.map (Value.int .i64))) :
    ∃ A c, v = .slice A n c ∧ n ≤ c ∧ Rd2 base w A xs := by
  obtain ⟨A, c, hv, hc, hr⟩ := own_reads h
  refine ⟨A, c, hv, hc, fun k hk => ?_⟩
  obtain ⟨g, rfl, hb, _, hcell, _⟩ := hr k (by simpa using hk)
  refine ⟨_, rfl, hb, ?_⟩
  have : (⟨g, 0, none⟩ : Addr).add k = ⟨g, k, none⟩ := by unfold Addr.add; split <;> simp_all
  rw [this, hcell, nth_eq xs k hk]
  simp
def lenOf : Value → Nat
  | .slice _ n _ => n
  | _ => 0
theorem own_cap {w : World} {base n size : Nat} {e : TypeId} {A : Option Addr} {c m : Nat} {xs : List Value} (h : w.ownsRow base e size (.slice A m c) n xs) : c ≤ 9223372036854775807 := by
  rcases h.2 with ⟨h1, _⟩ | ⟨g, cap, cur, h1, _, _, _, h2, _⟩
  · cases h1; omega
  · cases h1; simpa [maxLen] using h2

/-- A number of the kind int: itself. -/
def clip (x : Int) : Int := if -9223372036854775808 ≤ x ∧ x ≤ 9223372036854775807 then x else 0
theorem clip_in (x : Int) : -9223372036854775808 ≤ clip x ∧ clip x ≤ 9223372036854775807 := by unfold clip; split <;> omega
theorem clip_id {x : Int} (h1 : -9223372036854775808 ≤ x) (h2 : x ≤ 9223372036854775807) : clip x = x := by unfold clip; rw [if_pos ⟨h1, h2⟩]
def clipR (r : Int × Nat) : Int × Nat := (clip r.1, r.2)
theorem srt_clip {w : World} {A : Option Addr} {xs : List Int} (hr : RdI w A xs) : ∀ x ∈ srt xs, clip x = x := fun x hx => by
  have hm := (srt_perm xs).mem_iff.1 hx
  obtain ⟨j, hj, rfl⟩ := List.mem_iff_getElem.1 hm
  have := hr.2.2 j hj
  rw [nth_eq xs j hj] at this
  exact clip_id this.1 this.2
theorem runs_clip : ∀ (m : Nat) (xs : List Int), xs.length ≤ m → (∀ x ∈ xs, clip x = x) → (runsOf xs).map clipR = runsOf xs := by
  intro m
  induction m with
  | zero =>
    intro xs h _
    have : xs = [] := List.eq_nil_of_length_eq_zero (by omega)
    subst this
    rw [runsOf_nil]; rfl
  | succ m ih =>
    intro xs h hc
    cases xs with
    | nil => rw [runsOf_nil]; rfl
    | cons x l =>
      rw [runsOf_cons, List.map_cons, ih _ (by simp at h ⊢; omega) (fun y hy => hc y (List.mem_cons_of_mem _ (List.mem_of_mem_drop hy)))]
      unfold clipR
      rw [hc x (List.mem_cons_self ..)]

set_option maxRecDepth 100000 in
set_option maxHeartbeats 4000000 in
theorem runs1_in (n : Nat) (hn : 8 ≤ n) (l B : Nat) (A : Option Addr) (c : Nat) (xs S : List Int) (hS : srt xs = S) (w0 w : World) (T : Nat → Prop) (hT : ∀ b, T b → b < w.heap.size) (J Jx : List (Int × Nat) → World → Prop)
    (W : World) (hW : Below w.heap.size w W) (hJ : AbidesFrom W.heap.size J)
    (hY : ∀ pre x W, J pre W → pre.length < (runsOf S).length → YieldAt WF (n - 1) Try.prog l #[.int .i64 (clip x.1), .int .i64 (x.2 : Int)] W fun e W' =>
      (e = .returned (.bool true) ∧ J (pre ++ [x]) W' ∧ KeepT T W W') ∨ (e = .returned (.bool false) ∧ Jx (pre ++ [x]) W'))
    (hB : B < w.heap.size) (hw : Below w0.heap.size w0 w) (hBs : w.cell? ⟨B, 0, none⟩ = some (.slice A xs.length c)) (hr : RdI w0 A xs) (h0 : J [] W) :
    CallsIn WF n Try.prog 34 #[.func (.yield l) #[] #[], .pointer (some ⟨B, 0, none⟩)] W fun e W' => (∃ v, e = .returned v) ∧
      ((∃ ys, ys = runsOf S ∧ J ys W') ∨ (∃ pre, pre <+: runsOf S ∧ Jx pre W')) := by
  have hlen := hr.1
  have HR := Lib.hid hr
  have hBW := (hW.cell (p := ⟨B, 0, none⟩) hB).trans hBs
  have HW := Lib.hid (hw.trans (hW.mono hw.size))
  have hwW := hW.size
  have hsl := Lib.hid (srt_len xs)
  have HCL : Hid (∀ x ∈ S, clip x = x) := by rw [← hS]; exact srt_clip hr
  have HS := Lib.hid hS
  clear hr hBs hw hW hS
  refine callsIn_of_wp Try.func34 rfl trivial ?_ rfl
  simp only [Try.ntmps34, List.size_toArray, List.length_cons, List.length_nil, Nat.reduceAdd, Nat.reduceSub, Array.replicate_succ, Array.replicate_zero, List.push_toArray, List.append_toArray, List.nil_append, List.cons_append]
  gi_wp2_with (first
    | (refine ⟨trivial, fun _ => by omega, ?_⟩; gi_at_call 24; refine (callsIn_wide.2 (values_any _ _ _ _)).mono ?_; rintro e w' ⟨rfl, rfl⟩)
    | (refine ⟨trivial, fun _ => by omega, ?_⟩; gi_at_call 23; refine (sortedV_in (n - 1) (by omega) A c xs W.heap.size w0 _ (by simp) ((HW.out).trans (((Below.refl _ W).alloc (Nat.le_refl _) _).mono HW.out.size)) (by simp) HR.out).mono ?_; rintro e W2 ⟨v, rfl, hown, hb2⟩))
  have hbW : Below W.heap.size W W2 := ((Below.refl _ W).alloc (Nat.le_refl _) _).trans (hb2.mono (by simp))
  have hJ2 : J [] W2 := hJ [] W W2 none h0 (bl_grown hbW none) (fun r e => by cases e)
  have hcap := hown
  obtain ⟨A2, c2, rfl, hc2, hrd⟩ := own_rd2 hown
  have hcm := own_cap hcap
  simp only [World.size_alloc] at hrd
  have hrd' : Rd2 w.heap.size W2 A2 (srt xs) := fun k hk => by
    obtain ⟨ad, e, hb, hc⟩ := hrd k hk
    exact ⟨ad, e, by omega, hc⟩
  have hl2 := hsl.out
  have HJ := Lib.hid hJ
  clear hown hcap hrd hb2 hbW hJ h0 hBW
  rw [HS.out] at hrd' hl2
  have HJ2 := Lib.hid hJ2
  have HRD := Lib.hid hrd'
  have HL2 := Lib.hid hl2
  clear hJ2 hrd' hl2
  gi_wp2
  gi_loopw [3] (fun v wr => ∃ (pre : List (Int × Nat)) (rest : List Int) (A3 : Option Addr) (c3 : Nat), v = .slice A3 rest.length c3 ∧ rest.length ≤ c3 ∧ c3 ≤ 9223372036854775807 ∧ rest.length ≤ xs.length ∧ runsOf S = pre ++ runsOf rest ∧ J pre wr ∧ Rd2 w.heap.size wr A3 rest ∧ Hid (∀ x ∈ rest, clip x = x)) (fun v _ => lenOf v)
  case atStart => exact ⟨[], S, A2, c2, by rw [HL2.out], by rw [HL2.out]; exact hc2, hcm, by rw [HL2.out]; exact Nat.le_refl _, rfl, HJ2.out, HRD.out, HCL⟩
  case round =>
    obtain ⟨pre, rest, A3, c3, rfl, hr1, hr2, hr3, hpre, hJs, hrd, HCR⟩ := hrel
    have HPRE := Lib.hid hpre
    have HJS := Lib.hid hJs
    clear hpre hJs
    by_cases hne : 0 < rest.length
    · obtain ⟨ad, rfl, had, hh0⟩ := hrd 0 hne
      have HC0 := Lib.hid (HCR.out _ (nth_mem rest 0 hne))
      have HRD := Lib.hid hrd
      clear hrd
      have e0 : ad.add 0 = ad := by simp [Addr.add]
      rw [e0] at hh0
      obtain ⟨wo, rfl⟩ : ∃ wo : World, wo = wr := ⟨_, rfl⟩
      gi_wp2
      gi_loopw [4] (fun x w2 => ∃ m : Nat, x = .int .i64 m ∧ 1 ≤ m ∧ m ≤ rest.length ∧ (∀ j, j < m → nth rest j = nth rest 0) ∧ Drw wo w2) (fun x _ => rest.length - (intOf x).toNat)
      case atStart => exact ⟨1, rfl, Nat.le_refl _, hne, fun j hj => by obtain rfl : j = 0 := by omega
                                                                        rfl, Drw.refl _⟩
      case round =>
        obtain ⟨m, rfl, hm1, hm2, hall, hdr⟩ := hrel
        have HALL := Lib.hid hall
        clear hall
        have HDR := Lib.hid hdr
        by_cases hlt : m < rest.length
        · obtain ⟨ad', e', _, hhm⟩ := HRD.out m hlt
          cases e'
          have c0 := bl_cell hdr.below hh0
          have cm := bl_cell hdr.below hhm
          clear hhm hdr
          have i1 : 0 ≤ (m : Int) := by omega
          have i2 : (m : Int) < rest.length := by omega
          cases e1 : (nth rest m == nth rest 0)
          · have E := Lib.hid e1
            have HEND := Lib.hid (run_ends rest m hm1 hm2 HALL.out (.inr ⟨hlt, by simpa using e1⟩))
            gi_wp2
            gi_quiet (fail)
            obtain ⟨fn, tmps, assign, body, hy, hR⟩ := hY pre (nth rest 0, m) (wr.drewN nq) (HJ.out pre wo _ none HJS.out (bl_grown (HDR.out.step nq).below none) (fun r e => by cases e)) (by rw [HPRE.out, HEND.out]; simp)
            dsimp only at hy
            rw [HC0.out] at hy
            have HR' := Lib.hid hR
            have HY := Lib.hid hY
            clear hY hR
            cases ecap : (m == c3)
            all_goals
              have EC := Lib.hid ecap
              gi_wp2
              refine ⟨fun _ => by omega, HR'.out.mono ?_⟩
              rintro e W3 (⟨rfl, hJ3, hk3⟩ | ⟨rfl, hJx3⟩)
              · have HK3 := Lib.hid hk3
                have HJ3 := Lib.hid hJ3
                clear hk3 hJ3
                gi_wp2
                go_roundw
                case rel => first
                  | exact ⟨pre ++ [(nth rest 0, m)], rest.drop m, some (ad.add m), c3 - m, by simp, by simp; omega, by omega, by simp; omega, by rw [HPRE.out, HEND.out]; simp, HJ3.out, (HRD.out.drop m).keep ((KeepT.below (HDR.out.step nq).below).trans HK3.out) hT, fun x hx => HCR.out x (List.mem_of_mem_drop hx)⟩
                  | (have ec : m = c3 := by simpa using EC.out
                     exact ⟨pre ++ [(nth rest 0, m)], rest.drop m, some ad, c3 - m, by simp, by simp; omega, by omega, by simp; omega, by rw [HPRE.out, HEND.out]; simp, HJ3.out, (fun k hk => by simp at hk; omega), fun x hx => HCR.out x (List.mem_of_mem_drop hx)⟩)
                case measure => simp [lenOf]; omega
              · gi_wp2
                refine bodyPost_ret (results_none rfl _ _ _) rfl ?_
                exact ⟨⟨_, rfl⟩, .inr ⟨_, by rw [HPRE.out, HEND.out]; exact ⟨runsOf (rest.drop m), by simp⟩, hJx3⟩⟩
          · have E := Lib.hid e1
            gi_wp2
            gi_quiet (fail)
            gi_wp2
            go_roundw
            case rel => exact ⟨m + 1, by go_num, by omega, by omega, fun j hj => by
              rcases Nat.lt_or_ge j m with h | h
              · exact HALL.out j h
              · obtain rfl : j = m := by omega
                simpa using E.out, by repeat (first | exact HDR.out | apply Drw.step)⟩
            case measure => simp [intOf]; omega
        · obtain rfl : m = rest.length := by omega
          have e1 : decide (rest.length < rest.length) = false := by simp
          have e2 : decide ((rest.length : Int) < rest.length) = false := by simp
          have HEND := Lib.hid (run_ends rest rest.length hm1 hm2 HALL.out (.inl rfl))
          have c0 := bl_cell hdr.below hh0
          clear hdr
          gi_wp2
          gi_quiet (fail)
          obtain ⟨fn, tmps, assign, body, hy, hR⟩ := hY pre (nth rest 0, rest.length) (wr.drewN nq) (HJ.out pre wo _ none HJS.out (bl_grown (HDR.out.step nq).below none) (fun r e => by cases e)) (by rw [HPRE.out, HEND.out]; simp)
          dsimp only at hy
          rw [HC0.out] at hy
          have HR' := Lib.hid hR
          have HY := Lib.hid hY
          clear hY hR
          cases ecap : (rest.length == c3)
          all_goals
            have EC := Lib.hid ecap
            gi_wp2
            refine ⟨fun _ => by omega, HR'.out.mono ?_⟩
            rintro e W3 (⟨rfl, hJ3, hk3⟩ | ⟨rfl, hJx3⟩)
            · have HK3 := Lib.hid hk3
              have HJ3 := Lib.hid hJ3
              clear hk3 hJ3
              gi_wp2
              go_roundw
              case rel => exact ⟨pre ++ [(nth rest 0, rest.length)], [], _, _, rfl, by simp, by omega, by simp, by rw [HPRE.out, HEND.out]; simp, HJ3.out, (fun k hk => by simp at hk), fun x hx => by cases hx⟩
              case measure => simp [lenOf]; omega
            · gi_wp2
              refine bodyPost_ret (results_none rfl _ _ _) rfl ?_
              exact ⟨⟨_, rfl⟩, .inr ⟨_, by rw [HPRE.out, HEND.out]; exact ⟨runsOf (rest.drop rest.length), by simp⟩, hJx3⟩⟩
    · obtain rfl : rest = [] := List.eq_nil_of_length_eq_zero (by omega)
      gi_wp2
      go_end0
      exact ⟨⟨_, rfl⟩, .inl ⟨_, by rw [HPRE.out, runsOf_nil, List.append_nil], HJS.out⟩⟩

/-- The value that runs hands back yields the runs of the sorted numbers. -/
theorem runs_stops (n : Nat) (hn : 8 ≤ n) (B : Nat) (A : Option Addr) (c : Nat) (xs : List Int) (w0 w : World) (T : Nat → Prop) (hT : ∀ b, T b → b < w.heap.size)
    (hB : B < w.heap.size) (hw : Below w0.heap.size w0 w) (hBs : w.cell? ⟨B, 0, none⟩ = some (.slice A xs.length c)) (hr : RdI w0 A xs) :
    SeqStopsK WF n Try.prog 34 #[.pointer (some ⟨B, 0, none⟩)] (fun x : Int × Nat => #[Value.int .i64 (clip x.1), .int .i64 (x.2 : Int)]) (KeepT T) (fun ys => ys = runsOf (srt xs)) (fun pre => pre <+: runsOf (srt xs)) (runsOf (srt xs)).length w := fun l J Jx W hW hJ _ hY h0 =>
  runs1_in n hn l B A c xs (srt xs) rfl w0 w T hT J Jx W hW hJ hY hB hw hBs hr h0
end Go.Proofs.Ytnjdbohhmjolgaa
