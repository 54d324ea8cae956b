/- The law VoteRight, walked. -/
import Derived.Test.YtnjdbohhmjolgaaVv
set_option linter.unusedSimpArgs false
set_option linter.unusedVariables false
namespace Go.Proofs.Ytnjdbohhmjolgaa
open Go.RowKit Go.Proofs.Rt

theorem right_mid (xs ys : List Int) (q : Nat) (x0 : Int) (T : List Int) (hp : T.Perm (xs ++ ys ++ List.replicate q x0)) (hx0 : x0 ∈ xs) (hlen : xs.length + ys.length + q = 2 * xs.length - 1) (hy : ys.length < xs.length)
    (lo hi : Int) (h : ∀ x ∈ xs, lo ≤ x ∧ x ≤ hi) : lo ≤ nth (srt T) (xs.length - 1) ∧ nth (srt T) (xs.length - 1) ≤ hi := by
  have hk : xs.length - 1 < T.length := by rw [hp.length_eq]; simp; omega
  obtain ⟨a, b⟩ := srt_at T (xs.length - 1) hk
  generalize nth (srt T) (xs.length - 1) = v at a b ⊢
  constructor
  · rcases Int.lt_or_le v lo with hv | hv
    · rw [less_same, hp.countP_eq, List.countP_append, List.countP_append] at b
      have c1 : xs.countP (fun x => decide (x ≤ v)) = 0 := List.countP_eq_zero.2 (fun x hx => by have := (h x hx).1; simp; omega)
      have c2 : (List.replicate q x0).countP (fun x => decide (x ≤ v)) = 0 := List.countP_eq_zero.2 (fun x hx => by have := (h x0 hx0).1; rw [(List.mem_replicate.1 hx).2]; simp; omega)
      have c3 : ys.countP (fun x => decide (x ≤ v)) ≤ ys.length := List.countP_le_length
      omega
    · exact hv
  · rcases Int.lt_or_le hi v with hv | hv
    · unfold lessC at a
      rw [hp.countP_eq, List.countP_append, List.countP_append] at a
      have c1 : xs.countP (fun x => decide (x < v)) = xs.length := List.countP_eq_length.2 (fun x hx => by have := (h x hx).2; simp; omega)
      omega
    · exact hv

theorem trim_mid (T : List Int) (n : Nat) (h0 : 0 < n) (h : T.length = 2 * n - 1) : trimG T ((n : Int) - 1) = (nth (srt T) (n - 1), nth (srt T) (n - 1), true) := by
  unfold trimG
  have e : trimOk T ((n : Int) - 1) = true := by unfold trimOk; simp; omega
  rw [if_pos e, show ((n : Int) - 1).toNat = n - 1 by omega, show ((T.length : Int) - 1 - ((n : Int) - 1)).toNat = n - 1 by omega]
theorem med_mid (T : List Int) (n : Nat) (h0 : 0 < n) (h : T.length = 2 * n - 1) : medS T = (nth (srt T) (n - 1), true) := by
  unfold medS
  rw [if_neg (by rintro rfl; simp at h; omega), show (T.length - 1) / 2 = n - 1 by omega]

def rowLen : Value → Nat
  | .slice _ n _ => n
  | _ => 0

set_option maxHeartbeats 2000000 in
set_option maxRecDepth 100000 in
theorem VoteRight_walk (A : Option Addr) (c : Nat) (xs : List Int) (B : Option Addr) (d : Nat) (ys : List Int) (by' : Int) (w : World) (hr : RdI w A xs) (hA : A = none → c = 0) (hs : RdI w B ys) (hB : B = none → d = 0)
    (hl : xs.length ≤ 100) (h0 : 0 < xs.length) (hy : ys.length < xs.length) (hb1 : -9223372036854775808 ≤ by') (hb2 : by' ≤ 9223372036854775807) :
    Calls Try.prog 6 #[.slice A xs.length c, .slice B ys.length d, .int .i64 by'] w fun e w' => e = .returned (.bool true) ∧ Below w.heap.size w w' := by
  have HR := Lib.hid hr
  have HA := Lib.hid hA
  have HS := Lib.hid hs
  have HB := Lib.hid hB
  have HI := Lib.hid hr.2.2
  clear hr hA hs hB
  have e1 : decide (100 < (xs.length : Int)) = false := decide_eq_false (by omega)
  have e2 : ((xs.length : Int) == 0) = false := beq_eq_false_iff_ne.2 (by omega)
  have e3 : decide ((xs.length : Int) ≤ ys.length) = false := decide_eq_false (by omega)
  have hne : ¬ xs = [] := by rintro rfl; simp at h0
  have h1 : ¬ (xs.length : Int) = 0 := by omega
  have h2 : ¬ (xs.length : Int) ≤ ys.length := by omega
  go_enter Try.func6, Try.ntmps6
  go_wp2_with (first
    | (go_at_call 21; refine (alive_any w).mono ?_; rintro e w1 ⟨rfl, hw1⟩
       have HW1 := Lib.hid hw1
       have HR1 := Lib.hid (HR.out.below hw1)
       have HS1 := Lib.hid (HS.out.below hw1)
       clear hw1
       obtain ⟨ad, rfl, hc0⟩ := HR1.out.2.1 0 h0
       have hc00 : w1.cell? ad = some (Value.int .i64 (nth xs 0)) := (show ad.add 0 = ad by unfold Addr.add; simp) ▸ hc0
       have r0 := HI.out 0 h0))
  go_loop [9, 10, 11] (fun lo hi i => ∃ (k : Nat) (a b : Int), k ≤ xs.length ∧ lo = .int .i64 a ∧ hi = .int .i64 b ∧ i = .int .i64 k ∧ (-9223372036854775808 ≤ a ∧ a ≤ 9223372036854775807) ∧ (-9223372036854775808 ≤ b ∧ b ≤ 9223372036854775807) ∧ ∀ j, j < k → a ≤ nth xs j ∧ nth xs j ≤ b) (fun _ _ i => xs.length - (intOf i).toNat)
  case atStart => exact ⟨0, nth xs 0, nth xs 0, Nat.zero_le _, rfl, rfl, rfl, r0, r0, fun j hj => by omega⟩
  case round =>
    obtain ⟨k, a, b, hk, rfl, rfl, rfl, ra, rb, hall⟩ := hrel
    have HALL := Lib.hid hall
    clear hall
    by_cases hlt : k < xs.length
    · obtain ⟨ad', e, hd⟩ := HR1.out.2.1 k hlt
      injection e with e
      subst e
      have r1 := HI.out k hlt
      go_wp2
      go_round
      case rel =>
        exact ⟨k + 1, min a (nth xs k), max b (nth xs k), by omega, rfl, rfl, by go_num, by omega, by omega, fun j hj => by
          rcases Nat.lt_or_ge j k with h | h
          · have := HALL.out j h; omega
          · have : j = k := by omega
            subst this; omega⟩
      case measure => simp [intOf]; omega
    · have hk' : k = xs.length := by omega
      subst hk'
      have TOK : True := trivial
      go_wp2_with (first
        | (at_builtin; refine (fun _ => appAll w.heap.size rfl _ _ 22 3 rfl Try.underlying22 Try.info3 _ 0 [] (some ad) c xs rfl rfl (by simp) HR1.out (World.ownsRow_nil _ _ _ _) HW1.out.size (by omega) ?_) TOK
           clear TOK
           intro v2 w2 hown hg
           have HO := Lib.hid (show w2.ownsRow w.heap.size 3 1 v2 xs.length (xs.map (Value.int .i64)) by simpa using hown)
           have HW2 := Lib.hid (show Below w.heap.size w w2 from HW1.out.grown hg HW1.out.size (fun k hk => by cases hk))
           clear hown hg)
        | (at_builtin; refine appAll w.heap.size rfl _ _ 22 3 rfl Try.underlying22 Try.info3 _ xs.length (xs.map (Value.int .i64)) B d ys rfl rfl HB.out (HS.out.below HW2.out) HO.out HW2.out.size (by omega) ?_
           intro v3 w3 hown hg
           have HO3 := Lib.hid (show w3.ownsRow w.heap.size 3 1 v3 (xs.length + ys.length) ((xs ++ ys).map (Value.int .i64)) by simpa using hown)
           have HW3 := Lib.hid (show Below w.heap.size w w3 from bl_own HW2.out HO.out hg (Nat.le_refl _) HW2.out.size)
           clear hown hg))
      go_loopw [12] (fun p wr => ∃ (q : Nat), xs.length + ys.length + q ≤ 2 * xs.length - 1 ∧ wr.ownsRow w.heap.size 3 1 p (xs.length + ys.length + q) ((xs ++ ys ++ List.replicate q (nth xs 0)).map (Value.int .i64)) ∧ Below w.heap.size w wr) (fun p _ => 2 * xs.length - rowLen p)
      case atStart => exact ⟨0, by omega, by simpa using HO3.out, HW3.out⟩
      case round =>
        obtain ⟨q, hq, hop, hb⟩ := hrel
        obtain ⟨P, pc, rfl, hpc, _⟩ := own_reads hop
        have HOP := Lib.hid hop
        have HWR := Lib.hid hb
        obtain ⟨ad', e, hd⟩ := HR.out.2.1 0 h0
        injection e with e
        subst e
        have hd1 : wr.cell? ad = some (Value.int .i64 (nth xs 0)) := (show ad.add 0 = ad by unfold Addr.add; simp) ▸ (bl_cell hb hd)
        clear hop hb hd
        by_cases hlt2 : xs.length + ys.length + q < 2 * xs.length - 1
        · have t1 : ((xs.length + ys.length + q : Nat) : Int) < 2 * ((xs.length : Int) - 1) + 1 := by omega
          go_wp2_with (at_builtin; refine app1 w.heap.size rfl _ _ 22 3 (.int .i64 0) 1 8 rfl Try.underlying22 Try.info3 rfl (by decide) (by decide) (.slice P (xs.length + ys.length + q) pc) (xs.length + ys.length + q) _ [.int .i64 (nth xs 0)] rfl rfl rfl (by simp [Value.oneCell']) HOP.out HWR.out.size (by omega) ?_; intro v1 w4 hown1 hg1 hne1; clear hne1
                       have HW4 := Lib.hid (bl_own HWR.out HOP.out hg1 (Nat.le_refl _) HWR.out.size)
                       obtain ⟨P1, pc1, rfl, hpc1, _⟩ := own_reads hown1
                       have HO4 := Lib.hid hown1
                       clear hown1 hg1)
          go_roundw
          case rel => exact ⟨q + 1, by omega, by simpa [List.replicate_succ', Nat.add_assoc] using HO4.out, HW4.out⟩
          case measure => simp [rowLen]; omega
        · have hn : xs.length + ys.length + q = 2 * xs.length - 1 := by omega
          obtain ⟨L, hL⟩ : ∃ L, xs ++ ys ++ List.replicate q (nth xs 0) = L := ⟨_, rfl⟩
          have hLl : L.length = 2 * xs.length - 1 := by rw [← hL, ← hn]; simp; omega
          have HLI : Hid (∀ k : Nat, k < L.length → -9223372036854775808 ≤ nth L k ∧ nth L k ≤ 9223372036854775807) := Lib.hid (fun k hk => by
            have hm : nth L k ∈ xs ++ ys ++ List.replicate q (nth xs 0) := by rw [hL]; exact nth_mem L k hk
            rcases List.mem_append.1 hm with h | h
            · rcases List.mem_append.1 h with h | h
              · obtain ⟨j, hj, e⟩ := List.getElem_of_mem h
                have := HI.out j hj
                rw [nth_eq xs j hj, e] at this; exact this
              · obtain ⟨j, hj, e⟩ := List.getElem_of_mem h
                have := HS.out.2.2 j hj
                rw [nth_eq ys j hj, e] at this; exact this
            · rw [(List.mem_replicate.1 h).2]; exact r0)
          have ho : wr.ownsRow w.heap.size 3 1 (.slice P L.length pc) L.length (L.map (Value.int .i64)) := by
            have := HOP.out
            rw [hL, hn, ← hLl] at this
            exact this
          obtain ⟨P', pc', hv, hpc', hrd⟩ := own_rdI ho (by omega) HLI.out
          injection hv with v1 v2 v3
          subst v1
          subst v3
          have HT := Lib.hid (turned_any P pc L by' wr hrd hpc' (by omega) (by omega) hb1 hb2)
          generalize hT : L.drop (turnN L.length by') ++ L.take (turnN L.length by') = T at HT
          have hTp : T.Perm L := by rw [← hT]; exact List.perm_append_comm.trans (by rw [List.take_append_drop])
          have hTl : T.length = 2 * xs.length - 1 := by rw [hTp.length_eq, hLl]
          have HTI : Hid (∀ k : Nat, k < T.length → -9223372036854775808 ≤ nth T k ∧ nth T k ≤ 9223372036854775807) := Lib.hid (fun k hk => by
            have hm : nth T k ∈ L := hTp.mem_iff.1 (nth_mem T k hk)
            obtain ⟨j, hj, e⟩ := List.getElem_of_mem hm
            have := HLI.out j hj
            rw [nth_eq L j hj, e] at this; exact this)
          have hm := right_mid xs ys q (nth xs 0) T (by rw [hL]; exact hTp) (nth_mem xs 0 h0) hn hy a b (fun x hx => by
            obtain ⟨j, hj, e⟩ := List.getElem_of_mem hx
            have := HALL.out j hj
            rw [nth_eq xs j hj, e] at this; exact this)
          have HD := Lib.hid (med_mid T xs.length h0 hTl)
          have hTM := trim_mid T xs.length h0 hTl
          generalize nth (srt T) (xs.length - 1) = V at hm HD hTM
          have HM := Lib.hid (show ((trimG T ((xs.length : Int) - 1)).1 + (trimG T ((xs.length : Int) - 1)).2.1) / 2 = V ∧ (trimG T ((xs.length : Int) - 1)).2.2 = true by rw [hTM]; exact ⟨by dsimp only; omega, rfl⟩)
          clear hTM hL hT
          have hm1 := hm.1
          have hm2 := hm.2
          rw [hLl] at HT
          have HTp := Lib.hid hTp
          have HTL := Lib.hid hTl
          clear hTp ho hrd hm hTl
          have t1 : ¬ ((xs.length + ys.length + q : Nat) : Int) < 2 * ((xs.length : Int) - 1) + 1 := by omega
          rw [hn] at t1 ⊢
          have t2 : ¬ ((2 * xs.length - 1 : Nat) : Int) < 2 * ((xs.length : Int) - 1) + 1 := by omega
          clear hLl
          go_wp2_with (first
            | (go_at_call 22; refine HT.out.mono ?_; rintro e w5 ⟨⟨v, rfl, hov⟩, hb5⟩
               have hov' : w5.ownsRow wr.heap.size 3 1 v T.length (T.map (Value.int .i64)) := by rw [HTL.out]; exact hov
               obtain ⟨Q, qc, rfl, hqc, hrq⟩ := own_rdI hov' (by have := HTL.out; omega) HTI.out
               have HRQ := Lib.hid hrq
               clear hov hov' hrq)
            | (go_at_call 9; refine (Median_any Q qc T w5 HRQ.out).mono ?_; rw [HD.out]; rintro e w6 ⟨rfl, hb6⟩)
            | (go_at_call 12; refine (Middle_any Q qc T _ w6 (HRQ.out.below hb6) (by omega) (by omega)).mono ?_; rw [HM.out.1, HM.out.2]; rintro e w7 ⟨rfl, hb7⟩))
          go_ret
          exact ⟨rfl, bl_next (bl_next (bl_next HWR.out hb5) hb6) hb7⟩

set_option maxHeartbeats 2000000 in
theorem VoteRight_skip (A : Option Addr) (n c : Nat) (B : Option Addr) (m d : Nat) (by' : Int) (w : World) (h : ¬ (n ≤ 100 ∧ 0 < n ∧ m < n)) :
    Calls Try.prog 6 #[.slice A n c, .slice B m d, .int .i64 by'] w fun e w' => e = .returned (.bool true) ∧ Below w.heap.size w w' := by
  by_cases h1 : 100 < n
  · go_enter Try.func6, Try.ntmps6
    go_wp2_with (go_at_call 21; refine (alive_any w).mono ?_; rintro e w1 ⟨rfl, hw1⟩)
    go_ret
    exact ⟨rfl, hw1⟩
  · by_cases h2 : n = 0
    · subst h2
      go_enter Try.func6, Try.ntmps6
      go_wp2_with (go_at_call 21; refine (alive_any w).mono ?_; rintro e w1 ⟨rfl, hw1⟩)
      go_ret
      exact ⟨rfl, hw1⟩
    · have h3 : n ≤ m := by omega
      go_enter Try.func6, Try.ntmps6
      go_wp2_with (go_at_call 21; refine (alive_any w).mono ?_; rintro e w1 ⟨rfl, hw1⟩)
      go_ret
      exact ⟨rfl, hw1⟩
end Go.Proofs.Ytnjdbohhmjolgaa
