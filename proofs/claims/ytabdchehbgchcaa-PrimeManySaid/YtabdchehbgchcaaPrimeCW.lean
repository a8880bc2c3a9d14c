/- The walks of prime.moebius and prime.Count. -/
import Derived.Test.YtabdchehbgchcaaAns
import Derived.Test.YtabdchehbgchcaaPrimeC
namespace Go.Proofs.Ytabdchehbgchcaa
open Go.RowKit

theorem wr64 {x : Int} (h : -9223372036854775808 ≤ x ∧ x ≤ 9223372036854775807) : IntKind.i64.wrap x = x := IntWalk.i64_in _ h

set_option maxHeartbeats 1000000 in
theorem moebius_any (n : Nat) (w : World) (hn : n ≤ 30) :
    Calls Try.prog 45 #[.int .i64 n] w fun e w' => e = .returned (.int .i64 (G.moeb n)) ∧ w' = w := by
  go_enter Try.func45, Try.ntmps45
  go_wp2_with fail
  go_loop [0, 3, 4] (fun x o y => ∃ (N P : Nat) (O : Int), N ≤ 30 ∧ 2 ≤ P ∧ P ≤ 32 ∧ -1 ≤ O ∧ O ≤ 1 ∧ x = .int .i64 N ∧ o = .int .i64 O ∧ y = .int .i64 P ∧ Hid (G.mb (33 - P) N P O = G.moeb n)) (fun _ _ y => 40 - (intOf y).toNat)
  case atStart => exact ⟨n, 2, 1, hn, by omega, by omega, by omega, by omega, rfl, rfl, rfl, Lib.hid rfl⟩
  case round =>
    obtain ⟨N, P, O, hN, hP2, hP, hO1, hO2, rfl, rfl, rfl, hH⟩ := hrel
    have h := hH.out
    by_cases hle : P ≤ N
    · obtain ⟨f, hf⟩ : ∃ f, 33 - P = f + 1 := ⟨32 - P, by omega⟩
      have hf' : f = 33 - (P + 1) := by omega
      rw [hf, G.mb, if_pos hle, hf'] at h
      by_cases hm : N % P = 0
      · have t1 : ¬ 0 < (N : Int) % P := by rw [← Int.natCast_emod, hm]; omega
        rw [if_neg (by omega)] at h
        have ed : (N : Int) / P = ((N / P : Nat) : Int) := by rw [Int.natCast_ediv]
        have hdl : N / P ≤ N := Nat.div_le_self _ _
        have hdl2 : N / P ≤ 30 := by omega
        have dl1 : (N : Int) / P ≤ 30 := by rw [ed]; exact Int.ofNat_le.2 hdl2
        have dl0 : 0 ≤ (N : Int) / P := by rw [ed]; exact Int.natCast_nonneg _
        by_cases hm2 : N / P % P = 0
        · rw [if_pos hm2] at h
          have t2 : ((N : Int) / P % P == 0) = true := by rw [beq_iff_eq, ed, ← Int.natCast_emod, hm2]; rfl
          have HH := Lib.hid h; clear h hf hf' ed hm hm2 hH hdl hdl2
          go_wp2_with fail
          go_ret
          exact ⟨by rw [← HH.out]; rfl, rfl⟩
        · rw [if_neg hm2] at h
          have t2 : ((N : Int) / P % P == 0) = false := by rw [beq_eq_false_iff_ne, ed, ← Int.natCast_emod]; omega
          have HH := Lib.hid h; have ED := Lib.hid ed; have H2 := Lib.hid hdl2; clear h hf hf' ed hm hm2 hH hdl hdl2
          go_wp2_with fail
          go_round
          case rel => exact ⟨N / P, P + 1, -O, H2.out, by omega, by omega, by omega, by omega, by rw [ED.out], rfl, by go_num, HH⟩
          case measure => simp [intOf]; omega
      · have t1 : 0 < (N : Int) % P := by rw [← Int.natCast_emod]; omega
        rw [if_pos (by omega)] at h
        have HH := Lib.hid h; clear h hf hf' hm hH
        go_wp2_with fail
        go_round
        case rel => exact ⟨N, P + 1, O, by omega, by omega, by omega, by omega, by omega, rfl, rfl, by go_num, HH⟩
        case measure => simp [intOf]; omega
    · have h2 : O = G.moeb n := by
        rw [← h]
        cases 33 - P with
        | zero => rfl
        | succ f => rw [G.mb, if_neg hle]
      have HH := Lib.hid h2; clear h2 h hH
      go_wp2_with fail
      go_ret
      exact ⟨by rw [← HH.out]; rfl, rfl⟩

set_option maxHeartbeats 1000000 in
theorem Count_ok (n : Nat) (w : World) (h1 : 1 ≤ n) (hn : n ≤ 30) :
    Calls Try.prog 24 #[.int .i64 n] w fun e w' => e = .returned (.tuple #[.int .i64 (G.countB n), .int .i64 0]) ∧ ∃ k, w' = w.drewN k := by
  have hpos := (G.count_le n h1 hn).2.2
  have hcb := G.csum_le n n hn hn
  go_enter Try.func24, Try.ntmps24
  go_wp2_with fail
  go_loopw [4, 5] (fun s d wr => ∃ k : Nat, k ≤ n ∧ d = .int .i64 (k + 1 : Nat) ∧ s = .int .i64 (G.csum n k) ∧ ∃ j, wr = w.drewN j) (fun _ d _ => 40 - (intOf d).toNat)
  case atStart => exact ⟨0, by omega, rfl, rfl, 0, rfl⟩
  case round =>
    obtain ⟨k, hk, rfl, rfl, hj⟩ := hrel
    by_cases hlt : k < n
    · have hb := G.csum_le n k hn (by omega)
      have hc : G.csum n (k + 1) = G.csum n k + if n % (k + 1) = 0 then G.moeb (k + 1) * ((2 ^ (n / (k + 1)) : Nat) : Int) else 0 := rfl
      by_cases hm : n % (k + 1) = 0
      · have t1 : ((n : Int) % ((k : Int) + 1) == 0) = true := by
          rw [beq_iff_eq, show ((k : Int) + 1) = ((k + 1 : Nat) : Int) from by omega, ← Int.natCast_emod, hm]; rfl
        rw [if_pos hm] at hc
        have hb2 := G.csum_le n (k + 1) hn (by omega)
        rw [hc] at hb2
        have hmo := G.moeb_le (k + 1) (by omega)
        have HM : Hid (∀ w, Calls Try.prog 45 #[.int .i64 ((k : Int) + 1)] w fun e w' => e = .returned (.int .i64 (G.moeb (k + 1))) ∧ w' = w) := by
          refine Lib.hid (fun w => ?_)
          rw [show ((k : Int) + 1) = ((k + 1 : Nat) : Int) from by omega]; exact moebius_any (k + 1) w (by omega)
        have hd1 : n / (k + 1) ≤ 30 := Nat.le_trans (Nat.div_le_self _ _) hn
        have q1 : IntKind.i64.wrap ((n : Int) / ((k : Int) + 1)) = ((n / (k + 1) : Nat) : Int) := by
          rw [show ((k : Int) + 1) = ((k + 1 : Nat) : Int) from by omega, ← Int.natCast_ediv]
          generalize n / (k + 1) = Q at *
          exact wr64 (by omega)
        have hpw : 2 ^ (n / (k + 1)) ≤ 2 ^ 30 := Nat.pow_le_pow_right (by omega) hd1
        have HC := Lib.hid hc; clear hc hm
        generalize n / (k + 1) = Q at *
        have q2 : IntKind.i64.wrap (G.moeb (k + 1) * 2 ^ Q) = G.moeb (k + 1) * ((2 ^ Q : Nat) : Int) := by
          rw [two_pow_cast]
          generalize 2 ^ Q = P at *
          have h3 : G.moeb (k + 1) = -1 ∨ G.moeb (k + 1) = 0 ∨ G.moeb (k + 1) = 1 := by omega
          rcases h3 with h3 | h3 | h3 <;> rw [h3] <;> exact wr64 (by omega)
        have q3 : IntKind.i64.wrap (G.csum n k + G.moeb (k + 1) * ((2 ^ Q : Nat) : Int)) = G.csum n k + G.moeb (k + 1) * ((2 ^ Q : Nat) : Int) := wr64 (by omega)
        have HCC := HC
        clear HC
        generalize G.moeb (k + 1) * ((2 ^ Q : Nat) : Int) = V at *
        have hq64 : (Q : Int) ≤ 64 := by omega
        have qs : Op.shift .shl .i64 (G.moeb (k + 1)) .i64 (Q : Int) = pure (.int .i64 V) := by rw [shift_shl_i64 _ _ _ (by omega) hq64, Int.toNat_natCast, q2]
        have n1 : ¬ ((k : Int) + 1 = 0) := by omega
        have n2 : ¬ ((k : Int) = -1) := by omega
        clear hpw
        go_wp2_with fail
        go_quiet ((go_at_call 45; exact Calls.quiet_of_same (HM.out _)))
        clear q1 q2 q3 qs
        go_wp2_with fail
        go_roundw
        case rel => exact ⟨k + 1, by omega, by go_num, by rw [HCC.out], by obtain ⟨j, rfl⟩ := hj; exact ⟨_, dd _ _ _⟩⟩
        case measure => simp [intOf]; omega
      · have t1 : ((n : Int) % ((k : Int) + 1) == 0) = false := by
          rw [beq_eq_false_iff_ne, show ((k : Int) + 1) = ((k + 1 : Nat) : Int) from by omega, ← Int.natCast_emod]; omega
        rw [if_neg hm] at hc
        have HC := Lib.hid hc; clear hc hm
        go_wp2_with fail
        go_roundw
        case rel => exact ⟨k + 1, by omega, by go_num, by rw [HC.out, Int.add_zero], by obtain ⟨j, rfl⟩ := hj; exact ⟨_, rfl⟩⟩
        case measure => simp [intOf]; omega
    · obtain rfl : k = n := by omega
      have e1 : (G.csum k k).tdiv (k : Int) = G.countB k := rfl
      have e2 : (G.csum k k) / (k : Int) = G.countB k := by rw [← e1, Int.tdiv_eq_ediv_of_nonneg hpos]
      have hcl := G.count_le k h1 hn
      have E2 := Lib.hid e2; have E1 := Lib.hid e1; clear e1 e2
      have q1 : (G.csum k k) / (k : Int) ≤ 1073741824 := by rw [E2.out]; omega
      have q2 : 0 ≤ (G.csum k k) / (k : Int) := by rw [E2.out]; omega
      go_wp2_with fail
      go_ret2
      exact ⟨by rw [← E2.out]; rfl, hj⟩

/-- A call that answers a pair, in some order of draws. -/
def Dra2 (f : Nat) (args : Array Value) (x y : Value) : Prop := ∀ w, Calls Try.prog f args w fun e w' => e = .returned (.tuple #[x, y]) ∧ ∃ k, w' = w.drewN k
theorem Dra2.use {f : Nat} {args : Array Value} {x y : Value} {w : World} {R : Ending → World → Prop} (h : Dra2 f args x y) (hR : ∀ e w', (e = .returned (.tuple #[x, y]) ∧ ∃ k, w' = w.drewN k) → R e w') : Calls Try.prog f args w R := (h w).mono hR

theorem Count_is {n : Nat} {x : Int} (h1 : 1 ≤ n) (hn : n ≤ 30) (hx : G.countB n = x) : Dra2 24 #[.int .i64 n] (.int .i64 x) (.int .i64 0) := by
  subst hx; exact fun w => Count_ok n w h1 hn

end Go.Proofs.Ytabdchehbgchcaa
