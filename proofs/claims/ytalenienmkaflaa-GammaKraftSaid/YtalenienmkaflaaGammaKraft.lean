/- GammaKraft: of all numbers of at most k digits the bits leave just the k-th part of a half, halved again and again; for every input; what was there stands below. -/
import Derived.Test.YtalenienmkaflaaGammaW
import Derived.Test.YtalenienmkaflaaShut
namespace Go.Proofs.Ytalenienmkaflaa
open Go.RowKit

theorem plain_two : (⟨(Gm.plain 2).toArray⟩ : ByteArray) = ⟨#[48, 49, 48]⟩ := by decide +kernel

/-- A round of the loop. -/
def KraftRound (k n : Nat) : Prop := ∃ (t : ByteArray) (m : Nat), TextAns 35 (n : Int) t ∧ t.size ≤ 2 * k ∧ m = 2 * k - t.size ∧ Gm.ks k (n + 1) = Gm.ks k n + 2 ^ m

theorem kraftRound {k n : Nat} (h1 : 1 ≤ n) (hk : k ≤ 8) (hn : n < 2 ^ k) : KraftRound k n := by
  have h256 : 2 ^ k ≤ 2 ^ 8 := Nat.pow_le_pow_right (by decide) hk
  have hL : G.L n ≤ k := G.L_le.2 hn
  have hp := G.L_pos.2 (show n ≠ 0 by omega)
  refine ⟨⟨(Gm.plain n).toArray⟩, _, fun w => Gamma_ok n w h1 (by omega), ?_, rfl, ?_⟩
  · show (List.toArray _).size ≤ _
    rw [List.size_toArray, Gm.plain_length _ (by omega)]
    omega
  · rw [Gm.ks, if_neg (by omega)]
    congr 3
    show _ = (List.toArray _).size
    rw [List.size_toArray, Gm.plain_length _ (by omega)]

set_option maxRecDepth 100000 in
set_option maxHeartbeats 4000000 in
theorem gammaKraft_core (a0 : Int) (j N M : Nat) (w : World) (hj : j ≤ 7) (hN : N = 2 ^ (1 + j)) (hM : M = 2 ^ (2 * (1 + j))) (hMb : M ≤ 65536) (hNb : N ≤ 256) (hNM : Gm.ks (1 + j) N + N = M) (t1 : TextAns 35 2 ⟨#[48, 49, 48]⟩)
    (w1 : Ans1 21 #[.int .i64 a0, .int .i64 8] (.int .i64 j)) (hR : Hid (∀ n, 1 ≤ n → n < N → KraftRound (1 + j) n)) :
    Calls Try.prog 17 #[.int .i64 a0] w fun e w' => e = .returned (.bool true) ∧ Below w.heap.size w w' := by
  have e1 : (2 : Int) ^ (1 + j) = (N : Int) := by rw [hN, Int.natCast_pow]; rfl
  have e2 : (2 : Int) ^ (2 * (1 + j)) = (M : Int) := by rw [hM, Int.natCast_pow]; rfl
  have p1 : IntKind.i64.wrap (2 * (1 + (j : Int))) = 2 * (1 + (j : Int)) := IntWalk.i64_in _ (by omega)
  have HN := Lib.hid hN; have HM := Lib.hid hM; have HNM := Lib.hid hNM
  have hmono : Hid (∀ n, n ≤ N → Gm.ks (1 + j) n ≤ 65536) := Lib.hid fun n hn => by have := Gm.ks_mono (1 + j) hn; omega
  clear hN hM hNM
  go_enter Try.func17, Try.ntmps17
  go_wp2_with fail
  with_reducible refine t1.use ?_
  rintro e x1 ⟨rfl, hb1⟩
  have HB := Lib.hid hb1
  clear hb1
  go_wp2_with fail
  with_reducible refine w1.use ?_
  rintro e w' ⟨rfl, rfl⟩
  go_wp2_with fail
  go_loopw [5, 6] (fun s i wr => ∃ n : Nat, 1 ≤ n ∧ n ≤ N ∧ i = .int .i64 n ∧ s = .int .i64 (Gm.ks (1 + j) n) ∧ Hid (Below w.heap.size w wr)) (fun _ i _ => N - (intOf i).toNat)
  case atStart => exact ⟨1, by omega, by have := HN.out; have := Nat.two_pow_pos (1 + j); omega, rfl, rfl, HB⟩
  case round =>
    obtain ⟨n, hn1, hnN, rfl, rfl, hB⟩ := hrel
    by_cases hlt : n < N
    · obtain ⟨t, m, hg, hts, hm, hks⟩ := hR.out n hn1 hlt
      have hs1 := hmono.out n hnN
      have hs2 := hmono.out (n + 1) hlt
      rw [hks] at hs2
      have HKS := Lib.hid hks
      have e3 : (2 : Int) * (1 + (j : Int)) - (t.size : Int) = (m : Int) := by omega
      obtain ⟨x, hx⟩ : ∃ x, x = 2 ^ m := ⟨_, rfl⟩
      have e4 : (2 : Int) ^ m = (x : Int) := by rw [hx, Int.natCast_pow]; rfl
      have hm16 : m ≤ 16 := by omega
      rw [← hx] at hs2
      have HX := Lib.hid hx; have HMM := Lib.hid hm
      generalize Gm.ks (1 + j) n = s at *
      clear hks hx hm
      go_wp2_with fail
      with_reducible refine hg.use ?_
      rintro e x2 ⟨rfl, hb2⟩
      have HB2 := Lib.hid (hB.out.trans (hb2.mono hB.out.size))
      clear hb2 hB
      go_wp2_with fail
      go_round
      case rel => exact ⟨n + 1, by omega, hlt, by go_num, by rw [HKS.out, ← HX.out]; go_num, HB2⟩
      case measure => simp [intOf]; omega
    · obtain rfl : n = N := by omega
      have hfin : ((Gm.ks (1 + j) n : Nat) : Int) = (M : Int) - (n : Int) := by have := HNM.out; omega
      rw [hfin]
      clear hfin
      go_wp2_with fail
      go_quiet (fail)
      go_wp2_with fail
      go_ret
      refine ⟨?_, ⟨hB.out.os, hB.out.tape, hB.out.output, hB.out.size, hB.out.block⟩⟩
      first
        | rfl
        | simp [e1, e2]

theorem gammaKraft_walk (a0 : Int) (_ : (Lit.int .i64 a0).wf = true) (w : World) :
    Calls Try.prog 17 #[.int .i64 a0] w fun e w' => e = .returned (.bool true) ∧ Below w.heap.size w w' := by
  have hj := wi_lt a0 8 (by decide)
  have w1 := within_is (k := a0) (n := 8) (N := 8) rfl (by omega) (by omega) rfl
  generalize wi a0 8 = j at *
  have h1 : 2 ^ (1 + j) ≤ 2 ^ 8 := Nat.pow_le_pow_right (by decide) (by omega)
  have h2 : 2 ^ (2 * (1 + j)) ≤ 2 ^ 16 := Nat.pow_le_pow_right (by decide) (by omega)
  exact gammaKraft_core a0 j _ _ w (by omega) rfl rfl (by omega) (by omega) (Gm.ks_all (1 + j) (by omega) (by omega)) (fun w => by have := Gamma_ok 2 w (by omega) (by omega); rwa [plain_two] at this) w1
    (Lib.hid fun n hn1 hn2 => kraftRound hn1 (by omega) hn2)

end Go.Proofs.Ytalenienmkaflaa
