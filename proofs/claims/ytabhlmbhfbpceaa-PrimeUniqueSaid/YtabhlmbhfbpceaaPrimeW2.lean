/- The walks of package prime: is, Rabin's test, on polynomials of one degree or more. -/
import Derived.Test.YtabhlmbhfbpceaaPrimeW
namespace Go.Proofs.Ytabhlmbhfbpceaa
open Go.RowKit

set_option maxHeartbeats 400000 in
theorem is_low (m : Nat) (w : World) (hm : m < 2) :
    Calls Try.prog 13 #[.int .i64 m] w fun e w' => e = .returned (.bool false) ∧ w = w' := by
  have D1 : ∃ x : Int, x < 1 ∧ Ans2 11 #[.int .i64 m] (.int .i64 x) (.int .i64 0) :=
    ⟨_, by have : G.L m ≤ 1 := G.L_le.2 hm; omega, Deg_is (by omega) rfl⟩
  obtain ⟨x, hx, D1⟩ := D1
  go_enter Try.func13, Try.ntmps13
  go_wp2_with fail
  refine (D1 _).mono ?_
  rintro e w' ⟨rfl, rfl⟩
  go_wp2_with fail
  go_ret
  exact ⟨rfl, rfl⟩

set_option maxRecDepth 100000 in
set_option maxHeartbeats 2000000 in
theorem is_high (m n x : Nat) (w : World) (hm : m ≤ 2147483647) (h2 : 2 ≤ m) (hn : G.L m = n + 1) (hx : G.md 2 m = x) (hx' : G.md (G.pw 2 (2 ^ n)) m = x) :
    Calls Try.prog 13 #[.int .i64 m] w fun e w' => e = .returned (.bool (G.irrB m)) ∧ w = w' := by
  have HX := Lib.hid hx; have HX' := Lib.hid hx'; clear hx hx'
  have h0 : m ≠ 0 := by omega
  have hL : G.L m ≤ 31 := G.L_le.2 (by omega)
  have hL2 : G.L 2 ≤ G.L m := G.L_mono h2
  rw [G.L_two] at hL2
  have hn1 : 1 ≤ n := by omega
  have hn2 : n ≤ 30 := by omega
  have D1 := Deg_is (a := m) (x := n) hm (by omega)
  have M1 := ModMul_is (a := 2) (b := 1) (m := m) (x := x) (by omega) (by omega) hm h0 (by rw [G.mul_one, HX.out])
  have S1 := squared_is (n := n) (N := n) rfl (by omega) hm h0 HX'.out
  have hxl : x ≤ 2147483647 := by rw [← HX.out]; exact md_le h0 hm
  have hC : G.D m (G.pw 2 (2 ^ n) ^^^ 2) := (G.md_eq_iff h0).1 (by rw [HX'.out, HX.out])
  have HC := Lib.hid hC; clear hC
  have HN := Lib.hid hn; have H0 := Lib.hid h0
  clear hn h0 hL hL2
  go_enter Try.func13, Try.ntmps13
  go_wp2_with fail
  refine (D1 _).mono ?_
  rintro e w' ⟨rfl, rfl⟩
  go_wp2_with fail
  refine (M1 _).mono ?_
  rintro e w' ⟨rfl, rfl⟩
  go_wp2_with fail
  refine (S1 _).mono ?_
  rintro e w' ⟨rfl, rfl⟩
  go_wp2_with fail
  go_loop [7] (fun y => ∃ p : Nat, 2 ≤ p ∧ p ≤ n + 1 ∧ y = .int .i64 p ∧ Hid (∀ q, q < p → G.Pr q → q ∣ n → G.gcd (G.md (G.pw 2 (2 ^ (n / q))) m ^^^ G.md 2 m) m = 1)) (fun y => 40 - (intOf y).toNat)
  case atStart => exact ⟨2, by omega, by omega, rfl, Lib.hid (fun q h1 h2 _ => absurd h2.1 (by omega))⟩
  case round =>
    obtain ⟨p, hp2, hpn, rfl, hQ⟩ := hrel
    by_cases hle : p ≤ n
    · by_cases hmod : n % p = 0
      · have t1 : ¬ 0 < (n : Int) % p := by rw [← Int.natCast_emod, hmod]; omega
        have hd : p ∣ n := Nat.dvd_of_mod_eq_zero hmod
        by_cases hpr : G.primeB p = true
        · have P1 := prime_is (n := p) (by omega) hpr
          have hPr := (G.primeB_iff p (by omega)).1 hpr
          have hdl : n / p ≤ 60 := Nat.le_trans (Nat.div_le_self _ _) (by omega)
          have ed : (n : Int) / p = ((n / p : Nat) : Int) := by rw [Int.natCast_ediv]
          have dl1 : (n : Int) / p ≤ 60 := by rw [ed]; exact Int.ofNat_le.2 hdl
          have dl0 : 0 ≤ (n : Int) / p := by rw [ed]; exact Int.natCast_nonneg _
          clear ed
          obtain ⟨Y, hY⟩ : ∃ Y, Hid (G.md (G.pw 2 (2 ^ (n / p))) m = Y) := ⟨_, Lib.hid rfl⟩
          have r : Y ≤ 2147483647 := by rw [← hY.out]; exact md_le H0.out hm
          have S2 := squared_is (n := n / p) (m := m) (N := (n : Int) / p) (by rw [Int.natCast_ediv]) hdl hm H0.out hY.out
          have bx := i64_xor_nat Y x (by omega) (by omega)
          obtain ⟨X, hX⟩ : ∃ X, Hid (Y ^^^ x = X) := ⟨_, Lib.hid rfl⟩
          have hxx : X < 2 ^ 31 := by rw [← hX.out]; exact Nat.xor_lt_two_pow (by omega) (by omega)
          rw [hX.out] at bx
          obtain ⟨g, hg⟩ : ∃ g, Hid (G.gcd X m = g) := ⟨_, Lib.hid rfl⟩
          have G1 := Gcd_is (a := X) (b := m) (by omega) hm hg.out
          have HG : Hid (G.gcd (G.md (G.pw 2 (2 ^ (n / p))) m ^^^ G.md 2 m) m = g) := Lib.hid (by rw [hY.out, HX.out, hX.out, hg.out])
          have HPr := Lib.hid hPr; have HD := Lib.hid hd
          by_cases h1 : g = 1
          · subst h1
            have NXT : Hid (∀ q, q < p + 1 → G.Pr q → q ∣ n → G.gcd (G.md (G.pw 2 (2 ^ (n / q))) m ^^^ G.md 2 m) m = 1) := by
              refine Lib.hid (fun q hq hq1 hq2 => ?_)
              by_cases hqp : q = p
              · rw [hqp]; exact HG.out
              · exact hQ.out q (by omega) hq1 hq2
            clear hmod hpr hPr hdl hY hX hxx hg hd
            go_wp2_with fail
            refine (P1 _).mono ?_
            rintro e w' ⟨rfl, rfl⟩
            go_wp2_with fail
            refine (S2 _).mono ?_
            rintro e w' ⟨rfl, rfl⟩
            go_wp2_with fail
            refine (G1 _).mono ?_
            rintro e w' ⟨rfl, rfl⟩
            go_wp2_with fail
            go_round
            case rel => exact ⟨p + 1, by omega, by omega, by go_num, NXT⟩
            case measure => simp [intOf]; omega
          · have t3 : ((g : Int) == 1) = false := by simp; omega
            have NO : Hid (G.irrB m = false) := by
              refine Lib.hid ((G.irrB_false m).2 (fun hI => h1 ?_))
              rw [← HG.out]
              exact ((G.rabin HN.out hn1).1 hI).2 p hPr hd
            clear hmod hpr hPr hdl hY hX hxx hg hd
            go_wp2_with fail
            refine (P1 _).mono ?_
            rintro e w' ⟨rfl, rfl⟩
            go_wp2_with fail
            refine (S2 _).mono ?_
            rintro e w' ⟨rfl, rfl⟩
            go_wp2_with fail
            refine (G1 _).mono ?_
            rintro e w' ⟨rfl, rfl⟩
            go_wp2_with fail
            go_ret
            exact ⟨retb NO.out.symm, rfl⟩
        · have P1 := prime_is (n := p) (b := false) (by omega) (by simpa using hpr)
          have NXT : Hid (∀ q, q < p + 1 → G.Pr q → q ∣ n → G.gcd (G.md (G.pw 2 (2 ^ (n / q))) m ^^^ G.md 2 m) m = 1) := by
            refine Lib.hid (fun q hq hq1 hq2 => ?_)
            by_cases hqp : q = p
            · rw [hqp] at hq1; exact absurd ((G.primeB_iff p (by omega)).2 hq1) hpr
            · exact hQ.out q (by omega) hq1 hq2
          clear hmod hpr hd
          go_wp2_with fail
          refine (P1 _).mono ?_
          rintro e w' ⟨rfl, rfl⟩
          go_wp2_with fail
          go_round
          case rel => exact ⟨p + 1, by omega, by omega, by go_num, NXT⟩
          case measure => simp [intOf]; omega
      · have t1 : 0 < (n : Int) % p := by rw [← Int.natCast_emod]; omega
        have NXT : Hid (∀ q, q < p + 1 → G.Pr q → q ∣ n → G.gcd (G.md (G.pw 2 (2 ^ (n / q))) m ^^^ G.md 2 m) m = 1) := by
          refine Lib.hid (fun q hq hq1 hq2 => ?_)
          by_cases hqp : q = p
          · rw [hqp] at hq2; exact absurd (Nat.mod_eq_zero_of_dvd hq2) hmod
          · exact hQ.out q (by omega) hq1 hq2
        clear hmod
        go_wp2_with fail
        go_round
        case rel => exact ⟨p + 1, by omega, by omega, by go_num, NXT⟩
        case measure => simp [intOf]; omega
    · have YES : Hid (G.irrB m = true) := by
        refine Lib.hid ((G.irrB_iff m).2 ((G.rabin HN.out hn1).2 ⟨HC.out, fun q hq hqn => hQ.out q ?_ hq hqn⟩))
        have := Nat.le_of_dvd (by omega) hqn; omega
      go_wp2_with fail
      go_ret
      exact ⟨retb YES.out.symm, rfl⟩

end Go.Proofs.Ytabhlmbhfbpceaa
