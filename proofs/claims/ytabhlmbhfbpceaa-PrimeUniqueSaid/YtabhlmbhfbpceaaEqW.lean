/- The walk of slices.Equal at []int, on equal rows. -/
import Derived.Test.YtabhlmbhfbpceaaRow
import Derived.BigQuiet
namespace Go.Proofs.Ytabhlmbhfbpceaa
open Go.RowKit

set_option maxRecDepth 100000 in
set_option maxHeartbeats 2000000 in
theorem Equal_same (A B : Nat) (c1 c2 : Nat) (l : List Nat) (w : World) (hl : l.length ≤ 1000)
    (h1 : ∀ j (hj : j < l.length), w.cell? ⟨A, j, none⟩ = some (.int .i64 (l[j] : Int))) (h2 : ∀ j (hj : j < l.length), w.cell? ⟨B, j, none⟩ = some (.int .i64 (l[j] : Int))) :
    Calls Try.prog 5 #[.slice (some ⟨A, 0, none⟩) l.length c1, .slice (some ⟨B, 0, none⟩) l.length c2] w fun e w' => e = .returned (.bool true) ∧ ∃ q, w' = w.drewN q := by
  have H1 := Lib.hid h1; have H2 := Lib.hid h2; clear h1 h2
  obtain ⟨n, hn⟩ : ∃ n, l.length = n := ⟨_, rfl⟩
  rw [hn] at hl ⊢
  have HN := Lib.hid hn; clear hn
  go_enter Try.func5, Try.ntmps5
  go_wp2_with fail
  go_loopw [13] (fun x wr => ∃ k : Nat, k ≤ n ∧ x = .int .i64 k ∧ ∃ j, wr = w.drewN j) (fun x _ => n - (intOf x).toNat)
  case atStart => exact ⟨0, Nat.zero_le _, rfl, 0, rfl⟩
  case round =>
    obtain ⟨k, hk, rfl, hj⟩ := hrel
    by_cases hlt : k < n
    · obtain ⟨x, hx⟩ : ∃ x : Nat, Hid (w.cell? ⟨A, k, none⟩ = some (.int .i64 (x : Int)) ∧ w.cell? ⟨B, k, none⟩ = some (.int .i64 (x : Int))) := by
        have hk' : k < l.length := by rw [HN.out]; exact hlt
        exact ⟨l[k], Lib.hid ⟨H1.out k hk', H2.out k hk'⟩⟩
      obtain ⟨j, rfl⟩ := hj
      have g1 := hx.out.1
      have g2 := hx.out.2
      go_wp2_with fail
      go_region
      all_goals
        go_wp2_with fail
        go_roundw
        case rel => exact ⟨k + 1, hlt, by go_num, j + 1, rfl⟩
        case measure => simp [intOf]; omega
    · obtain rfl : k = n := by omega
      go_wp2_with fail
      go_ret
      exact ⟨rfl, hj⟩

end Go.Proofs.Ytabhlmbhfbpceaa
