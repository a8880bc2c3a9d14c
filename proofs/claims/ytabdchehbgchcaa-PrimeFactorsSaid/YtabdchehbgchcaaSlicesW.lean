/- The walks of slices.Equal and slices.IsSorted at []int, as far as the statements need them. -/
import Derived.Test.YtabdchehbgchcaaFactW
import Derived.BigQuiet
namespace Go.Proofs.Ytabdchehbgchcaa
open Go.RowKit

set_option maxRecDepth 100000 in
set_option maxHeartbeats 2000000 in
theorem Equal_same (A B : Nat) (c1 c2 : Nat) (l : List Nat) (w : World) (hl : l.length ≤ 1000)
    (h1 : ∀ j (hj : j < l.length), w.cell? ⟨A, j, none⟩ = some (.int .i64 (l[j] : Int))) (h2 : ∀ j (hj : j < l.length), w.cell? ⟨B, j, none⟩ = some (.int .i64 (l[j] : Int))) :
    Calls Try.prog 43 #[.slice (some ⟨A, 0, none⟩) l.length c1, .slice (some ⟨B, 0, none⟩) l.length c2] w fun e w' => e = .returned (.bool true) ∧ ∃ q, w' = w.drewN q := by
  have H1 := Lib.hid h1; have H2 := Lib.hid h2; clear h1 h2
  obtain ⟨n, hn⟩ : ∃ n, l.length = n := ⟨_, rfl⟩
  rw [hn] at hl ⊢
  have HN := Lib.hid hn; clear hn
  go_enter Try.func43, Try.ntmps43
  go_wp2_with fail
  go_loopw [13] (fun x wr => ∃ k : Nat, k ≤ n ∧ x = .int .i64 k ∧ ∃ j, wr = w.drewN j) (fun x _ => n - (intOf x).toNat)
  case atStart => exact ⟨0, Nat.zero_le _, rfl, 0, rfl⟩
  case round =>
    obtain ⟨k, hk, rfl, hj⟩ := hrel
    by_cases hlt : k < n
    · obtain ⟨x, hx⟩ : ∃ x : Nat, Hid (w.cell? ⟨A, k, none⟩ = some (.int .i64 (x : Int)) ∧ w.cell? ⟨B, k, none⟩ = some (.int .i64 (x : Int))) := by
        have hk' : k < l.length := by rw [HN.out]; exact hlt
        exact ⟨l[k], Lib.hid ⟨H1.out k hk', H2.out k hk'⟩⟩
      obtain ⟨j, rfl⟩ := hj
      have g1 := hx.out.1
      have g2 := hx.out.2
      go_wp2_with fail
      go_region
      all_goals
        go_wp2_with fail
        go_roundw
        case rel => exact ⟨k + 1, hlt, by go_num, j + 1, rfl⟩
        case measure => simp [intOf]; omega
    · obtain rfl : k = n := by omega
      go_wp2_with fail
      go_ret
      exact ⟨rfl, hj⟩

theorem isNaN_int (x : Int) (w : World) : Calls Try.prog 60 #[.int .i64 x] w fun e w' => e = .returned (.bool false) ∧ w = w' := by
  go_enter Try.func60, Try.ntmps60
  go_wp2_with fail
  go_ret
  exact ⟨by simp, rfl⟩

set_option maxRecDepth 100000 in
set_option maxHeartbeats 2000000 in
theorem Less_ok (x y : Int) (w : World) (h : y ≤ x) : Calls Try.prog 55 #[.int .i64 x, .int .i64 y] w fun e w' => e = .returned (.bool false) ∧ w = w' := by
  have N1 := fun w => isNaN_int x w
  have e : decide (x < y) = false := decide_eq_false (by omega)
  clear h
  go_enter Try.func55, Try.ntmps55
  go_wp2_with fail
  refine (N1 _).mono ?_
  rintro e w' ⟨rfl, rfl⟩
  go_wp2_with fail
  go_ret
  exact ⟨rfl, rfl⟩

theorem IsSorted_nil (w : World) : Calls Try.prog 44 #[.slice none 0 0] w fun e w' => e = .returned (.bool true) ∧ ∃ q, w' = w.drewN q := by
  go_enter Try.func44, Try.ntmps44
  go_wp2_with fail
  go_loopw [3] (fun x wr => x = .int .i64 (-1) ∧ ∃ j, wr = w.drewN j) (fun _ _ => 0)
  case atStart => exact ⟨rfl, 0, rfl⟩
  case round =>
    obtain ⟨rfl, hj⟩ := hrel
    go_wp2_with fail
    go_ret
    exact ⟨rfl, hj⟩

set_option maxRecDepth 100000 in
set_option maxHeartbeats 2000000 in
theorem IsSorted_ok (A c : Nat) (l : List Nat) (w : World) (hl : l.length ≤ 1000) (hp : l.Pairwise (· ≤ ·)) (hb : ∀ x, x ∈ l → x ≤ 2147483647)
    (h1 : ∀ j (hj : j < l.length), w.cell? ⟨A, j, none⟩ = some (.int .i64 (l[j] : Int))) :
    Calls Try.prog 44 #[.slice (some ⟨A, 0, none⟩) l.length c] w fun e w' => e = .returned (.bool true) ∧ ∃ q, w' = w.drewN q := by
  have H1 := Lib.hid h1; clear h1
  obtain ⟨n, hn⟩ : ∃ n, l.length = n := ⟨_, rfl⟩
  rw [hn] at hl ⊢
  have HN := Lib.hid hn; clear hn
  have HP := Lib.hid hp; have HB := Lib.hid hb; clear hp hb
  go_enter Try.func44, Try.ntmps44
  go_wp2_with fail
  go_loopw [3] (fun x wr => ∃ k : Int, -1 ≤ k ∧ k < n ∧ x = .int .i64 k ∧ ∃ j, wr = w.drewN j) (fun x _ => (intOf x).toNat)
  case atStart => exact ⟨(n : Int) - 1, by omega, by omega, by go_num, 0, rfl⟩
  case round =>
    obtain ⟨k0, hk0, hk, rfl, hj⟩ := hrel
    by_cases hlt : 0 < k0
    · obtain ⟨k, rfl⟩ : ∃ k : Nat, k0 = (k : Int) + 1 := ⟨(k0 - 1).toNat, by omega⟩
      obtain ⟨x, y, hx⟩ : ∃ x y : Nat, Hid (w.cell? ⟨A, k + 1, none⟩ = some (.int .i64 (x : Int)) ∧ w.cell? ⟨A, k, none⟩ = some (.int .i64 (y : Int)) ∧ y ≤ x) := by
        have hk1 : k + 1 < l.length := by rw [HN.out]; omega
        have hk2 : k < l.length := by omega
        exact ⟨l[k + 1], l[k], Lib.hid ⟨H1.out (k + 1) hk1, H1.out k hk2, (List.pairwise_iff_getElem.1 HP.out) k (k + 1) hk2 hk1 (by omega)⟩⟩
      have g1 : wr.cell? ⟨A, k + 1, none⟩ = some (.int .i64 (x : Int)) := by obtain ⟨j, rfl⟩ := hj; exact hx.out.1
      have g2 : wr.cell? ⟨A, k, none⟩ = some (.int .i64 (y : Int)) := by obtain ⟨j, rfl⟩ := hj; exact hx.out.2.1
      have L1 := fun w => Less_ok x y w (by have := hx.out.2.2; omega)
      have i1 : (0 : Int) ≤ (k : Int) + 1 := by omega
      have i2 : (k : Int) < n := by omega
      have q1 : IntKind.i64.wrap ((k : Int) + 1 - 1) = (k : Int) := by rw [show (k : Int) + 1 - 1 = (k : Int) from by omega]; exact IntWalk.i64_in _ (by omega)
      go_wp2_with fail
      go_quiet ((go_at_call 55; exact Calls.quiet_of_same ((L1 _).mono fun _ _ ⟨h1, h2⟩ => ⟨h1, h2.symm⟩)))
      go_wp2_with fail
      go_roundw
      case rel => exact ⟨k, by omega, by omega, by go_num, by obtain ⟨j, rfl⟩ := hj; exact ⟨_, dd _ _ _⟩⟩
      case measure => simp [intOf]
    · go_wp2_with fail
      go_ret
      exact ⟨rfl, hj⟩

end Go.Proofs.Ytabdchehbgchcaa
