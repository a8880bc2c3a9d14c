/- The walks of lz.one and lz.Expand: what tokens make. -/
import Derived.Test.YtdmfgdhfkceihaaLzP
import Derived.Test.YtdmfgdhfkceihaaArgs3
import Derived.Test.YtdmfgdhfkceihaaUse
import Derived.Deep.RegionLaw
import Derived.Laws.IdiomStrings
import Derived.Lib.ConvBytes
import Derived.Lib.Hide
import Derived.Lib.BufferRead
namespace Go.Proofs.Ytdmfgdhfkceihaa
open Go.RowKit

theorem Try.infoU8 : (Try.prog.info? 5).map (fun i => (i.zero, i.size, i.bytes)) = some (some (.int .u8 0), 1, 1) := by kernel_rfl

/-- Bytes as values. -/
def bv (l : List UInt8) : List Value := l.map fun b => .int .u8 (b.toNat : Int)

theorem bv_snoc (l : List UInt8) (b : UInt8) : bv (l ++ [b]) = bv l ++ [.int .u8 (b.toNat : Int)] := by unfold bv; rw [List.map_append]; rfl
theorem bv_length (l : List UInt8) : (bv l).length = l.length := by unfold bv; simp

theorem okT_lit (d b : Int) : Lz.okT ⟨d, 0, b⟩ = ((d == 0) && decide (0 ≤ b) && decide (b < 256)) := by
  unfold Lz.okT
  rw [if_pos rfl]
  by_cases h1 : d = 0
  · by_cases h2 : 0 ≤ b
    · by_cases h3 : b < 256 <;> simp [h1, h2, h3]
    · simp [h1, h2]
  · simp [h1]

theorem okT_copy {d n b : Int} (h : (n == 0) = false) : Lz.okT ⟨d, n, b⟩ = (decide (0 < n) && decide (n ≤ 64) && decide (1 ≤ d) && decide (d ≤ 256) && (b == 0)) := by
  unfold Lz.okT
  rw [if_neg (by simpa using h)]
  by_cases h1 : 0 < n
  · by_cases h2 : n ≤ 64
    · by_cases h3 : 1 ≤ d
      · by_cases h4 : d ≤ 256
        · by_cases h5 : b = 0 <;> simp [h1, h2, h3, h4, h5]
        · simp [h1, h2, h3, h4]
      · simp [h1, h2, h3]
    · simp [h1, h2]
  · simp [h1]

set_option maxHeartbeats 1000000 in
theorem one_K (d n b : Int) (v : Bool) (hv : Lz.okT ⟨d, n, b⟩ = v) (w : World) : Calls Try.prog 23 #[.agg #[.int .i64 d, .int .i64 n, .int .i64 b]] w fun e w' => e = .returned (.bool v) ∧ Below w.heap.size w w' := by
  by_cases h0 : n = 0
  · subst h0
    rw [okT_lit] at hv
    rw [← hv]
    clear hv
    rcases h1 : (d == 0) with _ | _
    · go_enter Try.func23, Try.ntmps23
      go_wp2_with fail
      go_ret
      exact ⟨by rfl, (Below.refl _ _).alloc (Nat.le_refl _) _⟩
    · rcases h2 : decide (0 ≤ b) with _ | _
      · go_enter Try.func23, Try.ntmps23
        go_wp2_with fail
        go_ret
        exact ⟨by rfl, (Below.refl _ _).alloc (Nat.le_refl _) _⟩
      · rcases h3 : decide (b < 256) with _ | _
        all_goals
          go_enter Try.func23, Try.ntmps23
          go_wp2_with fail
          go_ret
          exact ⟨by rfl, (Below.refl _ _).alloc (Nat.le_refl _) _⟩
  · have h9 : (n == 0) = false := by simpa using h0
    rw [okT_copy h9] at hv
    rw [← hv]
    clear hv h0
    rcases h1 : decide (0 < n) with _ | _
    · go_enter Try.func23, Try.ntmps23
      go_wp2_with fail
      go_ret
      exact ⟨by rfl, (Below.refl _ _).alloc (Nat.le_refl _) _⟩
    · rcases h2 : decide (n ≤ 64) with _ | _
      · go_enter Try.func23, Try.ntmps23
        go_wp2_with fail
        go_ret
        exact ⟨by rfl, (Below.refl _ _).alloc (Nat.le_refl _) _⟩
      · rcases h3 : decide (1 ≤ d) with _ | _
        · go_enter Try.func23, Try.ntmps23
          go_wp2_with fail
          go_ret
          exact ⟨by rfl, (Below.refl _ _).alloc (Nat.le_refl _) _⟩
        · rcases h4 : decide (d ≤ 256) with _ | _
          · go_enter Try.func23, Try.ntmps23
            go_wp2_with fail
            go_ret
            exact ⟨by rfl, (Below.refl _ _).alloc (Nat.le_refl _) _⟩
          · rcases h5 : (b == 0) with _ | _
            all_goals
              go_enter Try.func23, Try.ntmps23
              go_wp2_with fail
              go_ret
              exact ⟨by rfl, (Below.refl _ _).alloc (Nat.le_refl _) _⟩

end Go.Proofs.Ytdmfgdhfkceihaa
