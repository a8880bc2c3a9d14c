/- Walks of the references on reservations, of kinds, of a turn's reader. -/
import Derived.Test.YtenkdpogdfcbgaaGreatRgPr
import Derived.Test.YtenkdpogdfcbgaaGreatQuW4
namespace Go.Proofs.YtenkdpogdfcbgaaGreat.Rs
open Go.RowKit

theorem key_hit {ts : List Qu.T} {x : Int} {j : Nat} (hj : j < ts.length) (h : ts[j].1 = x) (hb : ∀ m (hm : m < ts.length), m < j → ts[m].1 ≠ x) : Rg.key ts x = ts[j].2 := by
  unfold Rg.key
  have : ts.find? (Qu.tg x) = some ts[j] := by
    rw [List.find?_eq_some_iff_getElem]
    exact ⟨by simpa [Qu.tg] using h, j, hj, rfl, fun m hm => by simpa [Qu.tg] using hb m (by omega) hm⟩
  rw [this]

theorem key_miss {ts : List Qu.T} {x : Int} (hb : ∀ m (hm : m < ts.length), ts[m].1 ≠ x) : Rg.key ts x = 0 := by
  unfold Rg.key
  have : ts.find? (Qu.tg x) = none := by
    rw [List.find?_eq_none]
    intro t ht
    obtain ⟨m, hm, rfl⟩ := List.getElem_of_mem ht
    simpa [Qu.tg] using hb m hm
  rw [this]

theorem key_pos {ts : List Qu.T} (h1 : ∀ t, t ∈ ts → 1 ≤ t.2) (x : Int) : decide (0 < Rg.key ts x) = Qu.has ts x := by
  rcases idx_cases ts x with ⟨h, -⟩ | ⟨i, hi, -, h2, -, h4⟩
  · rw [Rg.key_none h, h]; rfl
  · rw [h2, h4]
    have := h1 _ (List.getElem_mem hi)
    exact decide_eq_true (by omega)

set_option maxRecDepth 100000 in
set_option maxHeartbeats 2000000 in
theorem Equal_R (a b : Option Addr) (n c1 c2 : Nat) (l : List Qu.T) (w : World) (h1 : TSl w a n c1 l) (h2 : TSl w b n c2 l) (hn : n ≤ 1099511627776) :
    Calls Tryz.prog 40 #[.slice a n c1, .slice b n c2] w fun e w' => e = .returned (.bool true) ∧ ∃ q, w' = w.drewN q := by
  have H1 := Lib.hid h1; have H2 := Lib.hid h2; clear h1 h2
  go_enter Tryz.func40, Tryz.ntmps40
  go_wp2_with fail
  go_loopw [13] (fun x wr => ∃ k : Nat, k ≤ n ∧ x = .int .i64 k ∧ ∃ j, wr = w.drewN j) (fun x _ => n - (intOf x).toNat)
  case atStart => exact ⟨0, Nat.zero_le _, rfl, 0, rfl⟩
  case round =>
    obtain ⟨k, hk, rfl, hj⟩ := hrel
    by_cases hlt : k < n
    · have hk' : k < l.length := by rw [H1.out.len]; exact hlt
      have hne : l ≠ [] := by rintro rfl; simp at hk'
      obtain ⟨A, o1, rfl, -, e1⟩ := H1.out.at_ hne
      obtain ⟨B, o2, rfl, -, e2⟩ := H2.out.at_ hne
      obtain ⟨g1, g1'⟩ := e1 k l[k] (List.getElem?_eq_getElem hk')
      obtain ⟨g2, g2'⟩ := e2 k l[k] (List.getElem?_eq_getElem hk')
      clear e1 e2 hne
      generalize l[k].1 = x at *
      generalize l[k].2 = y at *
      obtain ⟨j, rfl⟩ := hj
      go_wp2_with fail
      go_region
      all_goals
        go_wp2_with fail
        go_roundw
        case rel => exact ⟨k + 1, hlt, by go_num, j + 1, rfl⟩
        case measure => simp [intOf]; omega
    · obtain rfl : k = n := by omega
      go_wp2_with fail
      go_ret
      exact ⟨rfl, hj⟩

set_option maxRecDepth 100000 in
set_option maxHeartbeats 4000000 in
theorem Same_R (g k q : Int) (a b : Option Addr) (n c1 c2 : Nat) (ts : List Qu.T) (w : World) (h1 : TSl w a n c1 ts) (h2 : TSl w b n c2 ts) (hn : n ≤ 1000000) :
    Calls Tryz.prog 15 #[.agg #[.int .i64 g, .slice a n c1, .int .i64 k, .int .i64 q], .agg #[.int .i64 g, .slice b n c2, .int .i64 k, .int .i64 q]] w fun e w' => e = .returned (.bool true) ∧ Below w.heap.size w w' := by
  have HB : Hid (∀ o o', Below w.heap.size w ((w.alloc o).alloc o')) := boxes_b w
  have E1 := fun o o' => Equal_R a b n c1 c2 ts ((w.alloc o).alloc o') (h1.keep (HB.out o o')) (h2.keep (HB.out o o')) (by omega)
  clear h1 h2
  go_enter Tryz.func15, Tryz.ntmps15
  go_wp2_with fail
  with_reducible refine (E1 _ _).mono ?_
  rintro e w1 ⟨rfl, kk, rfl⟩
  go_wp2_with fail
  go_ret
  exact ⟨rfl, below_drewN (HB.out _ _) _⟩

end Go.Proofs.YtenkdpogdfcbgaaGreat.Rs
