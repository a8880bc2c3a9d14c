/- bag.Put, whole. -/
import Derived.Test.YteddendidjhmbaaBgW7
namespace Go.Proofs.Yteddendidjhmbaa
open Go.RowKit

theorem Put_I (a : Option Addr) (n c : Nat) (ts : List Bg.It) (t : ByteArray) (w : World) (hT : ISl w a n c ts) (hs : ∀ t ∈ ts, t.text.size ≤ maxLen) (htm : t.size ≤ maxLen) :
    Calls Try.prog 22 #[.slice a n c, .string t] w (PutTo w (Bg.putR Bg.Pr ts t)) := by
  by_cases h0 : Bg.checkE Bg.Pr ts = 0
  · by_cases ht : 64 < t.size
    · have := Put_large a n c ts t w hT hs h0 ht htm
      unfold Bg.putR
      rw [if_neg (fun h => h h0), if_pos ht]
      exact this
    · cases hr : ts.findIdx? (Bg.same t) with
      | some k =>
        have hk := (idx_some hr).2
        have := Put_there a n c ts t k w hT hs h0 (by omega) hr hk _ rfl
        unfold Bg.putR
        rw [if_neg (fun h => h h0), if_neg ht, hr]
        simp only [List.getElem?_eq_getElem hk]
        exact this
      | none =>
        by_cases hn : n = 64
        · have := Put_full a n c ts t w hT hs h0 (by omega) hr hn
          unfold Bg.putR
          rw [if_neg (fun h => h h0), if_neg ht, hr]
          simp only
          rw [if_pos (by rw [hT.len]; exact hn)]
          exact this
        · obtain ⟨k, hk, h1, h2⟩ := Bg.free_ex (Bg.check_sorted h0) (Bg.Pr t)
          have := Put_new a n c ts t w hT hs h0 (by omega) hr hn k hk h1 h2
          unfold Bg.putR
          rw [if_neg (fun h => h h0), if_neg ht, hr]
          simp only
          rw [if_neg (by rw [hT.len]; exact hn), Bg.free_at hk h1 h2]
          exact this
  · have := Put_bad a n c ts t _ w hT hs rfl h0
    unfold Bg.putR
    rw [if_pos h0]
    exact this

end Go.Proofs.Yteddendidjhmbaa
